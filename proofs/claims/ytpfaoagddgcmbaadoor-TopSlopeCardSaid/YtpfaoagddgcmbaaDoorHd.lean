/- Walks of chapter 2: slices.SortFunc of heaps. -/
import Derived.Test.YtpfaoagddgcmbaaDoorHc
namespace Go.Proofs.YtpfaoagddgcmbaaDoor
open Go.RowKit Heap02

set_option maxHeartbeats 4000000 in
set_option maxRecDepth 100000 in
theorem Len64_any (x : Nat) (w : World) (h : x < 16) : Calls Tryd.prog 135 #[.int .u64 (x : Int)] w fun e w' => ∃ v, e = .returned (.int .i64 v) ∧ w = w' := by
  have hx : x = 0 ∨ x = 1 ∨ x = 2 ∨ x = 3 ∨ x = 4 ∨ x = 5 ∨ x = 6 ∨ x = 7 ∨ x = 8 ∨ x = 9 ∨ x = 10 ∨ x = 11 ∨ x = 12 ∨ x = 13 ∨ x = 14 ∨ x = 15 := by omega
  clear h
  rcases hx with rfl | rfl | rfl | rfl | rfl | rfl | rfl | rfl | rfl | rfl | rfl | rfl | rfl | rfl | rfl | rfl
  all_goals (
    go_enter Tryd.func135, Tryd.ntmps135
    go_wp2
    go_ret
    exact ⟨_, rfl, rfl⟩)
set_option maxHeartbeats 2000000 in
theorem Len_any (x : Nat) (w : World) (h : x < 16) : Calls Tryd.prog 115 #[.int .u64 (x : Int)] w fun e w' => ∃ v, e = .returned (.int .i64 v) ∧ w = w' := by
  go_enter Tryd.func115, Tryd.ntmps115
  go_wp2_with (go_at_call 135; refine (Len64_any x w h).mono ?_; rintro e w9 ⟨v, rfl, rfl⟩)
  go_ret
  exact ⟨_, rfl, rfl⟩
set_option maxHeartbeats 4000000 in
set_option maxRecDepth 100000 in
theorem pdq_any (B b n c : Nat) (L : List Hp) (lim : Int) (w : World) (h : OwnP w 27 B (some ⟨b, 0, none⟩) n c L) (h1 : 1 ≤ n) (h10 : n ≤ 12) (hS : SmlH L) :
    Calls Tryd.prog 114 #[.slice (some ⟨b, 0, none⟩) n c, .int .i64 0, .int .i64 n, .int .i64 lim, .func (.func 96) #[] #[]] w fun e w' => e = .returned (.tuple #[]) ∧ ∃ L', OwnP w' 27 B (some ⟨b, 0, none⟩) n c L' ∧ L'.Perm L ∧ SrtK L' n ∧ But (fun k => k = b) w w' := by
  have q1 : IntKind.i64.wrap (n : Int) = (n : Int) := IntWalk.i64_in _ (by omega)
  have q2 : (n : Int) ≤ 12 := by omega
  have q3 : IntKind.i64.wrap ((n : Int) - 0) = (n : Int) := by rw [Int.sub_zero]; exact q1
  have HC := Lib.hid (insert_any B b n c L w h h1 h10 hS)
  clear h hS
  go_enter Tryd.func114, Tryd.ntmps114
  go_wp2_with fail
  go_loopw [1, 2] (fun va vb wr => va = .int .i64 0 ∧ vb = .int .i64 (n : Int) ∧ w = wr) (fun _ _ _ => 0)
  case atStart => exact ⟨rfl, rfl, rfl⟩
  case round =>
    obtain ⟨rfl, rfl, rfl⟩ := hrel
    go_wp2_with fail
    refine HC.out.mono ?_
    rintro e w2 ⟨rfl, L', h1, h2, h3, h4⟩
    go_wp2_with fail
    (try simp only [Exit.inBlock, Exit.then])
    refine bodyPost_ret (results_none rfl _ _ _) rfl ?_
    exact ⟨rfl, L', h1, h2, h3, h4⟩
set_option maxHeartbeats 4000000 in
set_option maxRecDepth 100000 in
theorem sort_any (B b n c : Nat) (L : List Hp) (w : World) (h : OwnP w 27 B (some ⟨b, 0, none⟩) n c L) (h1 : 1 ≤ n) (h10 : n ≤ 12) (hS : SmlH L) :
    Calls Tryd.prog 95 #[.slice (some ⟨b, 0, none⟩) n c, .func (.func 96) #[] #[]] w fun e w' => e = .returned (.tuple #[]) ∧ ∃ L', OwnP w' 27 B (some ⟨b, 0, none⟩) n c L' ∧ L'.Perm L ∧ SrtK L' n ∧ But (fun k => k = b) w w' := by
  have q1 : IntKind.u64.wrap (n : Int) = (n : Int) := by rw [IntKind.wrap_u64]; omega
  have HC := Lib.hid (fun lim => pdq_any B b n c L lim w h h1 h10 hS)
  clear h hS
  go_enter Tryd.func95, Tryd.ntmps95
  go_wp2_with (go_at_call 115; refine (Len_any n _ (by omega)).mono ?_; rintro e w9 ⟨v, rfl, rfl⟩)
  refine (HC.out v).mono ?_
  rintro e w2 ⟨rfl, L', h1, h2, h3, h4⟩
  go_wp2_with fail
  go_end0
  exact ⟨rfl, L', h1, h2, h3, h4⟩
end Go.Proofs.YtpfaoagddgcmbaaDoor
