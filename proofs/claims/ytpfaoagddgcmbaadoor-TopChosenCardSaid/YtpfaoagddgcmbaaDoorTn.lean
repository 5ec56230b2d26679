/- Walks of the top chapter: the next blend; turned pairs of a blend's order. -/
import Derived.Test.YtpfaoagddgcmbaaDoorTm
namespace Go.Proofs.YtpfaoagddgcmbaaDoor
open Go.RowKit Blend04 Grade03
set_option maxRecDepth 100000
theorem results_tmp4 {fn : Func} {t u v x : Tmp} (h : fn.results = #[.tmp t, .tmp u, .tmp v, .tmp x]) (tmps : Array Value) (P : Program) (w : World) :
    (results fn tmps).run P w = .ok (.tuple #[tmps.getD t undef, tmps.getD u undef, tmps.getD v undef, tmps.getD x undef]) w := by
  simp [results, h]
set_option maxHeartbeats 4000000 in
/-- the round has one blend -/
theorem Next_one (a : Option Addr) (n k c : Nat) (l : List Int) (w : World) (h : IsL w a k c l) (h1 : 1 ≤ n) (h7 : n ≤ 7) (hk : k ≤ n) (hA : Asc n l) (hv : chN n k = 1) :
    Calls Tryd.prog 45 #[.int .i64 (n : Int), .slice a k c] w fun e w' => e = .returned (.tuple #[.slice none 0 0, .int .i64 0, .int .i64 0, .int .i64 12]) ∧ Below w.heap.size w w' := by
  have H1 := Lib.hid (bCheck_ok a n k c l w h h1 (by omega) hA (by omega))
  have H2 := Lib.hid (chooseB_any n k w (by omega) (by omega) 1 hv)
  clear h hA hv
  go_enter Tryd.func45, Tryd.ntmps45
  go_wp2_with fail
  refine H1.out.mono ?_
  rintro e w1 ⟨rfl, rfl⟩
  go_wp2_with fail
  refine H2.out.mono ?_
  rintro e w1 ⟨rfl, rfl⟩
  go_wp2_with fail
  (try simp only [Exit.inBlock, Exit.then])
  refine bodyPost_ret (results_tmp4 rfl _ _ _) rfl ?_
  exact ⟨rfl, Below.refl _ _⟩
set_option maxHeartbeats 4000000 in
theorem Next_ok (a : Option Addr) (n k c num v : Nat) (l : List Int) (w : World) (h : IsL w a k c l) (h1 : 1 ≤ n) (h7 : n ≤ 7) (hk : k ≤ n) (hA : Asc n l) (hv : chN n k = v) (hv1 : 1 < v) (hg : numG l k = (num : Int)) (hn : num < v) :
    Calls Tryd.prog 45 #[.int .i64 (n : Int), .slice a k c] w fun e w' => ∃ a' m, e = .returned (.tuple #[.slice a' k k, .int .i64 (missL l (nthL k m)), .int .i64 (missL (nthL k m) l), .int .i64 0]) ∧ m = (num + 1) % v ∧ OwnL w' 3 w.heap.size a' k k (nthL k m) ∧ Below w.heap.size w w' := by
  have H1 := Lib.hid (bCheck_ok a n k c l w h h1 (by omega) hA (by omega))
  have H2 := Lib.hid (fun w => chooseB_any n k w (by omega) (by omega) v hv)
  have hvb := chN_bd n k (by omega)
  rw [hv] at hvb
  have H3 : Hid (∀ w, IsL w a k c l → Calls Tryd.prog 89 #[.slice a k c] w fun e w' => e = .returned (.int .i64 (num : Int)) ∧ ∃ m, w' = w.drewN m) := Lib.hid (fun w h => by
    have hl := h.len
    have := number_any k a c l w h (by omega) (fun i hi => by have := hA i (by omega); omega)
    rwa [hg] at this)
  obtain ⟨m, hm⟩ : ∃ m, (num + 1) % v = m := ⟨_, rfl⟩
  have hmv : m < v := by rw [← hm]; exact Nat.mod_lt _ (by omega)
  have H4 := Lib.hid (fun w => nth_any k m w (by omega) (okN_all n (by omega) k hk m (by rw [hv]; exact hmv)))
  have w9 : IntKind.i64.wrap ((num : Int) + 1) = (num : Int) + 1 := IntWalk.i64_in _ (by omega)
  have w8 : ((num : Int) + 1) % (v : Int) = (m : Int) := by rw [← hm, Int.natCast_emod]; simp
  have w8' : ((num : Int) + 1).tmod (v : Int) = (m : Int) := by rw [Int.tmod_eq_emod_of_nonneg (by omega)]; exact w8
  have q1 : ((v : Int) == 1) = false := by simp; omega
  have q2 : (0 : Int) < (v : Int) := by omega
  have q3 : ((v : Int) == 0) = false := by simp; omega
  have HH := Lib.hid h
  have HM := Lib.hid hm
  clear h hA hv hg hm
  go_enter Tryd.func45, Tryd.ntmps45
  go_wp2_with fail
  refine H1.out.mono ?_
  rintro e w1 ⟨rfl, rfl⟩
  go_wp2_with fail
  refine (H2.out _).mono ?_
  rintro e w1 ⟨rfl, rfl⟩
  go_wp2_with fail
  refine (H3.out _ HH.out).mono ?_
  rintro e w2 ⟨rfl, dn, rfl⟩
  go_wp2_with fail
  refine (H4.out _).mono ?_
  rintro e w3 ⟨a3, rfl, o3, b3⟩
  have k3 : Below w.heap.size w w3 := (belowN (Below.refl _ w) dn).trans b3
  have hl3 := HH.out.below k3
  have hi3 := o3.isL
  go_wp2_with fail
  refine (missing_any a a3 k k c k l (nthL k m) w3 hl3 hi3 (by omega)).mono ?_
  rintro e w4 ⟨rfl, rfl⟩
  go_wp2_with fail
  refine (missing_any a3 a k k k c (nthL k m) l w3 hi3 hl3 (by omega)).mono ?_
  rintro e w4 ⟨rfl, rfl⟩
  go_wp2_with fail
  (try simp only [Exit.inBlock, Exit.then])
  refine bodyPost_ret (results_tmp4 rfl _ _ _) rfl ?_
  exact ⟨a3, m, rfl, HM.out.symm, o3, k3⟩
end Go.Proofs.YtpfaoagddgcmbaaDoor
