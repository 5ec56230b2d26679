/- Walks of chapter 2: checks, and the first plan. -/
import Derived.Test.YtpfaoagddgcmbaaDoorHi
namespace Go.Proofs.YtpfaoagddgcmbaaDoor
open Go.RowKit Heap02
def OkH (L : List Hp) : Prop := ∀ x ∈ L, 0 ≤ x.1 ∧ x.1 ≤ x.2 ∧ x.2 ≤ 23
theorem OkH.get {L : List Hp} (h : OkH L) (i : Nat) (hi : i < L.length) : 0 ≤ (L.getD i (0, 0)).1 ∧ (L.getD i (0, 0)).1 ≤ (L.getD i (0, 0)).2 ∧ (L.getD i (0, 0)).2 ≤ 23 := by
  rw [List.getD, List.getElem?_eq_getElem hi]; exact h _ (List.getElem_mem _)
theorem OkH.sml {L : List Hp} (h : OkH L) : SmlH L := fun x hx => by have := h x hx; omega
theorem between_yes (lo n hi : Int) (w : World) (h0 : lo ≤ n) (h1 : n ≤ hi) : Calls Tryd.prog 94 #[.int .i64 lo, .int .i64 n, .int .i64 hi] w fun e w' => e = .returned (.bool true) ∧ w = w' := by
  have hd : decide (n ≤ hi) = true := by simpa using h1
  have hd2 : decide (lo ≤ n) = true := by simpa using h0
  go_enter Tryd.func94, Tryd.ntmps94
  go_wp2
  go_ret
  exact ⟨rfl, rfl⟩
set_option maxHeartbeats 4000000 in
set_option maxRecDepth 100000 in
theorem CheckH_any (a : Option Addr) (n c : Nat) (L : List Hp) (w : World) (h : IsH w a n c L) (h10 : n ≤ 10) (hK : OkH L) :
    Calls Tryd.prog 54 #[.slice a n c] w fun e w' => e = .returned (.int .i64 0) ∧ Below w.heap.size w w' := by
  have q0 : ¬ (10 : Int) < (n : Int) := by omega
  have hle := h.le
  have hcap := h.cap
  have HL := Lib.hid h.len
  have HH := Lib.hid h
  have HK := Lib.hid hK
  clear h hK
  go_enter Tryd.func54, Tryd.ntmps54
  go_wp2_with fail
  go_loopw [10] (fun vi wr => ∃ i : Nat, i ≤ n ∧ vi = .int .i64 (i : Int) ∧ Below w.heap.size w wr) (fun vi _ => n - (intOf vi).toNat)
  case atStart => exact ⟨0, by omega, rfl, Below.refl _ _⟩
  case round =>
    obtain ⟨i, hi, rfl, hb⟩ := hrel
    by_cases hlt : i < n
    · have q1 : (i : Int) < (n : Int) := by omega
      have hk := HH.out.below hb
      obtain ⟨b, rfl, _, hc⟩ := hk.cells (by omega)
      obtain ⟨c1, c2⟩ := hc i hlt
      obtain ⟨g1, g2, g3⟩ := HK.out.get i (by rw [HL.out]; exact hlt)
      obtain ⟨⟨x, y⟩, hx⟩ : ∃ x, L.getD i (0, 0) = x := ⟨_, rfl⟩
      rw [hx] at c1 c2 g1 g2 g3
      simp only [] at c1 c2 g1 g2 g3
      have q2 : decide (y < x) = false := by simp; omega
      have g4 : x ≤ 23 := by omega
      have g5 : 0 ≤ y := by omega
      have hb2 : Below w.heap.size w (wr.alloc (.cells #[.int .i64 x, .int .i64 y] 27)) := hb.alloc hb.size _
      clear hc hk hx
      go_wp2_with (first | (go_at_call 94; with_reducible refine (between_yes 0 x 23 _ g1 g4).mono ?_; rintro e w9 ⟨rfl, rfl⟩) | (go_at_call 94; with_reducible refine (between_yes 0 y 23 _ g5 g3).mono ?_; rintro e w9 ⟨rfl, rfl⟩))
      go_roundw
      case rel => first | exact ⟨i + 1, by omega, by go_num, hb2⟩ | ((repeat apply Exists.intro); exact ⟨⟨i + 1, by omega, by go_num, hb2⟩, rfl⟩)
      case measure => (simp [intOf] <;> omega)
    · obtain rfl : i = n := by omega
      go_wp2_with fail
      go_ret
      exact ⟨rfl, hb⟩
set_option maxHeartbeats 2000000 in
theorem handed_any (a : Option Addr) (n c : Nat) (L : List Hp) (w : World) (h : IsH w a n c L) (h10 : n ≤ 10) (hK : OkH L) :
    Calls Tryd.prog 50 #[.slice a n c, .int .i64 1] w fun e w' => e = .returned (.int .i64 0) ∧ Below w.heap.size w w' := by
  have HC := Lib.hid (CheckH_any a n c L w h h10 hK)
  clear h hK
  go_enter Tryd.func50, Tryd.ntmps50
  go_wp2_with fail
  refine HC.out.mono ?_
  rintro e w2 ⟨rfl, b2⟩
  go_wp2_with (go_at_call 94; refine (between_yes 1 1 10 _ (by omega) (by omega)).mono ?_; rintro e w9 ⟨rfl, rfl⟩)
  go_ret
  exact ⟨rfl, b2⟩
end Go.Proofs.YtpfaoagddgcmbaaDoor
