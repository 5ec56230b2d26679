/- Walks of chapter 11: Of, Finer, Meet. -/
import Derived.Test.YtjedmiegcbdedaaWe
import Derived.Test.YtjedmiegcbdedaaLib
namespace Go.Proofs.Ytjedmiegcbdedaa
open Go.RowKit Store11

/-- Numbers of their kind. -/
def Wf (l : List Int) : Prop := ∀ x ∈ l, (Lit.int .i64 x).wf = true
theorem Wf.get {l : List Int} (h : Wf l) (k : Nat) : (Lit.int .i64 (l.getD k 0)).wf = true := by
  rw [List.getD]
  cases hk : l[k]? with
  | none => rfl
  | some x => exact h x (List.mem_of_getElem? hk)
theorem size_pos {n : Nat} (h : sizeE n = 0) : 0 < n ∧ n ≤ 9 := by unfold sizeE at h; split at h <;> (try split at h) <;> omega

theorem ret_si {a : Option Addr} {n c : Nat} {k : IntKind} {x y : Int} (h : x = y) : Ending.returned (.tuple #[.slice a n c, .int k x]) = .returned (.tuple #[.slice a n c, .int k y]) := by rw [h]
theorem of1_any (b k : Nat) (a : Option Addr) (n c : Nat) (l : List Int) (w : World) (h : IsL w a n c l) (hc : w.cell? ⟨b, 0, none⟩ = some (.slice a n c)) (hk : k < n) :
    Calls Try.prog 61 #[.int .i64 k, .pointer (some ⟨b, 0, none⟩)] w fun e w' => e = .returned (.int .i64 (l.getD k 0)) ∧ w = w' := by
  obtain ⟨b1, o1, rfl, hb1, hc1⟩ := h.cells (by omega)
  have x1 := hc1 k hk
  have hcap := h.cap
  have hle := h.le
  have q1 : (k : Int) < (n : Int) := by omega
  clear hc1 h
  generalize l.getD k 0 = x at *
  go_enter Try.func61, Try.ntmps61
  go_wp2
  go_ret
  exact ⟨rfl, rfl⟩

theorem Of_any (a : Option Addr) (n c : Nat) (l : List Int) (w : World) (h : IsL w a n c l) (hw : Wf l) :
    Calls Try.prog 16 #[.slice a n c] w fun e w' => ∃ a' n' c', e = .returned (.tuple #[.slice a' n' c', .int .i64 (sizeE l.length)]) ∧ IsL w' a' n' c' (ofL l) ∧ Below w.heap.size w w' := by
  have hl := h.len
  by_cases hs : sizeE n = 0
  · have hp := size_pos hs
    have h2 := h.alloc (.cells #[.slice a n c] 22)
    have hbw : Below w.heap.size w (w.alloc (.cells #[.slice a n c] 22)) := (Below.refl _ _).alloc (Nat.le_refl _) _
    have hcb : (w.alloc (.cells #[.slice a n c] 22)).cell? ⟨w.heap.size, 0, none⟩ = some (.slice a n c) := by simp
    have hpb : w.heap.size < (w.alloc (.cells #[.slice a n c] 22)).heap.size := by simp
    have HL := Lib.hid hl
    have HS := Lib.hid hs
    clear hl hs
    go_enter Try.func16, Try.ntmps16
    go_wp2_with (go_at_call 59; refine (sized_any _ n c _).mono ?_; rintro e w' ⟨rfl, rfl⟩; rw [HS.out])
    generalize w.alloc (.cells #[.slice a n c] 22) = wb at *
    refine (divided_int1 61 (.pointer (some ⟨w.heap.size, 0, none⟩)) wb.heap.size n l (fun _ w' => Below wb.heap.size wb w') wb (fun _ _ => by simp [go_sem]) HL.out (by omega) rfl (Below.refl _ _) (Lib.hid fun i w1 w2 h1 h2 => h1.trans h2) hw (Lib.hid fun i w1 hi h1 hB => ?_)).mono ?_
    · refine (of1_any w.heap.size i a n c l w1 (h2.below h1) (by rw [h1.cell (p := ⟨w.heap.size, 0, none⟩) hpb]; exact hcb) hi).mono ?_
      rintro e w2 ⟨rfl, rfl⟩
      exact ⟨rfl, h1, Above.refl _ _⟩
    · rintro e w2 ⟨a', c', rfl, ho, hI, _⟩
      go_wp2
      go_ret2
      exact ⟨a', n, c', ret_si (by rw [HL.out, HS.out]), by rw [ofL, HL.out, if_pos HS.out]; exact ho.isL, hbw.trans (hI.mono hbw.size)⟩
  · have hse : (sizeE n != 0) = true := by simpa using hs
    have HL := Lib.hid hl
    have HS := Lib.hid hs
    clear hl hs
    go_enter Try.func16, Try.ntmps16
    go_wp2_with (go_at_call 59; refine (sized_any _ n c _).mono ?_; rintro e w' ⟨rfl, rfl⟩)
    go_ret2
    exact ⟨none, 0, 0, ret_si (by rw [HL.out]), by rw [ofL, HL.out, if_neg HS.out]; exact IsL.nilL _, (Below.refl _ _).alloc (Nat.le_refl _) _⟩
end Go.Proofs.Ytjedmiegcbdedaa
