/- TopCoded: codes of orders as wishes. -/
import Derived.Test.YtpfaoagddgcmbaaDoorTb
import Derived.Test.YtpfaoagddgcmbaaDoorDi
import Derived.Test.YtpfaoagddgcmbaaDoorDb
import Derived.Test.YtpfaoagddgcmbaaDoorDc
import Derived.BigQuiet
import Derived.Deep.QuietTactic
namespace Dock01
open Grade03
theorem cod_all {n : Nat} {l : List Int} (h : IsO l) (hl : l.length = n) (h1 : 1 ≤ n) (h7 : n ≤ 7) : codB n l = true := by
  by_cases h6 : n < 7
  · exact List.all_eq_true.1 (cod6 n h6) l (allO_mem.2 ⟨h, hl⟩)
  · obtain rfl : n = 7 := by omega
    have hm := allO_all h hl 6 1 (by omega)
    have h0 := h.lo 0 (by omega)
    obtain ⟨x, r, rfl⟩ : ∃ x r, l = x :: r := by
      cases l with
      | nil => simp at hl
      | cons x r => exact ⟨x, r, rfl⟩
    simp only [List.take_succ_cons, List.take_zero] at hm
    simp only [List.getD_cons_zero, hl] at h0
    have hx : x = 0 ∨ x = 1 ∨ x = 2 ∨ x = 3 ∨ x = 4 ∨ x = 5 ∨ x = 6 := by omega
    rcases hx with rfl | rfl | rfl | rfl | rfl | rfl | rfl
    · exact List.all_eq_true.1 cod7_0 _ hm
    · exact List.all_eq_true.1 cod7_1 _ hm
    · exact List.all_eq_true.1 cod7_2 _ hm
    · exact List.all_eq_true.1 cod7_3 _ hm
    · exact List.all_eq_true.1 cod7_4 _ hm
    · exact List.all_eq_true.1 cod7_5 _ hm
    · exact List.all_eq_true.1 cod7_6 _ hm
structure CodF (n : Nat) (l : List Int) : Prop where
  len : (codeL l).length = n
  inl : ∀ i, i < (codeL l).length → 0 ≤ (codeL l).getD i 0 ∧ (codeL l).getD i 0 ≤ (n : Int) - 1
  srv : servesL (fatesL n (codeL l)) = true
  way : sumK wayI (fatesL n (codeL l)) n = (n : Int) * ((n : Int) - 1) / 2 - trnA l n
  park : parkL n l = l
  luck : sumK lucI (fatesL n l) n = (n : Int)
  ways : waysK l n = wantK l n
  small : wantK l n ≤ 5040
theorem cod_facts {n : Nat} {l : List Int} (h : IsO l) (hl : l.length = n) (h1 : 1 ≤ n) (h7 : n ≤ 7) : CodF n l := by
  have := cod_all h hl h1 h7
  simp only [codB, smlB, Bool.and_eq_true, decide_eq_true_eq, beq_iff_eq, List.all_eq_true] at this
  obtain ⟨⟨⟨⟨⟨⟨⟨a1, a2⟩, a3⟩, a4⟩, a5⟩, a6⟩, a7⟩, a8⟩ := this
  refine ⟨a1, fun i hi => ?_, a3, a4, a5, a6, a7, a8⟩
  have := a2 _ (List.getElem_mem hi)
  rw [List.getD, List.getElem?_eq_getElem hi]
  simp only [Option.getD_some]
  omega
theorem trnR_bound (l : List Int) (i : Nat) : ∀ k, 0 ≤ trnR l i k ∧ trnR l i k ≤ k
  | 0 => by simp [trnR]
  | k + 1 => by have := trnR_bound l i k; rw [trnR]; split <;> omega
theorem trnA_bound (l : List Int) : ∀ i, i ≤ 7 → 0 ≤ trnA l i ∧ trnA l i ≤ 7 * i
  | 0, _ => by simp [trnA]
  | i + 1, h => by have := trnA_bound l i (by omega); have := trnR_bound l i i; rw [trnA]; omega
theorem runF_end {l : List Int} {i b : Nat} : ∀ f m, ¬ (m ≤ b ∧ ((b : Int) - m) ∈ l.take i) → runF l i b f m = m
  | 0, m, _ => rfl
  | f + 1, m, h => by rw [runF, if_neg h]
theorem runF_bound {l : List Int} {i b : Nat} : ∀ f m, m ≤ b + 1 → m ≤ runF l i b f m ∧ runF l i b f m ≤ b + 1
  | 0, m, h => by rw [runF]; omega
  | f + 1, m, h => by
    rw [runF]
    split
    · have := runF_bound (l := l) (i := i) (b := b) f (m + 1) (by omega); omega
    · omega
theorem wantK_pos (l : List Int) : ∀ i, 1 ≤ wantK l i
  | 0 => by simp [wantK]
  | i + 1 => by
    rw [wantK]
    exact Nat.mul_pos (wantK_pos l i) (runF_bound _ 1 (by omega)).1
theorem wantK_mono (l : List Int) (i : Nat) : ∀ d, wantK l i ≤ wantK l (i + d)
  | 0 => Nat.le_refl _
  | d + 1 => by
    have := wantK_mono l i d
    rw [← Nat.add_assoc, wantK]
    have h1 := (runF_bound (l := l) (i := i + d) (b := (l.getD (i + d) 0).toNat) 8 1 (by omega)).1
    exact Nat.le_trans this (Nat.le_mul_of_pos_right _ h1)
end Dock01
namespace Go.Proofs.YtpfaoagddgcmbaaDoor
open Go.RowKit Dock01 Grade03
set_option maxRecDepth 100000
set_option maxHeartbeats 1000000 in
theorem before_any (a : Option Addr) (n c : Nat) (l : List Int) (x : Int) (m : Nat) (w : World) (h : IsL w a n c l) (hm : m ≤ n) (h1000 : n ≤ 1000) (Bv : Bool) (hB : decide (x ∈ l.take m) = Bv) :
    Calls Tryd.prog 25 #[.slice a n c, .int .i64 x, .int .i64 (m : Int)] w fun e w' => e = .returned (.bool Bv) ∧ Below w.heap.size w w' := by
  have hle := h.le
  have hcap := h.cap
  have hln := h.len
  have HH := Lib.hid (h.pre m c hm (by omega) (Nat.le_refl _))
  have HL : Hid ((l.take m).length = m) := Lib.hid (by simp; omega)
  have HB := Lib.hid hB
  have q0 : (m : Int) ≤ (n : Int) := by omega
  have q2 : (m : Int) ≤ (c : Int) := by omega
  generalize l.take m = L at *
  clear h hB
  go_enter Tryd.func25, Tryd.ntmps25
  go_wp2_with fail
  go_loopw [13] (fun vi wr => ∃ i : Nat, i ≤ m ∧ vi = .int .i64 (i : Int) ∧ Hid (∀ j, j < i → L.getD j 0 ≠ x) ∧ Below w.heap.size w wr) (fun vi _ => m - (intOf vi).toNat)
  case atStart => exact ⟨0, by omega, rfl, Lib.hid (fun j hj => by omega), Below.refl _ _⟩
  case round =>
    obtain ⟨i, hi, rfl, hN, hb⟩ := hrel
    have w1 : IntKind.i64.wrap ((i : Int) + 1) = (i : Int) + 1 := IntWalk.i64_in _ (by omega)
    by_cases hlt : i < m
    · have q1 : (i : Int) < (m : Int) := by omega
      have hk := HH.out.below hb
      obtain ⟨b', o', rfl, hbl, hcell⟩ := hk.cells (by omega)
      have c1 := hcell i hlt
      by_cases he : L.getD i 0 = x
      · have HR : Hid (true = Bv) := Lib.hid (by
          rw [← HB.out]
          have hi2 : i < L.length := by rw [HL.out]; exact hlt
          rw [List.getD, List.getElem?_eq_getElem hi2] at he
          simp only [Option.getD_some] at he
          simp [← he])
        rw [he] at c1
        clear hk hcell he
        go_wp2
        go_ret
        exact ⟨by rw [← HR.out]; rfl, hb⟩
      · have hN2 : Hid (∀ j, j < i + 1 → L.getD j 0 ≠ x) := Lib.hid (fun j hj => by
          by_cases e : j = i
          · rw [e]; exact he
          · exact hN.out j (by omega))
        have he2 : (L.getD i 0 == x) = false := by simpa using he
        generalize L.getD i 0 = v at *
        clear hk hcell
        go_wp2_with fail
        exact ⟨⟨i + 1, by omega, by go_num, hN2, hb⟩, by simp [intOf]; omega⟩
    · obtain rfl : i = m := by omega
      have HR : Hid (false = Bv) := Lib.hid (by
        rw [← HB.out]
        symm
        simp only [decide_eq_false_iff_not]
        intro hm
        obtain ⟨j, hj, e⟩ := List.mem_iff_getElem.1 hm
        refine hN.out j (by rw [← HL.out]; exact hj) ?_
        rw [List.getD, List.getElem?_eq_getElem hj]
        exact e)
      go_wp2
      go_ret
      exact ⟨by rw [← HR.out]; rfl, hb⟩
end Go.Proofs.YtpfaoagddgcmbaaDoor
