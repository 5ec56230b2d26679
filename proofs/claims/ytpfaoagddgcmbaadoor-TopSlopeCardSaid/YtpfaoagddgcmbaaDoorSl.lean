/- TopSlope: plain facts. Turns around a circle; at most sixty marks and seven turns. No program in sight. -/
import Derived.Test.YtpfaoagddgcmbaaDoorBl
namespace Wrap05
open Grade03 Blend04
set_option maxRecDepth 100000
theorem cond_dec {α : Type} (p : Prop) [Decidable p] (a b : α) : (bif decide p then a else b) = if p then a else b := by by_cases h : p <;> simp [h]
/-- one more turn begins: which turns are beside turn 0 -/
def mrN (M s t : Nat) (p : Nat × Nat) : Nat × Nat :=
  bif Nat.beq t 1 then (1, 1) else bif Nat.blt (t * s % M) (p.1 * s % M) then (t, p.2) else bif Nat.blt (p.2 * s % M) (t * s % M) then (p.1, t) else p
/-- what is beside turn 0 after so many more turns -/
def opK (M s : Nat) : Nat → Nat × Nat
  | 0 => (0, 0)
  | k + 1 => mrN M s (k + 1) (opK M s k)
/-- the turn that follows -/
def nxN (T : Nat) (p : Nat × Nat) (x : Nat) : Nat := bif Nat.blt (x + p.1) T then x + p.1 else bif Nat.blt x p.2 then x + p.1 - p.2 else x - p.2
def rdF (T : Nat) (p : Nat × Nat) : Nat → Nat → List Nat
  | 0, _ => []
  | f + 1, x => x :: rdF T p f (nxN T p x)
def trN (T : Nat) (p : Nat × Nat) : Nat → Nat
  | 0 => 0
  | i + 1 => nxN T p (trN T p i)
/-- the turns around the circle -/
def rdN (M s T : Nat) : List Nat := rdF T (opK M s (T - 1)) T 0
def castL (l : List Nat) : List Int := l.map fun x : Nat => (x : Int)
def rdL (M s T : Nat) : List Int := castL (rdN M s T)
def rdI (T : Nat) (p : Nat × Nat) (i : Nat) : List Int := castL (rdF T p i 0)
theorem rdF_snoc (T : Nat) (p : Nat × Nat) : ∀ f k, rdF T p (f + 1) (trN T p k) = rdF T p f (trN T p k) ++ [trN T p (k + f)]
  | 0, k => rfl
  | f + 1, k => by
    have h := rdF_snoc T p f (k + 1)
    show trN T p k :: rdF T p (f + 1) (trN T p (k + 1)) = trN T p k :: rdF T p f (trN T p (k + 1)) ++ _
    rw [h, Nat.add_right_comm k 1 f]; rfl
theorem rdI_zero (T : Nat) (p : Nat × Nat) : rdI T p 0 = [] := rfl
theorem rdI_next (T : Nat) (p : Nat × Nat) (i : Nat) : rdI T p (i + 1) = rdI T p i ++ [(trN T p i : Int)] := by
  have := rdF_snoc T p i 0
  rw [trN, Nat.zero_add] at this
  rw [rdI, rdI, castL, castL, this, List.map_append]; rfl
theorem rdI_len (T : Nat) (p : Nat × Nat) : ∀ i, (rdI T p i).length = i
  | 0 => rfl
  | i + 1 => by rw [rdI_next, List.length_append, rdI_len T p i]; rfl
theorem nxN_eq (T : Nat) (p : Nat × Nat) (x : Nat) : nxN T p x = if x + p.1 < T then x + p.1 else if x < p.2 then x + p.1 - p.2 else x - p.2 := by
  unfold nxN
  have b1 : ∀ a b, Nat.blt a b = decide (a < b) := fun a b => by rw [Bool.eq_iff_iff]; simp [Nat.blt]; omega
  rw [b1, b1, cond_dec, cond_dec]
theorem nxN_lt {T : Nat} {p : Nat × Nat} {x : Nat} (h1 : p.1 ≤ T) (h2 : p.2 ≤ T) (hx : x < T) : nxN T p x < T ∧ (¬ x + p.1 < T → x < p.2 → p.2 ≤ x + p.1) := by
  rw [nxN_eq]
  refine ⟨?_, fun _ _ => by omega⟩
  split
  · omega
  · split <;> omega
theorem trN_lt {T : Nat} {p : Nat × Nat} (hT : 0 < T) (h1 : p.1 ≤ T) (h2 : p.2 ≤ T) : ∀ i, trN T p i < T
  | 0 => hT
  | i + 1 => (nxN_lt h1 h2 (trN_lt hT h1 h2 i)).1
theorem mrN_eq (M s t : Nat) (p : Nat × Nat) : mrN M s t p = if t = 1 then (1, 1) else if t * s % M < p.1 * s % M then (t, p.2) else if p.2 * s % M < t * s % M then (p.1, t) else p := by
  unfold mrN
  have b1 : ∀ a b, Nat.blt a b = decide (a < b) := fun a b => by rw [Bool.eq_iff_iff]; simp [Nat.blt]; omega
  have b2 : ∀ a b, Nat.beq a b = decide (a = b) := fun a b => by rw [Bool.eq_iff_iff]; simp [Nat.beq_eq]
  rw [b1, b1, b2, cond_dec, cond_dec, cond_dec]
theorem opK_le (M s : Nat) : ∀ k, (opK M s k).1 ≤ k ∧ (opK M s k).2 ≤ k
  | 0 => ⟨Nat.le_refl _, Nat.le_refl _⟩
  | k + 1 => by
    have h := opK_le M s k
    rw [opK, mrN_eq]
    split
    · exact ⟨by omega, by omega⟩
    · split
      · exact ⟨by simp, by simp; omega⟩
      · split
        · exact ⟨by simp; omega, by simp⟩
        · exact ⟨by omega, by omega⟩
/-- the orders that there are, by turns -/
def tabN : List (List (List Nat)) := [[[0]], [[0, 1]], [[0, 1, 2], [0, 2, 1]], [[0, 1, 2, 3], [0, 2, 1, 3], [0, 3, 1, 2], [0, 3, 2, 1]], [[0, 1, 2, 3, 4], [0, 2, 4, 1, 3], [0, 3, 1, 4, 2], [0, 3, 2, 1, 4], [0, 4, 1, 2, 3], [0, 4, 3, 2, 1]], [[0, 1, 2, 3, 4, 5], [0, 2, 4, 1, 3, 5], [0, 3, 1, 4, 2, 5], [0, 3, 2, 5, 1, 4], [0, 4, 1, 5, 2, 3], [0, 4, 3, 2, 1, 5], [0, 5, 1, 2, 3, 4], [0, 5, 2, 4, 1, 3], [0, 5, 3, 1, 4, 2], [0, 5, 4, 3, 2, 1]], [[0, 1, 2, 3, 4, 5, 6], [0, 2, 4, 6, 1, 3, 5], [0, 3, 6, 1, 4, 2, 5], [0, 3, 6, 2, 5, 1, 4], [0, 4, 1, 5, 2, 6, 3], [0, 4, 3, 2, 6, 1, 5], [0, 5, 1, 6, 2, 3, 4], [0, 5, 2, 4, 1, 6, 3], [0, 5, 3, 1, 6, 4, 2], [0, 5, 4, 3, 2, 1, 6], [0, 6, 1, 2, 3, 4, 5], [0, 6, 5, 4, 3, 2, 1]]]
def eqL : List Nat → List Nat → Bool
  | [], [] => true
  | x :: l, y :: m => Nat.beq x y && eqL l m
  | _, _ => false
theorem eqL_ok : ∀ l m, eqL l m = true → l = m
  | [], [], _ => rfl
  | x :: l, y :: m, h => by
    rw [eqL, Bool.and_eq_true] at h
    rw [Nat.eq_of_beq_eq_true h.1, eqL_ok l m h.2]
  | [], _ :: _, h => by simp [eqL] at h
  | _ :: _, [], h => by simp [eqL] at h
def mirL : List Nat → List Nat
  | [] => []
  | x :: l => x :: l.reverse
/-- one wrapper and number of turns -/
def slC (M s T : Nat) : Bool := bif Nat.ble T (M / Nat.gcd M s) then ((tabN.getD (T - 1) []).any fun l => eqL (rdN M s T) l) && eqL (rdN M (M - s) T) (mirL (rdN M s T)) else true
def slM (M : Nat) : Bool := (List.range M).all fun s => bif Nat.beq s 0 then true else (List.range 8).all fun T => bif Nat.beq T 0 then true else slC M s T
theorem slM_all : ((List.range 61).all slM) = true := by decide +kernel
def slS (m : Nat) : Nat := m * (m - 1) / 2
def slB (T : Nat) (l : List Nat) : Bool :=
  let a := castL l
  let b := castL (mirL l)
  a.length == T && b.length == T && chkE a == 0 && chkE b == 0 && sumL (codeL a ++ codeL b) == (slS (T - 1) : Int) && (difL a b).length == slS (T - 1) && sumL (codeL a) + sumL (codeL b) == (slS (T - 1) : Int)
theorem slB_all : ((List.range 8).all fun T => (tabN.getD (T - 1) []).all fun l => bif Nat.beq T 0 then true else slB T l) = true := by decide +kernel
structure SlF (T : Nat) (a b : List Int) : Prop where
  la : a.length = T
  lb : b.length = T
  ca : chkE a = 0
  cb : chkE b = 0
  sum : sumL (codeL a ++ codeL b) = (slS (T - 1) : Int)
  dif : (difL a b).length = slS (T - 1)
theorem sl_facts {M s T : Nat} (hM : M ≤ 60) (h1 : 1 ≤ s) (hs : s < M) (hT : 1 ≤ T) (h7 : T ≤ 7) (hA : T ≤ M / Nat.gcd M s) : SlF T (rdL M s T) (rdL M (M - s) T) := by
  have a := List.all_eq_true.1 slM_all M (List.mem_range.2 (by omega))
  have a := List.all_eq_true.1 a s (List.mem_range.2 (by omega))
  have e1 : Nat.beq s 0 = false := by rw [Bool.eq_false_iff]; intro h; have := Nat.eq_of_beq_eq_true h; omega
  have e2 : Nat.beq T 0 = false := by rw [Bool.eq_false_iff]; intro h; have := Nat.eq_of_beq_eq_true h; omega
  rw [e1, cond_false] at a
  have a := List.all_eq_true.1 a T (List.mem_range.2 (by omega))
  rw [e2, cond_false, slC, Nat.ble_eq_true_of_le hA, cond_true, Bool.and_eq_true] at a
  obtain ⟨l, hl, he⟩ := List.any_eq_true.1 a.1
  have b := List.all_eq_true.1 slB_all T (List.mem_range.2 (by omega))
  have b := List.all_eq_true.1 b l hl
  rw [e2, cond_false] at b
  simp only [slB, Bool.and_eq_true, beq_iff_eq] at b
  obtain ⟨⟨⟨⟨⟨⟨b1, b2⟩, b3⟩, b4⟩, b6⟩, b7⟩, b8⟩ := b
  have h2 : rdN M s T = l := eqL_ok _ _ he
  have h3 : rdN M (M - s) T = mirL l := by rw [eqL_ok _ _ a.2, h2]
  rw [rdL, rdL, h2, h3]
  exact ⟨b1, b2, b3, b4, b6, b7⟩
end Wrap05
