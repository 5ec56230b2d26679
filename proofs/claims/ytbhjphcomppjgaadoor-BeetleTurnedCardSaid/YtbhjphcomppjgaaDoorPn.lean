/- Plain facts of chapter 9: blocks, as the program finds them. -/
import Derived.Test.YtbhjphcomppjgaaDoorPe
import Derived.Test.YtbhjphcomppjgaaDoorPi
namespace Beetle09
set_option maxRecDepth 100000
/-- As far as it goes on. -/
def ext (p : Nat → Bool) : Nat → Nat → Nat
  | 0, x => x
  | f + 1, x => if p (x + 1) then ext p f (x + 1) else x
theorem ext_yes {p : Nat → Bool} {f x : Nat} (h : p (x + 1) = true) : ext p (f + 1) x = ext p f (x + 1) := by rw [ext, if_pos h]
theorem ext_no {p : Nat → Bool} {f x : Nat} (h : p (x + 1) = false) : ext p (f + 1) x = x := by rw [ext, if_neg (by rw [h]; simp)]
theorem ext_spec (p : Nat → Bool) : ∀ f x, x ≤ ext p f x ∧ (∀ i, x < i → i ≤ ext p f x → p i = true) ∧ (ext p f x < x + f → p (ext p f x + 1) = false)
  | 0, x => ⟨Nat.le_refl _, fun i h1 h2 => by simp only [ext] at h2; omega, fun h => by simp only [ext] at h; omega⟩
  | f + 1, x => by
    cases h : p (x + 1) with
    | true =>
      rw [ext_yes h]
      obtain ⟨h1, h2, h3⟩ := ext_spec p f (x + 1)
      refine ⟨by omega, fun i hi1 hi2 => ?_, fun hh => h3 (by omega)⟩
      by_cases e : i = x + 1
      · rw [e]; exact h
      · exact h2 i (by omega) hi2
    | false =>
      rw [ext_no h]
      exact ⟨Nat.le_refl _, fun i h1 h2 => by omega, fun _ => h⟩
def dnP (R C s c : Nat) (i : Nat) : Bool := decide (i < R) && at' C s i c
def rtP (C s r : Nat) (j : Nat) : Bool := decide (j < C) && at' C s r j
abbrev Q4 : Type := Nat × Nat × Nat × Nat
/-- The block that begins at a bale. -/
def blkAt (R C s n : Nat) : Q4 := (n / C, n % C, ext (dnP R C s (n % C)) 5 (n / C), ext (rtP C s (n / C)) 5 (n % C))
def cut4 (R C s : Nat) (b : Q4) : Nat := cutS R C s b.1 b.2.1 b.2.2.1 b.2.2.2
def blksF (R C : Nat) : Nat → Nat → List Q4
  | 0, _ => []
  | f + 1, s => if s = 0 then [] else blkAt R C s (Go.Lib.ctz 32 s) :: blksF R C f (cut4 R C s (blkAt R C s (Go.Lib.ctz 32 s)))
theorem blksF_zero (R C f : Nat) : blksF R C f 0 = [] := by cases f <;> rfl
theorem blksF_succ {R C f s : Nat} (h : s ≠ 0) : blksF R C (f + 1) s = blkAt R C s (Go.Lib.ctz 32 s) :: blksF R C f (cut4 R C s (blkAt R C s (Go.Lib.ctz 32 s))) := by rw [blksF, if_neg h]
/-- A block while its bales are taken out. -/
def cutQ (R C s r c x y rr cc : Nat) : Nat := ofP (fun n => s.testBit n && !((decide (r ≤ n / C) && decide (n / C ≤ x) && (decide (c ≤ n % C) && decide (n % C ≤ y))) && (decide (n / C < rr) || (decide (n / C = rr) && decide (n % C < cc))))) (R * C)
theorem cutQ_lt (R C s r c x y rr cc : Nat) : cutQ R C s r c x y rr cc < 2 ^ (R * C) := ofP_lt _ _
theorem cutQ_start {R C s r c x y : Nat} (hs : s < 2 ^ (R * C)) : cutQ R C s r c x y r c = s := Nat.eq_of_testBit_eq fun n => by
  unfold cutQ
  rw [ofP_bit]
  by_cases hn : n < R * C
  · have e : ((decide (r ≤ n / C) && decide (n / C ≤ x) && (decide (c ≤ n % C) && decide (n % C ≤ y))) && (decide (n / C < r) || (decide (n / C = r) && decide (n % C < c)))) = false := by
      rw [Bool.eq_false_iff]
      intro h
      simp at h
      omega
    rw [e]; simp [hn]
  · rw [Nat.testBit_lt_two_pow (Nat.lt_of_lt_of_le hs (Nat.pow_le_pow_right (by omega) (by omega)))]; simp
theorem cutQ_end (R C s r c x y : Nat) : cutQ R C s r c x y (x + 1) c = cutS R C s r c x y := Nat.eq_of_testBit_eq fun n => by
  unfold cutQ cutS
  rw [ofP_bit, ofP_bit]
  congr 3
  by_cases h : n / C ≤ x
  · have : n / C < x + 1 := by omega
    simp [h, this]
  · simp [h]
theorem cutQ_row {R C s r c x y rr : Nat} : cutQ R C s r c x y rr (y + 1) = cutQ R C s r c x y (rr + 1) c := Nat.eq_of_testBit_eq fun n => by
  unfold cutQ
  rw [ofP_bit, ofP_bit]
  congr 3
  rw [Bool.eq_iff_iff]
  simp
  omega
theorem cutQ_del {R C s r c x y rr cc : Nat} (h25 : R * C ≤ 25) (hr : r ≤ rr ∧ rr ≤ x ∧ x < R) (hc : c ≤ cc ∧ cc ≤ y ∧ y < C) : del (cutQ R C s r c x y rr cc) (rr * C + cc) = cutQ R C s r c x y rr (cc + 1) := Nat.eq_of_testBit_eq fun n => by
  have hlt : rr * C + cc < R * C := rc_lt (by omega) (by omega)
  rw [del_bit (lt25 (cutQ_lt _ _ _ _ _ _ _ _ _) h25) (by omega)]
  unfold cutQ
  rw [ofP_bit, ofP_bit]
  by_cases hn : n < R * C
  · obtain ⟨i, j, hi, hj, rfl⟩ := rc_of hn
    rw [rc_div hj, rc_mod hj]
    by_cases e : rr * C + cc = i * C + j
    · obtain ⟨e1, e2⟩ := rc_inj (by omega) hj e
      subst e1 e2
      have h1 : r ≤ rr ∧ rr ≤ x ∧ c ≤ cc ∧ cc ≤ y := by omega
      simp [h1]
    · have h2 : ¬ (i = rr ∧ j = cc) := fun ⟨h1, h2⟩ => e (by rw [h1, h2])
      have e2 : (decide (i < rr) || (decide (i = rr) && decide (j < cc))) = (decide (i < rr) || (decide (i = rr) && decide (j < cc + 1))) := by
        rw [Bool.eq_iff_iff]; simp; omega
      rw [e2]
      simp [e]
  · simp [hn]
theorem cut_fewer {R C s r c x y : Nat} (hn : r * C + c < R * C) (h25 : R * C ≤ 25) (hc : c < C) (hs : s.testBit (r * C + c) = true) (hx : r ≤ x) (hy : c ≤ y) : pcN 25 (cutS R C s r c x y) < pcN 25 s := by
  refine pcN_lt cut_sub (x := r * C + c) (by omega) ?_ hs
  unfold cutS
  rw [ofP_bit, rc_div hc, rc_mod hc]
  simp [hx, hy]
/-- What Blocks returns. -/
def blkE (r c : Int) (S F : List Int) : Int := if openE r c S F = 0 then (if sOf F = 0 then 0 else 13) else openE r c S F
def blkL (r c : Int) (S F : List Int) : List Q4 := if blkE r c S F = 0 then blksF r.toNat c.toNat 26 (fin r.toNat c.toNat 0 (sOf S)) else []
theorem bad_blk {r c : Int} {S F : List Int} (h0 : openE r c S F ≠ 0) : blkE r c S F = openE r c S F ∧ blkL r c S F = [] := by
  have : blkE r c S F = openE r c S F := by rw [blkE, if_neg h0]
  exact ⟨this, by rw [blkL, this, if_neg h0]⟩
theorem Opn.blk {r c : Int} {S F : List Int} {R C s z : Nat} (h : Opn r c S F R C s z) (h0 : openE r c S F = 0) : blkE r c S F = (if z = 0 then 0 else 13) ∧ blkL r c S F = if z = 0 then blksF R C 26 (fin R C 0 s) else [] := by
  have e : blkE r c S F = (if z = 0 then 0 else 13) := by rw [blkE, if_pos h0, h.rz.sOf]
  refine ⟨e, ?_⟩
  rw [blkL, e, h.rs.sOf, h.er, h.ec]
  by_cases hz : z = 0
  · rw [if_pos hz, if_pos rfl, if_pos hz]; rfl
  · rw [if_neg hz, if_neg (by simp), if_neg hz]
end Beetle09
