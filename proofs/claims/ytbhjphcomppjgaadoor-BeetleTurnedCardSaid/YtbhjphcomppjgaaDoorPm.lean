/- Plain facts of chapter 9: the fewest bales to be frozen. -/
import Derived.Test.YtbhjphcomppjgaaDoorPl
namespace Beetle09
set_option maxRecDepth 100000
/-- Frozen besides, these save a bale. -/
def kpG (R C s z x : Nat) (q : Nat) : Bool := !(fin R C (z ||| q) s).testBit x
/-- What may be frozen. -/
def kpF (R C s z x : Nat) : Nat := del ((allS R C &&& (4294967295 - s)) &&& (4294967295 - z)) x
theorem kpF_bit {R C s z x i : Nat} (h25 : R * C ≤ 25) (hs : s < 2 ^ 25) (hz : z < 2 ^ 25) (hx : x < 25) : (kpF R C s z x).testBit i = (decide (i < R * C) && (!s.testBit i && (!z.testBit i && decide (x ≠ i)))) := by
  have ha := lt25 (allS_lt R C) h25
  have hs32 : s < 4294967296 := Nat.lt_of_lt_of_le hs (by decide)
  have hz32 : z < 4294967296 := Nat.lt_of_lt_of_le hz (by decide)
  have h1 : allS R C &&& (4294967295 - s) < 2 ^ 25 := Nat.lt_of_le_of_lt Nat.and_le_left ha
  have h2 : (allS R C &&& (4294967295 - s)) &&& (4294967295 - z) < 2 ^ 25 := Nat.lt_of_le_of_lt Nat.and_le_left h1
  unfold kpF
  rw [del_bit h2 hx, dif_bit h1 hz32, dif_bit ha hs32, allS_bit, Bool.and_assoc, Bool.and_assoc]
theorem kpF_lt (R C s z x : Nat) : kpF R C s z x < 2 ^ (R * C) := by
  unfold kpF del
  exact Nat.lt_of_le_of_lt Nat.and_le_left (Nat.lt_of_le_of_lt Nat.and_le_left (Nat.lt_of_le_of_lt Nat.and_le_left (allS_lt R C)))
def kpD (R C s z x m : Nat) : Option (List Nat) := dfs (fun _ _ => true) (fun l => kpG R C s z x (setL l)) (els (R * C) (kpF R C s z x)) m []
/-- Its neighbours, frozen, save a bale. -/
theorem kp_save {R C s z x : Nat} (hs : Sd R C) (h1 : s < 2 ^ (R * C)) (h2 : z < 2 ^ (R * C)) (hd : ∀ i, z.testBit i = true → s.testBit i = false) (hx : x < R * C) (hxs : s.testBit x = false) (hc : z.testBit x = false → cnt R C s x ≤ 1) : kpG R C s z x (nbS R C x &&& kpF R C s z x) = true := by
  have h25 := hs.n25
  have hx25 : x < 25 := by omega
  have hb := fun i => kpF_bit (i := i) h25 (lt25 h1 h25) (lt25 h2 h25) hx25
  let F := nbS R C x &&& kpF R C s z x
  let t := ofP (fun i => !decide (i = x) && (!z.testBit i && !F.testBit i)) (R * C)
  have htb : ∀ i, t.testBit i = (decide (i < R * C) && (!decide (i = x) && (!z.testBit i && !F.testBit i))) := fun i => ofP_bit _ _ _
  have hFb : ∀ i, F.testBit i = ((nbS R C x).testBit i && (kpF R C s z x).testBit i) := fun i => Nat.testBit_and _ _ _
  have hst : Sub s t := fun i hi => by
    rw [htb, hFb, hb, hi]
    have hiN := bit_lt h1 hi
    have hix : i ≠ x := fun e => by rw [e, hxs] at hi; cases hi
    have hzi : z.testBit i = false := by
      cases h : z.testBit i with
      | false => rfl
      | true => rw [hd i h] at hi; cases hi
    simp [hiN, hix, hzi]
  have hcl : Cl R C (z ||| F) t := fun n hn => by
    cases hg : gets R C (z ||| F) t n with
    | false => rfl
    | true =>
      obtain ⟨g1, g2, g3⟩ := gets_not hg
      rw [Nat.testBit_or, Bool.or_eq_false_iff] at g2
      rw [htb, g2.1, g2.2] at g1
      have hnx : n = x := by simpa [hn] using g1
      subst hnx
      have hle : cnt R C t n ≤ cnt R C s n := by
        unfold cnt
        refine List.countP_mono_left fun m hm hmt => ?_
        rw [htb, hFb, hb] at hmt
        have hmN := nb_lt hs hn hm
        have hnb := (nbS_bit hs hn).2 hm
        cases hms : s.testBit m with
        | true => rfl
        | false =>
          rw [hnb, hms] at hmt
          cases hzm : z.testBit m with
          | true => rw [hzm] at hmt; simp at hmt
          | false =>
            rw [hzm] at hmt
            have hmn : n ≠ m := fun e => by
              rw [e] at hmt; simp at hmt
            simp [hmN, hmn] at hmt
      have := hc g2.1
      omega
  unfold kpG
  have h3 := fin_least hst hcl
  cases hh : (fin R C (z ||| F) s).testBit x with
  | false => rfl
  | true =>
    have := h3 x hh
    rw [htb] at this
    simp at this
theorem kp_some {R C s z x : Nat} (hs : Sd R C) (h1 : s < 2 ^ (R * C)) (h2 : z < 2 ^ (R * C)) (hd : ∀ i, z.testBit i = true → s.testBit i = false) (hx : x < R * C) (hxs : s.testBit x = false) (hc : z.testBit x = false → cnt R C s x ≤ 1) : ∃ m, m ≤ 4 ∧ ∃ l, kpD R C s z x m = some l := by
  have hF : Sub (nbS R C x &&& kpF R C s z x) (kpF R C s z x) := fun i hi => by rw [Nat.testBit_and, Bool.and_eq_true] at hi; exact hi.2
  have hFl : nbS R C x &&& kpF R C s z x < 2 ^ (R * C) := Nat.lt_of_le_of_lt Nat.and_le_left (nbS_lt hs hx)
  have hlen : (els (R * C) (nbS R C x &&& kpF R C s z x)).length ≤ 4 := by
    have h4 := (els_sub (N := R * C) (o := nbS R C x &&& kpF R C s z x) (s := nbS R C x) (fun i hi => by rw [Nat.testBit_and, Bool.and_eq_true] at hi; exact hi.1)).length_le
    rw [nb_els hs hx] at h4
    have h5 : (nb R C x).length ≤ 4 := by
      unfold nb
      rw [List.length_append, List.length_append, List.length_append]
      split <;> split <;> split <;> split <;> simp
    omega
  obtain ⟨t', e, _⟩ := dfs_first (p := fun _ _ => true) (g := fun l => kpG R C s z x (setL l)) (b := []) (els_sorted (R * C) (kpF R C s z x)) (els_sub hF) rfl (by simpa [setL_els hFl] using kp_save hs h1 h2 hd hx hxs hc) (fun _ _ _ _ => rfl)
  exact ⟨_, hlen, _, e⟩
/-- The first list of the fewest. -/
def kpS (R C s z x : Nat) : Nat → Nat → List Nat
  | 0, _ => []
  | f + 1, m => match kpD R C s z x m with
    | some l => l
    | none => kpS R C s z x f (m + 1)
def kpL (R C s z x : Nat) : List Nat := kpS R C s z x 5 0
theorem kpS_skip {R C s z x : Nat} : ∀ (i f : Nat) (m : Nat), (∀ j, m ≤ j → j < m + i → kpD R C s z x j = none) → kpS R C s z x (f + i) m = kpS R C s z x f (m + i)
  | 0, f, m, _ => rfl
  | i + 1, f, m, h => by
    rw [show f + (i + 1) = (f + i) + 1 by omega, kpS, h m (Nat.le_refl _) (by omega)]
    show kpS R C s z x (f + i) (m + 1) = _
    rw [kpS_skip i f (m + 1) fun j h1 h2 => h j (by omega) (by omega), show m + 1 + i = m + (i + 1) by omega]
theorem kpL_at {R C s z x m : Nat} {l : List Nat} (hm : m < 5) (hn : ∀ j, j < m → kpD R C s z x j = none) (h : kpD R C s z x m = some l) : kpL R C s z x = l := by
  unfold kpL
  have := kpS_skip (R := R) (C := C) (s := s) (z := z) (x := x) m (5 - m) 0 fun j _ hj => hn j (by omega)
  rw [show 5 - m + m = 5 by omega, Nat.zero_add, show 5 - m = (4 - m) + 1 by omega] at this
  rw [this, kpS, h]
/-- A bale is lost. -/
def lostB (R C s z x : Nat) : Bool := s.testBit x || (!z.testBit x && decide (2 ≤ cnt R C s x))
theorem lost_no {R C s z x : Nat} (h : lostB R C s z x = false) : s.testBit x = false ∧ (z.testBit x = false → cnt R C s x ≤ 1) := by
  unfold lostB at h
  rw [Bool.or_eq_false_iff] at h
  refine ⟨h.1, fun hz => ?_⟩
  have := h.2
  rw [hz] at this
  simp at this; omega
def keepE (r c : Int) (S F : List Int) (x : Int) : Int :=
  if openE r c S F = 0 then (if x < 0 ∨ r * c ≤ x then 2 else if lostB r.toNat c.toNat (sOf S) (sOf F) x.toNat = true then 12 else 0) else openE r c S F
def keepL (r c : Int) (S F : List Int) (x : Int) : List Int := if keepE r c S F x = 0 then li (kpL r.toNat c.toNat (sOf S) (sOf F) x.toNat) else []
theorem bad_keep {r c : Int} {S F : List Int} {x : Int} (h0 : openE r c S F ≠ 0) : keepE r c S F x = openE r c S F := by rw [keepE, if_neg h0]
theorem Opn.keep {r c : Int} {S F : List Int} {R C s z : Nat} (h : Opn r c S F R C s z) (h0 : openE r c S F = 0) (x : Int) : keepE r c S F x = if x < 0 ∨ ((R * C : Nat) : Int) ≤ x then 2 else if lostB R C s z x.toNat = true then 12 else 0 := by
  rw [keepE, if_pos h0, h.rs.sOf, h.rz.sOf, h.er, h.ec, ← Int.natCast_mul]; rfl
theorem Opn.keepl {r c : Int} {S F : List Int} {R C s z : Nat} (h : Opn r c S F R C s z) (x : Int) (h0 : keepE r c S F x = 0) : keepL r c S F x = li (kpL R C s z x.toNat) := by
  rw [keepL, if_pos h0, h.rs.sOf, h.rz.sOf, h.er, h.ec]; rfl
theorem keepl_bad {r c : Int} {S F : List Int} {x : Int} (h0 : keepE r c S F x ≠ 0) : keepL r c S F x = [] := by rw [keepL, if_neg h0]
end Beetle09
