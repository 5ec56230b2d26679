/- Plain laws of chapter 06: how often all are counted, and nobody much more often. -/
import Derived.Test.YthocenkedncoeaaPw
namespace Bench06

def sumI (f : Int → Int) : List Int → Int
  | [] => 0
  | x :: l => f x + sumI f l
theorem sumI_append (f : Int → Int) : ∀ a b, sumI f (a ++ b) = sumI f a + sumI f b
  | [], b => by simp [sumI]
  | x :: a, b => by simp only [List.cons_append, sumI, sumI_append f a b]; omega
theorem sumI_congr (f g : Int → Int) : ∀ l, (∀ x ∈ l, f x = g x) → sumI f l = sumI g l
  | [], _ => rfl
  | x :: l, h => by rw [sumI, sumI, h x (by simp), sumI_congr f g l (fun y hy => h y (by simp [hy]))]
theorem sumI_add (f g : Int → Int) : ∀ l, sumI (fun x => f x + g x) l = sumI f l + sumI g l
  | [] => rfl
  | x :: l => by simp only [sumI, sumI_add f g l]; omega
theorem sumI_perm (f : Int → Int) {a b : List Int} (h : a.Perm b) : sumI f a = sumI f b := by
  induction h with
  | nil => rfl
  | cons x _ ih => simp only [sumI, ih]
  | swap x y l => simp only [sumI]; omega
  | trans _ _ h1 h2 => exact h1.trans h2
theorem sumI_none (y : Int) : ∀ l : List Int, y ∉ l → sumI (fun x => if x = y then 1 else 0) l = 0
  | [], _ => rfl
  | x :: l, h => by
    simp only [List.mem_cons, not_or] at h
    rw [sumI, sumI_none y l h.2, if_neg (fun e => h.1 e.symm)]; rfl
theorem sumI_one (y : Int) : ∀ l : List Int, l.Nodup → y ∈ l → sumI (fun x => if x = y then 1 else 0) l = 1
  | [], _, h => by simp at h
  | x :: l, hn, h => by
    rw [List.nodup_cons] at hn
    by_cases hxy : x = y
    · subst hxy
      rw [sumI, sumI_none x l hn.1, if_pos rfl]; rfl
    · rw [sumI, if_neg hxy, sumI_one y l hn.2 (by simpa [Ne.symm hxy] using h)]; rfl
theorem sumI_zero (f : Int → Int) (l : List Int) (h : ∀ x ∈ l, f x = 0) : sumI f l = 0 := by
  induction l with
  | nil => rfl
  | cons x l ih => rw [sumI, h x (by simp), ih (fun y hy => h y (by simp [hy]))]; rfl
theorem ordG_perm (k : Nat) : ∀ (m : Nat) (B : List Int), B.length = m → (ordG k m B).Perm B
  | 0, B, h => by rw [List.eq_nil_of_length_eq_zero h]; exact List.Perm.refl _
  | m + 1, B, h => by
    have hq : (k - 1) % B.length < B.length := Nat.mod_lt _ (by omega)
    generalize hqq : (k - 1) % B.length = q at *
    rw [ordG, hqq]
    have ih := ordG_perm k m (rotL B q) (by rw [rotL_length _ _ hq]; omega)
    refine (List.Perm.cons _ ih).trans ?_
    have e : B = B.take q ++ B.getD q 0 :: B.drop (q + 1) := by rw [← drop_getD B q hq, List.take_append_drop]
    conv => rhs; rw [e]
    rw [rotL]
    refine List.Perm.trans ?_ List.perm_middle.symm
    exact List.Perm.cons _ List.perm_append_comm
theorem sum_ctr (m : Nat) (hm : 0 < m) (B : List Int) (hB : B.length = m) (hn : B.Nodup) : ∀ j, sumI (fun x => ctr m j (idxI B x)) B = j
  | 0 => by rw [sumI_zero _ _ (fun x _ => ctr_zero m _)]; rfl
  | j + 1 => by
    have hq : j % m < B.length := by rw [hB]; exact Nat.mod_lt _ hm
    have h1 : ∀ x ∈ B, ctr m (j + 1) (idxI B x) = ctr m j (idxI B x) + (if x = B.getD (j % m) 0 then 1 else 0) := by
      intro x hx
      have := (idxI_mem B x hx).2
      rw [ctr_succ m j _ hm (by omega)]
      congr 1
      by_cases h : x = B.getD (j % m) 0
      · rw [if_pos h, if_pos ((idxI_eq_iff B hn _ hq x).2 h)]
      · rw [if_neg h, if_neg (fun h2 => h ((idxI_eq_iff B hn _ hq x).1 h2))]
    rw [sumI_congr _ _ _ h1, sumI_add, sum_ctr m hm B hB hn j, sumI_one _ _ hn (by simp [List.getD, hq])]
    push_cast; rfl
theorem rotL_not (B : List Int) (q : Nat) (hq : q < B.length) (hn : B.Nodup) : B.getD q 0 ∉ rotL B q := by
  have e : B = B.take q ++ B.getD q 0 :: B.drop (q + 1) := by rw [← drop_getD B q hq, List.take_append_drop]
  intro h
  have h2 : (B.getD q 0 :: (B.drop (q + 1) ++ B.take q)).Nodup := by
    have h3 : (B.take q ++ B.getD q 0 :: B.drop (q + 1)).Nodup := by rw [← e]; exact hn
    have h4 := (List.perm_middle (a := B.getD q 0) (l₁ := B.take q) (l₂ := B.drop (q + 1))).nodup_iff.1 h3
    exact (List.Perm.cons _ List.perm_append_comm).nodup_iff.1 h4
  rw [List.nodup_cons] at h2
  exact h2.1 h
/-- all together are counted as often as the count for each -/
theorem sum_cnt (k : Nat) (hk : 1 ≤ k) : ∀ (m : Nat) (B : List Int), B.length = m → B.Nodup → sumI (cntG k m B) B = (m * k : Nat)
  | 0, B, h, _ => by rw [List.eq_nil_of_length_eq_zero h]; simp [sumI]
  | m + 1, B, h, hn => by
    have hq : (k - 1) % (m + 1) < B.length := by rw [h]; exact Nat.mod_lt _ (by omega)
    generalize hqq : (k - 1) % (m + 1) = q at *
    have ih := sum_cnt k hk m (rotL B q) (by rw [rotL_length _ _ hq]; omega) (rotL_nodup _ _ hn)
    rw [sumI_congr _ (fun x => ctr (m + 1) k (idxI B x) + cntG k m (rotL B q) x) B (fun x _ => by rw [cntG_step k (m + 1) B x hk (by omega), hqq]; rfl), sumI_add, sum_ctr (m + 1) (by omega) B h hn]
    have e : B = B.take q ++ B.getD q 0 :: B.drop (q + 1) := by rw [← drop_getD B q hq, List.take_append_drop]
    have h2 : sumI (cntG k m (rotL B q)) B = sumI (cntG k m (rotL B q)) (rotL B q) := by
      have hz := cntG_not (k : Int) m _ _ (rotL_not B q hq hn)
      generalize hF : cntG (k : Int) m (rotL B q) = F at *
      rw [rotL, sumI_append]
      conv => lhs; rw [e, sumI_append, sumI]
      omega
    rw [h2, ih, Nat.succ_mul]; push_cast; omega
theorem sum_ord (n k : Nat) (hk : 1 ≤ k) : sumI (cntG k n (rng n)) (ordL n k) = (n * k : Nat) := by
  rw [ordL, sumI_perm _ (ordG_perm k n (rng n) (rng_length n)), sum_cnt k hk n _ (rng_length n) (rng_nodup n)]
theorem ctr_nonneg (m j : Nat) (i : Int) : 0 ≤ ctr m j i := by
  unfold ctr
  have : (0 : Int) ≤ ((j / m : Nat) : Int) := Int.natCast_nonneg _
  generalize ((j / m : Nat) : Int) = z at *
  split
  · omega
  · split <;> omega
theorem cntG_nonneg (k : Nat) (hk : 1 ≤ k) : ∀ (m : Nat) (B : List Int) (x : Int), 0 ≤ cntG k m B x
  | 0, _, _ => by simp [cntG]
  | m + 1, B, x => by
    rw [cntG_step k (m + 1) B x hk (by omega)]
    have := ctr_nonneg (m + 1) k (idxI B x)
    have := cntG_nonneg k hk m (rotL B ((k - 1) % (m + 1))) x
    simp only [Nat.add_sub_cancel]
    omega
/-- where one is found when another went -/
theorem idxI_rotL (B : List Int) (q : Nat) (hq : q < B.length) (hn : B.Nodup) (x : Int) (hx : x ∈ B) (hne : x ≠ B.getD q 0) :
    ((q : Int) < idxI B x ∧ idxI (rotL B q) x = idxI B x - (q + 1)) ∨ (idxI B x < (q : Int) ∧ idxI (rotL B q) x = idxI B x + (B.length - 1 - q)) := by
  obtain ⟨h0, h1⟩ := idxI_mem B x hx
  have hg := idxI_getD B x hx
  obtain ⟨i, hi⟩ := Int.eq_ofNat_of_zero_le h0
  rw [hi] at h1 hg ⊢
  rw [Int.toNat_natCast] at hg
  have hl := rotL_length B q hq
  have hiq : i ≠ q := by rintro rfl; exact hne hg.symm
  by_cases h : q < i
  · left
    refine ⟨by omega, ?_⟩
    have e : idxI (rotL B q) x = ((i - (q + 1) : Nat) : Int) := by
      rw [idxI_eq_iff _ (rotL_nodup _ _ hn) _ (by omega), rotL_getD B q _ hq (by omega), show i - (q + 1) + q + 1 = i by omega, Nat.mod_eq_of_lt (by omega), hg]
    rw [e]; omega
  · right
    refine ⟨by omega, ?_⟩
    have e : idxI (rotL B q) x = ((i + (B.length - 1 - q) : Nat) : Int) := by
      rw [idxI_eq_iff _ (rotL_nodup _ _ hn) _ (by omega), rotL_getD B q _ hq (by omega), show i + (B.length - 1 - q) + q + 1 = i + B.length by omega, Nat.add_mod_right, Nat.mod_eq_of_lt (by omega), hg]
    rw [e]; omega
theorem kmod (k m : Nat) (hk : 1 ≤ k) (hm : 0 < m) : ((k - 1) % m + 1 < m ∧ k % m = (k - 1) % m + 1) ∨ ((k - 1) % m + 1 = m ∧ k % m = 0) := by
  have h := Nat.mod_lt (k - 1) hm
  have hdm := Nat.div_add_mod (k - 1) m
  by_cases h1 : (k - 1) % m + 1 = m
  · right
    refine ⟨h1, ?_⟩
    conv => lhs; rw [show k = m * ((k - 1) / m) + ((k - 1) % m + 1) by omega, h1, ← Nat.mul_succ, Nat.mul_mod_right]
  · left
    refine ⟨by omega, ?_⟩
    conv => lhs; rw [show k = m * ((k - 1) / m) + ((k - 1) % m + 1) by omega, Nat.mul_add_mod, Nat.mod_eq_of_lt (by omega)]
/-- nobody is counted much more often than those who stay longer -/
theorem fair_gen (k : Nat) (hk : 1 ≤ k) : ∀ (m : Nat) (B : List Int), B.length = m → B.Nodup → ∀ i p, i < p → p < m →
    cntG k m B ((ordG k m B).getD i 0) ≤ cntG k m B ((ordG k m B).getD p 0) + (if idxI B ((ordG k m B).getD i 0) < idxI B ((ordG k m B).getD p 0) then 1 else 0)
  | 0, _, _, _, _, _, _, h => by omega
  | m + 1, B, hB, hn, i, p, hip, hpm => by
    have hq : (k - 1) % (m + 1) < B.length := by rw [hB]; exact Nat.mod_lt _ (by omega)
    have hkm := kmod k (m + 1) hk (by omega)
    have hst := fun x => cntG_step k (m + 1) B x hk (by omega)
    have eB : (k - 1) % B.length = (k - 1) % (m + 1) := by rw [hB]
    have hsub := (ordG_sub k m (rotL B ((k - 1) % (m + 1))) (by rw [rotL_length _ _ hq]; omega) (rotL_nodup _ _ hn)).2
    have ih := fair_gen k hk m (rotL B ((k - 1) % (m + 1))) (by rw [rotL_length _ _ hq]; omega) (rotL_nodup _ _ hn)
    have hol := ordG_length k m (rotL B ((k - 1) % (m + 1)))
    rw [ordG, eB]
    generalize hqq : (k - 1) % (m + 1) = q at *
    simp only [Nat.add_sub_cancel] at hst
    obtain ⟨p, rfl⟩ : ∃ p', p = p' + 1 := ⟨p - 1, by omega⟩
    have er : (B.getD q 0 :: ordG k m (rotL B q)).getD (p + 1) 0 = (ordG k m (rotL B q)).getD p 0 := by simp
    have hrm : (ordG k m (rotL B q)).getD p 0 ∈ rotL B q := hsub _ (by
      have : p < (ordG k m (rotL B q)).length := by omega
      simp [List.getD, this])
    rw [er]
    have hrB := mem_rotL_sub _ _ _ hrm
    have hrn : (ordG k m (rotL B q)).getD p 0 ≠ B.getD q 0 := fun e => rotL_not B q hq hn (e ▸ hrm)
    have h0 : ∀ x, x ∈ B → 0 ≤ idxI B x ∧ idxI B x < (m : Int) + 1 := fun x hx => by have := idxI_mem B x hx; omega
    have hr0 := h0 _ hrB
    have hrr := idxI_rotL B q hq hn _ hrB hrn
    have hrc : ctr (m + 1) k (idxI B ((ordG k m (rotL B q)).getD p 0)) = ((k / (m + 1) : Nat) : Int) + if idxI B ((ordG k m (rotL B q)).getD p 0) < ((k % (m + 1) : Nat) : Int) then 1 else 0 := by rw [ctr, if_neg (by omega)]
    cases i with
    | zero =>
      have eo : (B.getD q 0 :: ordG k m (rotL B q)).getD 0 0 = B.getD q 0 := by simp
      rw [eo]
      have hio := idxI_own B hn q hq
      have ho := hst (B.getD q 0)
      rw [cntG_not _ _ _ _ (rotL_not B q hq hn), hio, ctr, if_neg (by omega)] at ho
      have hr := hst ((ordG k m (rotL B q)).getD p 0)
      have hnn := cntG_nonneg k hk m (rotL B q) ((ordG k m (rotL B q)).getD p 0)
      rw [hrc] at hr
      rw [ho, hr, hio]
      generalize cntG k m (rotL B q) ((ordG k m (rotL B q)).getD p 0) = cr at *
      generalize idxI B ((ordG k m (rotL B q)).getD p 0) = ir at *
      generalize ((k / (m + 1) : Nat) : Int) = kd at *
      rcases hkm with ⟨hk1, hk2⟩ | ⟨hk1, hk2⟩ <;> rw [hk2] <;> (repeat' split) <;> omega
    | succ i =>
      have eo : (B.getD q 0 :: ordG k m (rotL B q)).getD (i + 1) 0 = (ordG k m (rotL B q)).getD i 0 := by simp
      rw [eo]
      have hom : (ordG k m (rotL B q)).getD i 0 ∈ rotL B q := hsub _ (by
        have : i < (ordG k m (rotL B q)).length := by omega
        simp [List.getD, this])
      have hoB := mem_rotL_sub _ _ _ hom
      have hon : (ordG k m (rotL B q)).getD i 0 ≠ B.getD q 0 := fun e => rotL_not B q hq hn (e ▸ hom)
      have ho0 := h0 _ hoB
      have hoo := idxI_rotL B q hq hn _ hoB hon
      have hoc : ctr (m + 1) k (idxI B ((ordG k m (rotL B q)).getD i 0)) = ((k / (m + 1) : Nat) : Int) + if idxI B ((ordG k m (rotL B q)).getD i 0) < ((k % (m + 1) : Nat) : Int) then 1 else 0 := by rw [ctr, if_neg (by omega)]
      have ih2 := ih i p (by omega) (by omega)
      rw [hst, hst, hoc, hrc]
      generalize (ordG k m (rotL B q)).getD i 0 = o at *
      generalize (ordG k m (rotL B q)).getD p 0 = r at *
      generalize cntG k m (rotL B q) r = cr at *
      generalize cntG k m (rotL B q) o = co at *
      generalize idxI B r = ir at *
      generalize idxI B o = io at *
      generalize idxI (rotL B q) r = jr at *
      generalize idxI (rotL B q) o = jo at *
      generalize ((k / (m + 1) : Nat) : Int) = kd at *
      rw [hB] at hrr hoo
      rcases hkm with ⟨hk1, hk2⟩ | ⟨hk1, hk2⟩ <;> rw [hk2] <;> (repeat' split) <;> (split at ih2) <;> omega
theorem fair (n k i p : Nat) (hk : 1 ≤ k) (hip : i < p) (hp : p < n) :
    cntG k n (rng n) ((ordL n k).getD i 0) ≤ cntG k n (rng n) ((ordL n k).getD p 0) + 1 := by
  have := fair_gen k hk n (rng n) (rng_length n) (rng_nodup n) i p hip hp
  rw [← ordL] at this
  split at this <;> omega
end Bench06
