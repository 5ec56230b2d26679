/- Plain laws of chapter 06: remainders, and the count that leaves them. -/
import Derived.Test.YtpfaoagddgcmbaaDoorSpecC
namespace Bench06

def innerR (m : Nat) (want : Int) (step : Nat) : Nat → Nat → Option Nat
  | 0, _ => none
  | f + 1, k => if ((k % m : Nat) : Int) = want then some k else innerR m want step f (k + step)
def outR (r : List Int) (n : Nat) : Nat → Nat → Nat → Int × Int
  | 0, _, k => ((k : Int), 0)
  | f + 1, m, k =>
    match innerR m (r.getD (n - m) 0) (lcmTo (m - 1)) (m + 1) k with
    | none => (0, 12)
    | some k' => outR r n f (m + 1) k'
def countR (l : List Int) : Int × Int := outR (remL l) l.length l.length 1 1

/-- k leaves the remainders R of the numbers up to n -/
def Leaves (R : Nat → Int) (n k : Nat) : Prop := ∀ m, 1 ≤ m → m ≤ n → ((k % m : Nat) : Int) = R m
/-- k is the smallest number above 0 that does -/
def Least (R : Nat → Int) (n k : Nat) : Prop := 1 ≤ k ∧ Leaves R n k ∧ ∀ x, 1 ≤ x → Leaves R n x → k ≤ x
/-- what Count says -/
def IsCount (R : Nat → Int) (n : Nat) (p : Int × Int) : Prop := (∃ k, Least R n k ∧ p = ((k : Int), 0)) ∨ ((∀ x, 1 ≤ x → ¬ Leaves R n x) ∧ p = (0, 12))

theorem IsCount.unique {R : Nat → Int} {n : Nat} {p q : Int × Int} (h : IsCount R n p) (h' : IsCount R n q) : p = q := by
  rcases h with ⟨k, hk, rfl⟩ | ⟨hn, rfl⟩
  · rcases h' with ⟨k', hk', rfl⟩ | ⟨hn', rfl⟩
    · have h1 := hk.2.2 k' hk'.1 hk'.2.1
      have h2 := hk'.2.2 k hk.1 hk.2.1
      rw [show k = k' by omega]
    · exact absurd hk.2.1 (hn' k hk.1)
  · rcases h' with ⟨k', hk', rfl⟩ | ⟨_, rfl⟩
    · exact absurd hk'.2.1 (hn k' hk'.1)
    · rfl

theorem lcmTo_pos : ∀ n, 0 < lcmTo n
  | 0 => by decide
  | n + 1 => by
    rw [lcmTo_succ]
    exact Nat.mul_pos (lcmTo_pos n) (Nat.div_pos (Nat.gcd_le_right _ (by omega)) (Nat.gcd_pos_of_pos_left _ (lcmTo_pos n)))
theorem mul_eq_lcm (a b : Nat) : a * (b / Nat.gcd a b) = Nat.lcm a b := by
  rw [← Nat.mul_div_assoc _ (Nat.gcd_dvd_right a b)]; rfl
theorem lcmTo_lcm (n : Nat) : lcmTo (n + 1) = Nat.lcm (lcmTo n) (n + 1) := by rw [lcmTo_succ, mul_eq_lcm]
theorem lcmTo_least : ∀ (n d : Nat), (∀ j, 1 ≤ j → j ≤ n → j ∣ d) → lcmTo n ∣ d
  | 0, d, _ => by rw [lcmTo]; exact Nat.one_dvd d
  | n + 1, d, h => by
    rw [lcmTo_lcm]
    exact Nat.lcm_dvd (lcmTo_least n d fun j h1 h2 => h j h1 (by omega)) (h (n + 1) (by omega) (by omega))
theorem dvd_lcmTo : ∀ (n j : Nat), 1 ≤ j → j ≤ n → j ∣ lcmTo n
  | 0, j, h, h' => by omega
  | n + 1, j, h, h' => by
    rw [lcmTo_lcm]
    by_cases hj : j = n + 1
    · rw [hj]; exact Nat.dvd_lcm_right _ _
    · exact Nat.dvd_trans (dvd_lcmTo n j h (by omega)) (Nat.dvd_lcm_left _ _)

theorem mod_eq_of_dvd_sub {a b m : Nat} (h : a ≤ b) (hd : m ∣ b - a) : b % m = a % m := by
  obtain ⟨q, hq⟩ := hd
  rw [show b = a + m * q by omega, Nat.add_mul_mod_self_left]
theorem dvd_sub_of_mod_eq {a b m : Nat} (h : a ≤ b) (he : b % m = a % m) : m ∣ b - a := by
  have e1 := Nat.div_add_mod b m
  have e2 := Nat.div_add_mod a m
  have hq : a / m ≤ b / m := Nat.div_le_div_right h
  refine ⟨b / m - a / m, ?_⟩
  rw [Nat.mul_sub]
  have := Nat.mul_le_mul_left m hq
  omega

theorem Leaves.diff {R : Nat → Int} {n a b : Nat} (ha : Leaves R n a) (hb : Leaves R n b) (h : a ≤ b) : lcmTo n ∣ b - a :=
  lcmTo_least n _ fun j h1 h2 => dvd_sub_of_mod_eq h (Int.ofNat.inj ((hb j h1 h2).trans (ha j h1 h2).symm))
theorem Leaves.add {R : Nat → Int} {n a : Nat} (ha : Leaves R n a) (t : Nat) : Leaves R n (a + t * lcmTo n) := fun j h1 h2 => by
  rw [← ha j h1 h2]
  congr 1
  exact mod_eq_of_dvd_sub (by omega) (by rw [Nat.add_sub_cancel_left]; exact Nat.dvd_trans (dvd_lcmTo n j h1 h2) (Nat.dvd_mul_left _ _))

/-! the reference's way -/
theorem innerR_some (m : Nat) (want : Int) (st : Nat) : ∀ (f k k' : Nat), innerR m want st f k = some k' →
    ((k' % m : Nat) : Int) = want ∧ ∃ t, k' = k + t * st ∧ ∀ i, i < t → ((((k + i * st) % m : Nat)) : Int) ≠ want
  | 0, k, k', h => by simp [innerR] at h
  | f + 1, k, k', h => by
    rw [innerR] at h
    by_cases hk : ((k % m : Nat) : Int) = want
    · rw [if_pos hk] at h
      obtain rfl := Option.some.inj h
      exact ⟨hk, 0, by simp, fun i hi => by omega⟩
    · rw [if_neg hk] at h
      obtain ⟨h1, t, ht, h2⟩ := innerR_some m want st f _ _ h
      refine ⟨h1, t + 1, by rw [ht, Nat.add_mul]; omega, fun i hi => ?_⟩
      cases i with
      | zero => simpa using hk
      | succ i => have := h2 i (by omega); rwa [show k + (i + 1) * st = k + st + i * st by rw [Nat.add_mul]; omega]
theorem innerR_none (m : Nat) (want : Int) (st : Nat) : ∀ (f k : Nat), innerR m want st f k = none → ∀ i, i < f → ((((k + i * st) % m : Nat)) : Int) ≠ want
  | 0, k, _ => fun i hi => by omega
  | f + 1, k, h => by
    rw [innerR] at h
    by_cases hk : ((k % m : Nat) : Int) = want
    · rw [if_pos hk] at h; cases h
    · rw [if_neg hk] at h
      intro i hi
      cases i with
      | zero => simpa using hk
      | succ i => have := innerR_none m want st f _ h i (by omega); rwa [show k + (i + 1) * st = k + st + i * st by rw [Nat.add_mul]; omega]

theorem back_in_period (m st t k : Nat) : (k + (t % (m / Nat.gcd st m)) * st) % m = (k + t * st) % m := by
  have e := Nat.div_add_mod t (m / Nat.gcd st m)
  have hz := inner_zero st m
  generalize m / Nat.gcd st m = y at *
  obtain ⟨q, hq⟩ := Nat.dvd_of_mod_eq_zero hz
  have : k + t * st = (k + (t % y) * st) + m * (q * (t / y)) := by
    have e3 : t * st = (t % y) * st + (y * st) * (t / y) := by
      conv => lhs; rw [← e]
      rw [Nat.add_mul, Nat.add_comm, Nat.mul_right_comm]
    rw [e3, hq, Nat.mul_assoc]; omega
  rw [this, Nat.add_mul_mod_self_left]

theorem stage (R : Nat → Int) (m k0 : Nat) (hm : 1 ≤ m) (h : Least R (m - 1) k0) :
    match innerR m (R m) (lcmTo (m - 1)) (m + 1) k0 with
    | some k' => Least R m k'
    | none => ∀ x, 1 ≤ x → ¬ Leaves R m x := by
  have key : ∀ x, 1 ≤ x → Leaves R m x → ∃ t, x = k0 + t * lcmTo (m - 1) ∧ ∃ t', t' ≤ t ∧ t' < m + 1 ∧ ((((k0 + t' * lcmTo (m - 1)) % m : Nat)) : Int) = R m := by
    intro x hx hl
    have hl' : Leaves R (m - 1) x := fun j h1 h2 => hl j h1 (by omega)
    have hle := h.2.2 x hx hl'
    obtain ⟨t, ht⟩ := h.2.1.diff hl' hle
    have hxt : x = k0 + t * lcmTo (m - 1) := by rw [Nat.mul_comm]; omega
    refine ⟨t, hxt, t % (m / Nat.gcd (lcmTo (m - 1)) m), Nat.mod_le _ _, ?_, ?_⟩
    · have hy : 0 < m / Nat.gcd (lcmTo (m - 1)) m := Nat.div_pos (Nat.gcd_le_right _ (by omega)) (Nat.gcd_pos_of_pos_right _ (by omega))
      have := Nat.mod_lt t hy
      have := Nat.div_le_self m (Nat.gcd (lcmTo (m - 1)) m)
      omega
    · rw [back_in_period, ← hxt]; exact hl m hm (Nat.le_refl _)
  cases hi : innerR m (R m) (lcmTo (m - 1)) (m + 1) k0 with
  | none =>
    intro x hx hl
    obtain ⟨t, _, t', _, ht', he⟩ := key x hx hl
    exact innerR_none _ _ _ _ _ hi t' ht' he
  | some k' =>
    obtain ⟨h1, t, ht, h2⟩ := innerR_some _ _ _ _ _ _ hi
    refine ⟨by have := h.1; omega, fun j hj1 hj2 => ?_, fun x hx hl => ?_⟩
    · by_cases hjm : j = m
      · rw [hjm]; exact h1
      · rw [ht]; exact h.2.1.add t j hj1 (by omega)
    · obtain ⟨s, hs, t', hts, ht', he⟩ := key x hx hl
      have : t ≤ t' := Nat.le_of_not_lt fun hlt => h2 t' hlt he
      have := Nat.mul_le_mul_right (lcmTo (m - 1)) (Nat.le_trans this hts)
      omega

theorem outR_count (r : List Int) (n : Nat) : ∀ (f m k : Nat), m + f = n + 1 → 1 ≤ m → Least (fun j => r.getD (n - j) 0) (m - 1) k → IsCount (fun j => r.getD (n - j) 0) n (outR r n f m k)
  | 0, m, k, hmf, _, h => .inl ⟨k, by rw [show n = m - 1 by omega] at *; exact h, rfl⟩
  | f + 1, m, k, hmf, hm, h => by
    have hs := stage (fun j => r.getD (n - j) 0) m k hm h
    rw [outR]
    cases hi : innerR m (r.getD (n - m) 0) (lcmTo (m - 1)) (m + 1) k with
    | none =>
      simp only [hi] at hs
      exact .inr ⟨fun x hx hl => hs x hx fun j h1 h2 => hl j h1 (by omega), rfl⟩
    | some k' =>
      simp only [hi] at hs
      exact outR_count r n f (m + 1) k' (by omega) (by omega) hs

theorem countR_count (l : List Int) : IsCount (fun j => (remL l).getD (l.length - j) 0) l.length (countR l) :=
  outR_count _ _ _ 1 1 (by omega) (by omega) ⟨by omega, fun j h1 h2 => by omega, fun x hx _ => hx⟩

/-! the bench's way -/
theorem innerG_find (m : Nat) (want : Int) (st : Nat) : ∀ (j f k : Nat), j < f → (∀ i, i < j → ((((k + i * st) % m : Nat)) : Int) ≠ want) → ((((k + j * st) % m : Nat)) : Int) = want → innerG m want st f k = k + j * st
  | 0, f, k, _, _, h => by rw [innerG_stop]; · simp
                           · simpa using h
  | j + 1, f, k, hf, hn, h => by
    obtain ⟨f', rfl⟩ : ∃ f', f = f' + 1 := ⟨f - 1, by omega⟩
    have h0 := hn 0 (by omega)
    rw [innerG, if_neg (by simpa using h0), innerG_find m want st j f' (k + st) (by omega)]
    · rw [Nat.add_mul]; omega
    · intro i hi
      have := hn (i + 1) (by omega)
      rwa [show k + st + i * st = k + (i + 1) * st by rw [Nat.add_mul]; omega]
    · rwa [show k + st + j * st = k + (j + 1) * st by rw [Nat.add_mul]; omega]

theorem inner_mod (m st x : Nat) (hm : 0 < m) (hst : 0 < st) : innerG m ((x % m : Nat) : Int) st (m / Nat.gcd st m) (x % st) = x % (st * (m / Nat.gcd st m)) := by
  have hy : 0 < m / Nat.gcd st m := Nat.div_pos (Nat.gcd_le_right _ hm) (Nat.gcd_pos_of_pos_right _ hm)
  have hz := inner_zero st m
  have hd := fun j => inner_dvd st m j hm
  generalize m / Nat.gcd st m = y at *
  have hpos : 0 < st * y := Nat.mul_pos hst hy
  have hz1 : x % (st * y) % st = x % st := Nat.mod_mul_right_mod x st y
  have hz2 : x % (st * y) % m = x % m := by
    obtain ⟨q, hq⟩ := Nat.dvd_of_mod_eq_zero hz
    rw [Nat.mul_comm st y, hq]; exact Nat.mod_mul_right_mod x m q
  have hlt := Nat.mod_lt x hpos
  have hdm := Nat.div_add_mod (x % (st * y)) st
  have hj : x % (st * y) / st < y := Nat.div_lt_of_lt_mul hlt
  rw [hz1] at hdm
  generalize x % (st * y) / st = j at *
  have hzk : x % st + j * st = x % (st * y) := by rw [Nat.mul_comm]; omega
  rw [innerG_find m _ st j y _ hj, hzk]
  · intro i hi he
    have he' : (x % st + i * st) % m = (x % st + j * st) % m := by rw [hzk, hz2]; exact Int.ofNat.inj he
    have hle : x % st + i * st ≤ x % st + j * st := Nat.add_le_add_left (Nat.mul_le_mul_right _ (by omega)) _
    have hdv := dvd_sub_of_mod_eq hle he'.symm
    rw [show x % st + j * st - (x % st + i * st) = (j - i) * st by rw [Nat.sub_mul]; omega] at hdv
    have := Nat.le_of_dvd (by omega) (hd (j - i) (Nat.mod_eq_zero_of_dvd hdv))
    omega
  · rw [hzk, hz2]

theorem outG_mod (r : List Int) (n x : Nat) (hx : Leaves (fun j => r.getD (n - j) 0) n x) : ∀ (m st : Nat), m ≤ n → 0 < st → ∃ st', outG r n m (x % st) st = (x % st', st') ∧ 0 < st' ∧ st ∣ st' ∧ (∀ j, 1 ≤ j → j ≤ m → j ∣ st') ∧ (st ∣ lcmTo n → st' ∣ lcmTo n)
  | 0, st, _, hst => ⟨st, rfl, hst, Nat.dvd_refl _, fun j h1 h2 => by omega, id⟩
  | m + 1, st, hm, hst => by
    rw [outG]
    have hg : 0 < Nat.gcd st (m + 1) := Nat.gcd_pos_of_pos_left _ hst
    have hy : 0 < (m + 1) / Nat.gcd st (m + 1) := Nat.div_pos (Nat.gcd_le_right _ (by omega)) hg
    by_cases h : (m + 1) / Nat.gcd st (m + 1) = 1
    · rw [if_pos h]
      obtain ⟨st', h1, h2, h3, h4, h5⟩ := outG_mod r n x hx m st (by omega) hst
      refine ⟨st', h1, h2, h3, fun j hj1 hj2 => ?_, h5⟩
      by_cases hjm : j = m + 1
      · have hdv : (m + 1) ∣ st := by
          have := Nat.div_mul_cancel (Nat.gcd_dvd_right st (m + 1))
          rw [h, Nat.one_mul] at this
          rw [← this]; exact Nat.gcd_dvd_left _ _
        rw [hjm]; exact Nat.dvd_trans hdv h3
      · exact h4 j hj1 (by omega)
    · rw [if_neg h]
      have hw : r.getD (n - (m + 1)) 0 = ((x % (m + 1) : Nat) : Int) := (hx (m + 1) (by omega) hm).symm
      rw [hw, inner_mod (m + 1) st x (by omega) hst]
      obtain ⟨st', h1, h2, h3, h4, h5⟩ := outG_mod r n x hx m (st * ((m + 1) / Nat.gcd st (m + 1))) (by omega) (Nat.mul_pos hst hy)
      refine ⟨st', h1, h2, Nat.dvd_trans (Nat.dvd_mul_right _ _) h3, fun j hj1 hj2 => ?_, fun hd => h5 (step_dvd st (m + 1) _ hd (dvd_lcmTo n _ (by omega) hm))⟩
      by_cases hjm : j = m + 1
      · rw [hjm]
        rw [mul_eq_lcm] at h3
        exact Nat.dvd_trans (Nat.dvd_lcm_right _ _) h3
      · exact h4 j hj1 (by omega)

theorem agree_iff (r : List Int) (n k : Nat) : agreeG r n k = true ↔ Leaves (fun j => r.getD (n - j) 0) n k := by
  constructor
  · intro h m h1 h2
    refine Classical.byContradiction fun hne => ?_
    rw [agree_no r n k m h1 h2 hne] at h
    cases h
  · intro h
    exact agree_yes r n k fun i hi => h (i + 1) (by omega) (by omega)

theorem countL_count (l : List Int) : IsCount (fun j => (remL l).getD (l.length - j) 0) l.length (countL l) := by
  generalize hR : remL l = r
  cases ho : outG r l.length l.length 0 1 with
  | mk k st =>
    have hL := lcmTo_pos l.length
    by_cases hex : ∃ x, Leaves (fun j => r.getD (l.length - j) 0) l.length x
    · obtain ⟨x, hx⟩ := hex
      obtain ⟨st', h1, h2, _, h4, h5⟩ := outG_mod r l.length x hx l.length 1 (Nat.le_refl _) (by omega)
      rw [Nat.mod_one, ho] at h1
      have hst : st' = lcmTo l.length := Nat.dvd_antisymm (h5 (Nat.one_dvd _)) (lcmTo_least _ _ h4)
      simp only [Prod.mk.injEq] at h1
      obtain ⟨hk, hs⟩ := h1
      rw [hst] at hk hs
      have hlt : k < lcmTo l.length := by rw [hk]; exact Nat.mod_lt _ hL
      have hkl : Leaves (fun j => r.getD (l.length - j) 0) l.length k := fun j hj1 hj2 => by
        rw [← hx j hj1 hj2, hk]
        congr 1
        obtain ⟨q, hq⟩ := dvd_lcmTo l.length j hj1 hj2
        rw [hq]; exact Nat.mod_mul_right_mod x j q
      have hc := countL_yes l k st (by rw [hR]; exact ho) (by rw [hR]; exact (agree_iff r l.length k).2 hkl)
      rw [hc]
      by_cases hk0 : k = 0
      · refine .inl ⟨lcmTo l.length, ⟨hL, ?_, fun y hy hyl => ?_⟩, by rw [if_pos hk0, hs]⟩
        · have := hkl.add 1
          rwa [hk0, Nat.zero_add, Nat.one_mul] at this
        · have := hkl.diff hyl (by omega)
          rw [hk0, Nat.sub_zero] at this
          exact Nat.le_of_dvd (by omega) this
      · refine .inl ⟨k, ⟨by omega, hkl, fun y hy hyl => ?_⟩, by rw [if_neg hk0]⟩
        refine Nat.le_of_not_lt fun hyk => ?_
        have := Nat.le_of_dvd (by omega) (hyl.diff hkl (by omega))
        omega
    · have hc := countL_no l k st (by rw [hR]; exact ho) (by
        rw [hR]
        cases hb : agreeG r l.length k with
        | false => rfl
        | true => exact absurd ⟨k, (agree_iff r l.length k).1 hb⟩ hex)
      rw [hc]
      exact .inr ⟨fun x _ hl => hex ⟨x, hl⟩, rfl⟩
theorem count_eq (l : List Int) : countL l = countR l := (countL_count l).unique (countR_count l)
end Bench06
