/- Plain facts of chapter 9: what no beetles reach more is of full blocks. -/
import Derived.Test.YtbhjphcomppjgaaDoorPc
namespace Beetle09
set_option maxRecDepth 100000

/-- A bale by row and column. -/
def at' (C s r c : Nat) : Bool := s.testBit (r * C + c)
theorem rc_div {C r c : Nat} (h : c < C) : (r * C + c) / C = r := by
  rw [Nat.mul_comm, Nat.mul_add_div (by omega), Nat.div_eq_of_lt h]; rfl
theorem rc_mod {C r c : Nat} (h : c < C) : (r * C + c) % C = c := by
  rw [Nat.mul_comm, Nat.mul_add_mod, Nat.mod_eq_of_lt h]
theorem rc_lt {R C r c : Nat} (h : c < C) (hr : r < R) : r * C + c < R * C := by
  have : (r + 1) * C ≤ R * C := Nat.mul_le_mul_right _ hr
  rw [Nat.add_mul, Nat.one_mul] at this; omega
theorem rc_of {R C n : Nat} (h : n < R * C) : ∃ r c, r < R ∧ c < C ∧ n = r * C + c := by
  have hC : 0 < C := by
    rcases Nat.eq_zero_or_pos C with e | e
    · subst e; simp at h
    · exact e
  exact ⟨n / C, n % C, (Nat.div_lt_iff_lt_mul hC).2 h, Nat.mod_lt _ hC, by rw [Nat.mul_comm]; exact (Nat.div_add_mod n C).symm⟩
theorem rc_inj {C r c r' c' : Nat} (h : c < C) (h' : c' < C) (e : r * C + c = r' * C + c') : r = r' ∧ c = c' := by
  have h1 := rc_div (r := r) h
  have h2 := rc_mod (r := r) h
  rw [e, rc_div h'] at h1
  rw [e, rc_mod h'] at h2
  exact ⟨h1.symm, h2.symm⟩
theorem rc_le {C r c r' c' : Nat} (h : c < C) (h' : c' < C) : r * C + c ≤ r' * C + c' ↔ r < r' ∨ (r = r' ∧ c ≤ c') := by
  constructor
  · intro hle
    by_cases h1 : r < r'
    · exact Or.inl h1
    · by_cases h2 : r = r'
      · subst h2; exact Or.inr ⟨rfl, by omega⟩
      · have h3 : (r' + 1) * C ≤ r * C := Nat.mul_le_mul_right _ (by omega)
        rw [Nat.add_mul, Nat.one_mul] at h3
        omega
  · rintro (h1 | ⟨rfl, h1⟩)
    · have h3 : (r + 1) * C ≤ r' * C := Nat.mul_le_mul_right _ (by omega)
      rw [Nat.add_mul, Nat.one_mul] at h3
      omega
    · omega
theorem nb_rc {R C r c : Nat} (h : c < C) : nb R C (r * C + c) = (if 0 < r then [(r - 1) * C + c] else []) ++ ((if 0 < c then [r * C + (c - 1)] else []) ++ ((if c + 1 < C then [r * C + (c + 1)] else []) ++ (if r + 1 < R then [(r + 1) * C + c] else []))) := by
  unfold nb
  rw [rc_div h, rc_mod h]
  have e1 : 0 < r → r * C + c - C = (r - 1) * C + c := fun hr => by
    obtain ⟨q, rfl⟩ : ∃ q, r = q + 1 := ⟨r - 1, by omega⟩
    rw [Nat.add_mul, Nat.one_mul]; simp; omega
  have e2 : 0 < c → r * C + c - 1 = r * C + (c - 1) := fun hc => by omega
  have e3 : r * C + c + C = (r + 1) * C + c := by rw [Nat.add_mul, Nat.one_mul]; omega
  have e4 : r * C + c + 1 = r * C + (c + 1) := by omega
  congr 1
  · split
    · rw [e1 ‹_›]
    · rfl
  · congr 1
    · split
      · rw [e2 ‹_›]
      · rfl
    · rw [e3, e4]
def b2n (b : Bool) : Nat := if b then 1 else 0
theorem cnt_rc {R C s r c : Nat} (h : c < C) : cnt R C s (r * C + c) = b2n (decide (0 < r) && at' C s (r - 1) c) + (b2n (decide (0 < c) && at' C s r (c - 1)) + (b2n (decide (c + 1 < C) && at' C s r (c + 1)) + b2n (decide (r + 1 < R) && at' C s (r + 1) c))) := by
  rw [cnt, nb_rc h, List.countP_append, List.countP_append, List.countP_append]
  have one : ∀ (p : Prop) [Decidable p] (m : Nat), (if p then [m] else []).countP (fun m => s.testBit m) = b2n (decide p && s.testBit m) := fun p _ m => by
    by_cases hp : p
    · rw [if_pos hp, List.countP_singleton]; simp [hp, b2n]
    · rw [if_neg hp]; simp [hp, b2n]
  rw [one, one, one, one]; rfl
theorem b2n_true {b : Bool} (h : b = true) : b2n b = 1 := by rw [h]; rfl
theorem two_ud {R C s r c : Nat} (h : c < C) (hr : 0 < r) (h1 : at' C s (r - 1) c = true) (hr2 : r + 1 < R) (h2 : at' C s (r + 1) c = true) : 2 ≤ cnt R C s (r * C + c) := by
  rw [cnt_rc h, b2n_true (b := decide (0 < r) && at' C s (r - 1) c) (by simp [hr, h1]), b2n_true (b := decide (r + 1 < R) && at' C s (r + 1) c) (by simp [hr2, h2])]; omega
theorem two_ul {R C s r c : Nat} (h : c < C) (hr : 0 < r) (h1 : at' C s (r - 1) c = true) (hc : 0 < c) (h2 : at' C s r (c - 1) = true) : 2 ≤ cnt R C s (r * C + c) := by
  rw [cnt_rc h, b2n_true (b := decide (0 < r) && at' C s (r - 1) c) (by simp [hr, h1]), b2n_true (b := decide (0 < c) && at' C s r (c - 1)) (by simp [hc, h2])]; omega
theorem two_ur {R C s r c : Nat} (h : c < C) (hr : 0 < r) (h1 : at' C s (r - 1) c = true) (hc : c + 1 < C) (h2 : at' C s r (c + 1) = true) : 2 ≤ cnt R C s (r * C + c) := by
  rw [cnt_rc h, b2n_true (b := decide (0 < r) && at' C s (r - 1) c) (by simp [hr, h1]), b2n_true (b := decide (c + 1 < C) && at' C s r (c + 1)) (by simp [hc, h2])]; omega
theorem two_dr {R C s r c : Nat} (h : c < C) (hr : r + 1 < R) (h1 : at' C s (r + 1) c = true) (hc : c + 1 < C) (h2 : at' C s r (c + 1) = true) : 2 ≤ cnt R C s (r * C + c) := by
  rw [cnt_rc h, b2n_true (b := decide (r + 1 < R) && at' C s (r + 1) c) (by simp [hr, h1]), b2n_true (b := decide (c + 1 < C) && at' C s r (c + 1)) (by simp [hc, h2])]; omega
theorem two_dl {R C s r c : Nat} (h : c < C) (hr : r + 1 < R) (h1 : at' C s (r + 1) c = true) (hc : 0 < c) (h2 : at' C s r (c - 1) = true) : 2 ≤ cnt R C s (r * C + c) := by
  rw [cnt_rc h, b2n_true (b := decide (r + 1 < R) && at' C s (r + 1) c) (by simp [hr, h1]), b2n_true (b := decide (0 < c) && at' C s r (c - 1)) (by simp [hc, h2])]; omega

/-- Without frozen ones: no bale outside has two neighbours of the set. -/
theorem cl_rc {R C s : Nat} (h : Cl R C 0 s) {r c : Nat} (hr : r < R) (hc : c < C) (h2 : 2 ≤ cnt R C s (r * C + c)) : at' C s r c = true := by
  cases hb : s.testBit (r * C + c) with
  | true => exact hb
  | false =>
    have := h _ (rc_lt hc hr)
    simp only [gets, hb, Nat.zero_testBit, Bool.not_false, Bool.true_and, decide_eq_false_iff_not] at this
    exact absurd h2 this

/-- A block: its corners, as the program finds them at the first bale of a set. -/
structure Blk (R C s r c x y : Nat) : Prop where
  hx : r ≤ x ∧ x < R
  hy : c ≤ y ∧ y < C
  first : ∀ i j, i < R → j < C → at' C s i j = true → r < i ∨ (r = i ∧ c ≤ j)
  down : ∀ i, r ≤ i → i ≤ x → at' C s i c = true
  right : ∀ j, c ≤ j → j ≤ y → at' C s r j = true
  dmax : x + 1 < R → at' C s (x + 1) c = false
  rmax : y + 1 < C → at' C s r (y + 1) = false
/-- The bales of a block. -/
def inR (r c x y i j : Nat) : Prop := r ≤ i ∧ i ≤ x ∧ c ≤ j ∧ j ≤ y
theorem Blk.full {R C s r c x y : Nat} (h : Blk R C s r c x y) (hc : Cl R C 0 s) : ∀ a b, r + a ≤ x → c + b ≤ y → at' C s (r + a) (c + b) = true
  | 0, b, _, hb => h.right _ (by omega) hb
  | a + 1, 0, ha, _ => h.down _ (by omega) ha
  | a + 1, b + 1, ha, hb => by
    have h1 := h.full hc a (b + 1) (by omega) hb
    have h2 := h.full hc (a + 1) b ha (by omega)
    have := h.hx
    have := h.hy
    exact cl_rc hc (by omega) (by omega) (two_ul (by omega) (by omega) h1 (by omega) h2)
theorem Blk.mem {R C s r c x y i j : Nat} (h : Blk R C s r c x y) (hc : Cl R C 0 s) (hi : inR r c x y i j) : at' C s i j = true := by
  have := h.full hc (i - r) (j - c) (by have := hi.2.1; have := hi.1; omega) (by have := hi.2.2; omega)
  rwa [show r + (i - r) = i by have := hi.1; omega, show c + (j - c) = j by have := hi.2.2.1; omega] at this
theorem Blk.nleft {R C s r c x y : Nat} (h : Blk R C s r c x y) (hc : Cl R C 0 s) (h0 : 0 < c) : ∀ a, r + a ≤ x → at' C s (r + a) (c - 1) = false
  | 0, _ => by
    cases hb : at' C s r (c - 1) with
    | false => rfl
    | true => have := h.first r (c - 1) (by have := h.hx; omega) (by have := h.hy; omega) hb; omega
  | a + 1, ha => by
    cases hb : at' C s (r + (a + 1)) (c - 1) with
    | false => rfl
    | true =>
      have ih := h.nleft hc h0 a (by omega)
      have := h.hx
      have := h.hy
      have h1 := h.mem hc (i := r + a) (j := c) ⟨by omega, by omega, by omega, by omega⟩
      rw [cl_rc hc (r := r + a) (c := c - 1) (by omega) (by omega) (two_dr (by omega) (by omega) hb (by omega) (by rw [show c - 1 + 1 = c by omega]; exact h1))] at ih
      cases ih
theorem Blk.nright {R C s r c x y : Nat} (h : Blk R C s r c x y) (hc : Cl R C 0 s) (h0 : y + 1 < C) : ∀ a, r + a ≤ x → at' C s (r + a) (y + 1) = false
  | 0, _ => h.rmax h0
  | a + 1, ha => by
    cases hb : at' C s (r + (a + 1)) (y + 1) with
    | false => rfl
    | true =>
      have ih := h.nright hc h0 a (by omega)
      have := h.hx
      have := h.hy
      have h1 := h.mem hc (i := r + a) (j := y) ⟨by omega, by omega, by omega, by omega⟩
      rw [cl_rc hc (r := r + a) (c := y + 1) (by omega) (by omega) (two_dl (by omega) (by omega) hb (by omega) h1)] at ih
      cases ih
theorem Blk.ndown {R C s r c x y : Nat} (h : Blk R C s r c x y) (hc : Cl R C 0 s) (h0 : x + 1 < R) : ∀ b, c + b ≤ y → at' C s (x + 1) (c + b) = false
  | 0, _ => h.dmax h0
  | b + 1, ha => by
    cases hb : at' C s (x + 1) (c + (b + 1)) with
    | false => rfl
    | true =>
      have ih := h.ndown hc h0 b (by omega)
      have := h.hx
      have := h.hy
      have h1 := h.mem hc (i := x) (j := c + b) ⟨by omega, by omega, by omega, by omega⟩
      rw [cl_rc hc (r := x + 1) (c := c + b) (by omega) (by omega) (two_ur (by omega) (by omega) h1 (by omega) hb)] at ih
      cases ih
theorem Blk.nup {R C s r c x y : Nat} (h : Blk R C s r c x y) (h0 : 0 < r) {j : Nat} (hj : j < C) : at' C s (r - 1) j = false := by
  cases hb : at' C s (r - 1) j with
  | false => rfl
  | true => have := h.first (r - 1) j (by have := h.hx; omega) hj hb; omega
/-- A set without a block. -/
def cutS (R C s r c x y : Nat) : Nat := ofP (fun n => s.testBit n && !(decide (r ≤ n / C) && decide (n / C ≤ x) && (decide (c ≤ n % C) && decide (n % C ≤ y)))) (R * C)
theorem cut_at {R C s r c x y i j : Nat} (hi : i < R) (hj : j < C) : at' C (cutS R C s r c x y) i j = true ↔ at' C s i j = true ∧ ¬ inR r c x y i j := by
  unfold at' cutS inR
  rw [ofP_bit, rc_div hj, rc_mod hj]
  simp [rc_lt hj hi]
  intro _
  omega
theorem cut_lt (R C s r c x y : Nat) : cutS R C s r c x y < 2 ^ (R * C) := ofP_lt _ _
/-- No bale of a block is beside one that is left. -/
theorem Blk.apart {R C s r c x y i j i' j' : Nat} (h : Blk R C s r c x y) (hc : Cl R C 0 s) (hi : inR r c x y i j) (hi' : i' < R) (hj' : j' < C) (hs : at' C s i' j' = true)
    (hn : (i' = i ∧ (j' = j + 1 ∨ j = j' + 1)) ∨ (j' = j ∧ (i' = i + 1 ∨ i = i' + 1))) : inR r c x y i' j' := by
  obtain ⟨h1, h2, h3, h4⟩ := hi
  have hx := h.hx
  have hy := h.hy
  unfold inR
  rcases hn with ⟨rfl, rfl | rfl⟩ | ⟨rfl, rfl | rfl⟩
  · by_cases e : j + 1 ≤ y
    · omega
    · obtain rfl : j = y := by omega
      have := h.nright hc hj' (i' - r) (by omega)
      rw [show r + (i' - r) = i' by omega, hs] at this
      cases this
  · by_cases e : c ≤ j'
    · omega
    · obtain rfl : c = j' + 1 := by omega
      have := h.nleft hc (by omega) (i' - r) (by omega)
      rw [show r + (i' - r) = i' by omega, Nat.add_sub_cancel, hs] at this
      cases this
  · by_cases e : i + 1 ≤ x
    · omega
    · obtain rfl : i = x := by omega
      have := h.ndown hc hi' (j' - c) (by omega)
      rw [show c + (j' - c) = j' by omega, hs] at this
      cases this
  · by_cases e : r ≤ i'
    · omega
    · obtain rfl : r = i' + 1 := by omega
      have := h.nup (by omega) hj'
      rw [Nat.add_sub_cancel, hs] at this
      cases this
theorem cut_sub {R C s r c x y : Nat} : Sub (cutS R C s r c x y) s := fun i hi => by
  unfold cutS at hi
  rw [ofP_bit] at hi
  simp at hi
  exact hi.2.1
/-- What is left is closed, too. -/
theorem Blk.cl {R C s r c x y : Nat} (h : Blk R C s r c x y) (hc : Cl R C 0 s) : Cl R C 0 (cutS R C s r c x y) := by
  intro n hn
  obtain ⟨i, j, hi, hj, rfl⟩ := rc_of hn
  cases hg : gets R C 0 (cutS R C s r c x y) (i * C + j) with
  | false => rfl
  | true =>
    obtain ⟨g1, _, g3⟩ := gets_not hg
    have g1' : at' C (cutS R C s r c x y) i j = false := g1
    have hle := cnt_mono (R := R) (C := C) (n := i * C + j) (cut_sub (R := R) (C := C) (s := s) (r := r) (c := c) (x := x) (y := y))
    have hs := cl_rc hc hi hj (Nat.le_trans g3 hle)
    have hin : inR r c x y i j := Classical.byContradiction fun hh => by
      rw [cut_at (x := x) (y := y) (r := r) (c := c) (s := s) hi hj |>.2 ⟨hs, hh⟩] at g1'
      cases g1'
    have no : ∀ i' j', i' < R → j' < C → ((i' = i ∧ (j' = j + 1 ∨ j = j' + 1)) ∨ (j' = j ∧ (i' = i + 1 ∨ i = i' + 1))) → at' C (cutS R C s r c x y) i' j' = false := fun i' j' h1 h2 h3 => by
      cases hb : at' C (cutS R C s r c x y) i' j' with
      | false => rfl
      | true =>
        obtain ⟨k1, k2⟩ := (cut_at h1 h2).1 hb
        exact absurd (h.apart hc hin h1 h2 k1 h3) k2
    rw [cnt_rc hj] at g3
    have z : ∀ (p : Prop) [Decidable p] (i' j' : Nat), (p → at' C (cutS R C s r c x y) i' j' = false) → b2n (decide p && at' C (cutS R C s r c x y) i' j') = 0 := fun p _ i' j' hp => by
      by_cases hh : p
      · rw [hp hh]; simp [b2n]
      · simp [hh, b2n]
    rw [z (0 < i) _ _ fun hh => no _ _ (by omega) hj (Or.inr ⟨rfl, Or.inr (by omega)⟩), z (0 < j) _ _ fun hh => no _ _ hi (by omega) (Or.inl ⟨rfl, Or.inr (by omega)⟩), z (j + 1 < C) _ _ fun hh => no _ _ hi hh (Or.inl ⟨rfl, Or.inl rfl⟩), z (i + 1 < R) _ _ fun hh => no _ _ hh hj (Or.inr ⟨rfl, Or.inl rfl⟩)] at g3
    omega
end Beetle09
