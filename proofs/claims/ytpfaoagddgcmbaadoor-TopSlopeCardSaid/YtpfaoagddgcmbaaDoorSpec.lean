/- Plain functions of chapter 06: no program in sight. -/
import Init
namespace Bench06

def rng (n : Nat) : List Int := (List.range n).map Int.ofNat

def rotL (l : List Int) (k : Nat) : List Int := l.drop (k + 1) ++ l.take k

def ordG (c : Nat) : Nat → List Int → List Int
  | 0, _ => []
  | f + 1, l => l.getD ((c - 1) % l.length) 0 :: ordG c f (rotL l ((c - 1) % l.length))

def ordL (r c : Nat) : List Int := ordG c r (rng r)

theorem rng_succ (n : Nat) : rng (n + 1) = rng n ++ [(n : Int)] := by simp [rng, List.range_succ]
theorem rng_length (n : Nat) : (rng n).length = n := by simp [rng]
theorem rotL_length (l : List Int) (k : Nat) (h : k < l.length) : (rotL l k).length = l.length - 1 := by
  simp [rotL]; omega

/-- who stays last of n + 1 rollers -/
def lastTo (c : Int) : Nat → Int
  | 0 => 0
  | n + 1 => (lastTo c n + c) % ((n : Int) + 2)
theorem lastTo_bd (c : Int) (n : Nat) : 0 ≤ lastTo c n ∧ lastTo c n ≤ n := by
  cases n with
  | zero => simp [lastTo]
  | succ n =>
    have h1 := Int.emod_nonneg (lastTo c n + c) (show ((n : Int) + 2) ≠ 0 by omega)
    have h2 := Int.emod_lt_of_pos (lastTo c n + c) (show (0 : Int) < (n : Int) + 2 by omega)
    simp only [lastTo]; omega

def stepR (c r : Int) (left : Int) : Int := (r - (c - 1) % left - 1 + left) % left
theorem stepR_bd (c r left : Int) (h0 : 0 ≤ r) (h1 : r < left) : 0 ≤ stepR c r left ∧ stepR c r left < left ∧ (r ≠ (c - 1) % left → stepR c r left < left - 1) ∧ 0 ≤ (c - 1) % left ∧ (c - 1) % left < left := by
  have hp : (0 : Int) < left := by omega
  have a1 := Int.emod_nonneg (c - 1) (show left ≠ 0 by omega)
  have a2 := Int.emod_lt_of_pos (c - 1) hp
  generalize hk : (c - 1) % left = k at *
  have b1 := Int.emod_nonneg (r - k - 1 + left) (show left ≠ 0 by omega)
  have b2 := Int.emod_lt_of_pos (r - k - 1 + left) hp
  unfold stepR
  rw [hk]
  refine ⟨b1, b2, fun hne => ?_, a1, a2⟩
  rcases Int.lt_or_gt_of_ne hne with h | h
  · rw [Int.emod_eq_of_lt (by omega) (by omega)]; omega
  · have : (r - k - 1 + left) % left = r - k - 1 := by
      rw [Int.add_emod_right, Int.emod_eq_of_lt (by omega) (by omega)]
    omega

/-- left rollers sit, the roller sits at r, the place is p -/
def whenG (c : Int) : Nat → Int → Int → Int
  | 0, _, _ => 0
  | f + 1, r, p => if r = (c - 1) % ((f : Int) + 1) then p else whenG c f (stepR c r ((f : Int) + 1)) (p + 1)

def whoG (c : Int) (m : Nat) : Nat → Int
  | 0 => (c - 1) % (m : Int)
  | k + 1 => (whoG c m k + c) % ((m : Int) + k + 1)
theorem whoG_bd (c : Int) (m : Nat) (hm : 0 < m) (k : Nat) : 0 ≤ whoG c m k ∧ whoG c m k < m + k := by
  cases k with
  | zero => simp only [whoG]; have := Int.emod_nonneg (c - 1) (show (m : Int) ≠ 0 by omega); have := Int.emod_lt_of_pos (c - 1) (show (0 : Int) < m by omega); omega
  | succ k =>
    simp only [whoG]
    have := Int.emod_nonneg (whoG c m k + c) (show (m : Int) + k + 1 ≠ 0 by omega); have := Int.emod_lt_of_pos (whoG c m k + c) (show (0 : Int) < (m : Int) + k + 1 by omega); omega

def countedG (c : Int) : Nat → Int → Int → Int
  | 0, _, n => n
  | f + 1, r, n => if r = (c - 1) % ((f : Int) + 1) then n + (c - r - 1 + ((f : Int) + 1)) / ((f : Int) + 1) else countedG c f (stepR c r ((f : Int) + 1)) (n + (c - r - 1 + ((f : Int) + 1)) / ((f : Int) + 1))

theorem quo_bd (c s left : Int) (h0 : 0 ≤ s) (h1 : s < left) (h2 : left ≤ 20) (hc : 1 ≤ c) (hc2 : c ≤ 1000000000) :
    0 ≤ c - s - 1 + left ∧ 0 ≤ (c - s - 1 + left) / left ∧ (c - s - 1 + left) / left ≤ 1000000020 := by
  have h : 0 ≤ c - s - 1 + left := by omega
  have h3 := Int.ediv_nonneg h (show 0 ≤ left by omega)
  have h4 := Int.ediv_le_self left h
  exact ⟨h, h3, by omega⟩

def lcmTo : Nat → Nat
  | 0 => 1
  | n + 1 => lcmTo n / Nat.gcd (lcmTo n) (n + 1) * (n + 1)
theorem lcmTo_le : ∀ n, n ≤ 20 → 0 < lcmTo n ∧ lcmTo n ≤ 232792560 := by
  have h : ∀ n : Fin 21, 0 < lcmTo n ∧ lcmTo n ≤ 232792560 := by decide +kernel
  intro n hn
  exact h ⟨n, by omega⟩

/-- the first place of a number in a list, or -1 -/
def idxI : List Int → Int → Int
  | [], _ => -1
  | y :: l, x => if x = y then 0 else (if idxI l x = -1 then -1 else idxI l x + 1)
theorem idxI_ge (l : List Int) (x : Int) : -1 ≤ idxI l x := by
  induction l with
  | nil => simp [idxI]
  | cons y l ih => simp only [idxI]; split <;> (try split) <;> omega
theorem idxI_not (l : List Int) (x : Int) (h : x ∉ l) : idxI l x = -1 := by
  induction l with
  | nil => rfl
  | cons y l ih => simp only [List.mem_cons, not_or] at h; simp [idxI, h.1, ih h.2]
theorem idxI_at : ∀ (l : List Int) (x : Int) (k : Nat), x ∉ l.take k → k < l.length → l.getD k 0 = x → idxI l x = k
  | [], _, _, _, h, _ => by simp at h
  | y :: l, x, 0, _, _, h => by simp at h; simp [idxI, h]
  | y :: l, x, k + 1, h, hk, hx => by
    simp only [List.take_succ_cons, List.mem_cons, not_or] at h
    have := idxI_at l x k h.2 (by simpa using hk) (by simpa using hx)
    simp [idxI, h.1, this]
theorem take_succ_getD (l : List Int) (k : Nat) (h : k < l.length) : l.take (k + 1) = l.take k ++ [l.getD k 0] := by
  rw [List.take_succ_eq_append_getElem h]; simp [List.getD, h]
theorem drop_getD (l : List Int) (k : Nat) (h : k < l.length) : l.drop k = l.getD k 0 :: l.drop (k + 1) := by
  rw [List.drop_eq_getElem_cons h]; simp [List.getD, h]
theorem idxI_mem (l : List Int) (x : Int) (h : x ∈ l) : 0 ≤ idxI l x ∧ idxI l x < l.length := by
  induction l with
  | nil => simp at h
  | cons y l ih =>
    simp only [idxI]
    by_cases hxy : x = y
    · simp [hxy]
    · have := ih (by simpa [hxy] using h)
      rw [if_neg hxy, if_neg (by omega)]; simp; omega

/-- the error of an order -/
def checkG (n : Int) : List Int → List Int → Int
  | _, [] => 0
  | pre, x :: xs => if ¬ (0 ≤ x ∧ x ≤ n - 1) then 2 else if x ∈ pre then 6 else checkG n (pre ++ [x]) xs
def checkL (l : List Int) : Int := if 1 ≤ l.length ∧ l.length ≤ 20 then checkG l.length [] l else 1

def remG : List Int → List Int → List Int
  | _, [] => []
  | b, x :: xs => ((idxI b x + 1) % (b.length : Int)) :: remG (rotL b (idxI b x).toNat) xs
def remL (l : List Int) : List Int := remG (rng l.length) l

theorem ordG_step (c : Int) (m : Nat) (l out : List Int) (hl : l.length = m) (hm : 0 < m) (hc : 1 ≤ c) :
    out ++ ordG c.toNat m l = (out ++ [l.getD ((c - 1) % (m : Int)).toNat 0]) ++ ordG c.toNat (m - 1) (rotL l ((c - 1) % (m : Int)).toNat) := by
  have e : (c.toNat - 1) % l.length = ((c - 1) % (m : Int)).toNat := by
    rw [hl]
    have : (c - 1) = ((c.toNat - 1 : Nat) : Int) := by omega
    rw [this, ← Int.natCast_emod]; rfl
  obtain ⟨f, rfl⟩ : ∃ f, m = f + 1 := ⟨m - 1, by omega⟩
  rw [ordG, e]; simp
theorem checkG_ok (n : Int) : ∀ (xs pre : List Int), checkG n pre xs = 0 → (∀ x ∈ xs, 0 ≤ x ∧ x ≤ n - 1) ∧ xs.Nodup ∧ ∀ x ∈ xs, x ∉ pre
  | [], _, _ => by simp
  | x :: xs, pre, h => by
    simp only [checkG] at h
    by_cases h1 : 0 ≤ x ∧ x ≤ n - 1
    · rw [if_neg (by simpa using h1)] at h
      by_cases h2 : x ∈ pre
      · rw [if_pos h2] at h; omega
      · rw [if_neg h2] at h
        obtain ⟨i1, i2, i3⟩ := checkG_ok n xs _ h
        refine ⟨?_, ?_, ?_⟩
        · intro y hy; rcases List.mem_cons.1 hy with rfl | hy
          · exact h1
          · exact i1 y hy
        · rw [List.nodup_cons]; exact ⟨fun hx => i3 x hx (by simp), i2⟩
        · intro y hy hp; rcases List.mem_cons.1 hy with rfl | hy
          · exact h2 hp
          · exact i3 y hy (by simp [hp])
    · rw [if_pos h1] at h; omega
theorem mem_rng (n : Nat) (x : Int) : x ∈ rng n ↔ 0 ≤ x ∧ x < n := by
  simp only [rng, List.mem_map, List.mem_range]
  constructor
  · rintro ⟨a, ha, rfl⟩; exact ⟨by simp, by simpa using ha⟩
  · intro h; exact ⟨x.toNat, by omega, by simp; omega⟩
theorem checkL_ok (l : List Int) (h : checkL l = 0) : 1 ≤ l.length ∧ l.length ≤ 20 ∧ l.Nodup ∧ ∀ x ∈ l, x ∈ rng l.length := by
  unfold checkL at h
  by_cases hl : 1 ≤ l.length ∧ l.length ≤ 20
  · rw [if_pos hl] at h
    obtain ⟨h1, h2, _⟩ := checkG_ok _ _ _ h
    exact ⟨hl.1, hl.2, h2, fun x hx => (mem_rng _ _).2 (by have := h1 x hx; omega)⟩
  · rw [if_neg hl] at h; omega
theorem mem_rotL (l : List Int) (k : Nat) (x : Int) (h : x ∈ l) (hne : x ≠ l.getD k 0) : x ∈ rotL l k := by
  unfold rotL
  by_cases hk : k < l.length
  · have e := List.take_append_drop k l
    rw [← e] at h
    rcases List.mem_append.1 h with h | h
    · simp [h]
    · rw [drop_getD l k hk] at h
      rcases List.mem_cons.1 h with h | h
      · exact absurd h hne
      · simp [h]
  · rw [List.take_of_length_le (by omega)]; simp [h]
theorem idxI_getD : ∀ (l : List Int) (x : Int), x ∈ l → l.getD (idxI l x).toNat 0 = x
  | [], _, h => by simp at h
  | y :: l, x, h => by
    simp only [idxI]
    by_cases hxy : x = y
    · simp [hxy]
    · have hm : x ∈ l := by simpa [hxy] using h
      have := idxI_mem l x hm
      have ih := idxI_getD l x hm
      rw [if_neg hxy, if_neg (by omega), show (idxI l x + 1).toNat = (idxI l x).toNat + 1 by omega]
      simpa using ih
theorem remG_step (b l out : List Int) (k : Nat) (hk : k < l.length) :
    out ++ remG b (l.drop k) = (out ++ [(idxI b (l.getD k 0) + 1) % (b.length : Int)]) ++ remG (rotL b (idxI b (l.getD k 0)).toNat) (l.drop (k + 1)) := by
  rw [drop_getD l k hk, remG]; simp
theorem mem_rest (b l : List Int) (k : Nat) (hk : k < l.length) (hnd : (l.drop k).Nodup) (hm : ∀ y ∈ l.drop k, y ∈ b) :
    (l.drop (k + 1)).Nodup ∧ ∀ y ∈ l.drop (k + 1), y ∈ rotL b (idxI b (l.getD k 0)).toNat := by
  rw [drop_getD l k hk] at hnd hm
  rw [List.nodup_cons] at hnd
  refine ⟨hnd.2, fun y hy => mem_rotL _ _ _ (hm y (by simp [hy])) ?_⟩
  rw [idxI_getD b _ (hm _ (by simp))]
  rintro rfl
  exact hnd.1 hy
end Bench06
