/- Plain facts of chapter 3: turned pairs as bits. -/
import Derived.Test.YtmcckngodaeojaaPa
namespace Grade03
/-- how many of the first 49 bits are set -/
def pc (s : Nat) : Int := sm (fun k => bI (s.testBit k = true)) 49
theorem odd_part : ∀ s : Nat, 0 < s → ∃ j m, s = 2 ^ j * (2 * m + 1) := by
  intro s
  induction s using Nat.strongRecOn with
  | ind s ih =>
    intro h
    by_cases e : s % 2 = 1
    · exact ⟨0, s / 2, by omega⟩
    · obtain ⟨j, m, hjm⟩ := ih (s / 2) (by omega) (by omega)
      refine ⟨j + 1, m, ?_⟩
      rw [Nat.pow_succ, Nat.mul_comm (2 ^ j) 2, Nat.mul_assoc, ← hjm]
      omega
theorem low_bit {s : Nat} (h : 0 < s) : ∃ j, s.testBit j = true ∧ ∀ k, (s &&& (s - 1)).testBit k = (s.testBit k && decide (k ≠ j)) := by
  obtain ⟨j, m, rfl⟩ := odd_part s h
  have hp : 0 < 2 ^ j := Nat.two_pow_pos j
  have e1 : 2 ^ j * (2 * m + 1) = 2 ^ j * (2 * m + 1) + 0 := rfl
  have e2 : 2 ^ j * (2 * m + 1) - 1 = 2 ^ j * (2 * m) + (2 ^ j - 1) := by rw [Nat.mul_add, Nat.mul_one]; omega
  have b1 : ∀ k, (2 ^ j * (2 * m + 1)).testBit k = if k < j then false else (2 * m + 1).testBit (k - j) := fun k => by
    have := Nat.testBit_two_pow_mul_add (2 * m + 1) (i := j) (b := 0) hp k
    rw [Nat.add_zero] at this
    rw [this]
    split <;> simp
  have b2 : ∀ k, (2 ^ j * (2 * m + 1) - 1).testBit k = if k < j then (2 ^ j - 1).testBit k else (2 * m).testBit (k - j) := fun k => by
    rw [e2]
    exact Nat.testBit_two_pow_mul_add (2 * m) (i := j) (b := 2 ^ j - 1) (by omega) k
  refine ⟨j, by rw [b1, if_neg (by omega), Nat.sub_self]; simp, fun k => ?_⟩
  rw [Nat.testBit_and, b1, b2]
  by_cases hk : k < j
  · rw [if_pos hk]; simp
  · rw [if_neg hk, if_neg hk]
    by_cases e : k = j
    · subst e; rw [Nat.sub_self]; simp
    · obtain ⟨t, ht⟩ : ∃ t, k - j = t + 1 := ⟨k - j - 1, by omega⟩
      rw [ht, Nat.testBit_succ, Nat.testBit_succ, show (2 * m + 1) / 2 = m by omega, show 2 * m / 2 = m by omega]
      simp [e]
theorem pc_zero : pc 0 = 0 := by decide
theorem pc_nonneg (s : Nat) : 0 ≤ pc s := sm_nonneg _ fun _ _ => bI_nonneg _
theorem pc_le (s : Nat) : pc s ≤ 49 := by
  have := sm_le (f := fun k => bI (s.testBit k = true)) (g := fun _ => 1) 49 (fun k _ => by unfold bI; split <;> decide)
  exact this
theorem pc_step {s : Nat} (h : 0 < s) (hs : s < 2 ^ 49) : pc (s &&& (s - 1)) = pc s - 1 ∧ s &&& (s - 1) < s := by
  obtain ⟨j, h1, h2⟩ := low_bit h
  have hj : j < 49 := by
    refine Nat.lt_of_not_le fun hj => ?_
    rw [Nat.testBit_lt_two_pow (Nat.lt_of_lt_of_le hs (Nat.pow_le_pow_right (by omega) hj))] at h1
    cases h1
  constructor
  · have e1 : pc s = sm (fun k => bI ((s &&& (s - 1)).testBit k = true) + bI (k = j)) 49 := by
      refine sm_congr _ fun k _ => ?_
      rw [h2 k]
      unfold bI
      by_cases e : k = j
      · subst e; rw [h1]; simp
      · simp [e]
    have e2 : sm (fun k => bI (k = j)) 49 = 1 := by
      rw [sm_one (fun k => bI (k = j)) j 49 (fun i _ hi => by unfold bI; rw [if_neg hi]), if_pos hj]
      unfold bI; rw [if_pos rfl]
    rw [e1, sm_add, e2]
    unfold pc
    omega
  · refine Nat.lt_of_le_of_ne Nat.and_le_left fun e => ?_
    have := h2 j
    rw [e, h1] at this
    simp at this
/-- which pairs have been looked at and are turned, as numbers of bits -/
def inT (l : List Int) (i k b : Nat) : Prop := ∃ p q : Nat, p < q ∧ q < l.length ∧ (p < i ∨ (p = i ∧ q < k)) ∧ ∃ x y : Nat, l.getD p 0 = (x : Int) ∧ l.getD q 0 = (y : Int) ∧ y < x ∧ b = 7 * y + x
structure TS (l : List Int) (i k s : Nat) : Prop where
  lt : s < 2 ^ 49
  bits : ∀ b, s.testBit b = true ↔ inT l i k b
theorem TS.start (l : List Int) : TS l 0 1 0 := ⟨by decide, fun b => by
  rw [Nat.zero_testBit]
  refine ⟨fun h => (by cases h), ?_⟩
  rintro ⟨p, q, h1, _, h3, _⟩
  omega⟩
theorem TS.hit {l : List Int} {i k s x y : Nat} (h : TS l i k s) (hik : i < k) (hk : k < l.length) (hx : l.getD i 0 = (x : Int)) (hy : l.getD k 0 = (y : Int)) (hx7 : x < 7) (hyx : y < x) : TS l i (k + 1) (s ||| 2 ^ (7 * y + x)) := by
  refine ⟨?_, fun b => ?_⟩
  · have : (2 : Nat) ^ (7 * y + x) < 2 ^ 49 := Nat.pow_lt_pow_right (by omega) (by omega)
    exact Nat.or_lt_two_pow h.lt this
  · rw [or_bit, Bool.or_eq_true, h.bits b, decide_eq_true_iff]
    constructor
    · rintro (⟨p, q, h1, h2, h3, h4⟩ | rfl)
      · exact ⟨p, q, h1, h2, by omega, h4⟩
      · exact ⟨i, k, hik, hk, .inr ⟨rfl, by omega⟩, x, y, hx, hy, hyx, rfl⟩
    · rintro ⟨p, q, h1, h2, h3, u, v, hu, hv, huv, hb⟩
      by_cases e : p = i ∧ q = k
      · obtain ⟨rfl, rfl⟩ := e
        right
        rw [hx] at hu
        rw [hy] at hv
        omega
      · exact .inl ⟨p, q, h1, h2, by omega, u, v, hu, hv, huv, hb⟩
theorem TS.miss {l : List Int} {i k s x y : Nat} (h : TS l i k s) (hx : l.getD i 0 = (x : Int)) (hy : l.getD k 0 = (y : Int)) (hyx : ¬ y < x) : TS l i (k + 1) s := by
  refine ⟨h.lt, fun b => ?_⟩
  rw [h.bits b]
  constructor
  · rintro ⟨p, q, h1, h2, h3, h4⟩
    exact ⟨p, q, h1, h2, by omega, h4⟩
  · rintro ⟨p, q, h1, h2, h3, u, v, hu, hv, huv, hb⟩
    by_cases e : p = i ∧ q = k
    · obtain ⟨rfl, rfl⟩ := e
      rw [hx] at hu
      rw [hy] at hv
      omega
    · exact ⟨p, q, h1, h2, by omega, u, v, hu, hv, huv, hb⟩
theorem TS.next {l : List Int} {i k s : Nat} (h : TS l i k s) (hk : l.length ≤ k) : TS l (i + 1) (i + 2) s := by
  refine ⟨h.lt, fun b => ?_⟩
  rw [h.bits b]
  constructor
  · rintro ⟨p, q, h1, h2, h3, h4⟩
    exact ⟨p, q, h1, h2, by omega, h4⟩
  · rintro ⟨p, q, h1, h2, h3, h4⟩
    exact ⟨p, q, h1, h2, by omega, h4⟩
/-- the turned pairs of an order, as bits -/
structure TurnS (l : List Int) (s : Nat) : Prop where
  lt : s < 2 ^ 49
  bits : ∀ x y, x < 7 → y < 7 → (s.testBit (7 * y + x) = true ↔ y < x ∧ x < l.length ∧ bef l x y)
theorem TS.fin {l : List Int} {i k s : Nat} (h : TS l i k s) (hO : IsO l) (h7 : l.length ≤ 7) (hi : l.length ≤ i) : TurnS l s := by
  refine ⟨h.lt, fun x y hx hy => ?_⟩
  rw [h.bits]
  constructor
  · rintro ⟨p, q, h1, h2, h3, u, v, hu, hv, huv, hb⟩
    have hbu := hO.lo p (by omega)
    obtain rfl : u = x := by omega
    obtain rfl : v = y := by omega
    refine ⟨huv, by omega, ?_⟩
    unfold bef
    rw [← hu, ← hv, hO.pos_get p (by omega), hO.pos_get q h2]
    exact h1
  · rintro ⟨h1, h2, h3⟩
    obtain ⟨a1, a2⟩ := hO.get_pos (x : Int) (by omega) (by omega)
    obtain ⟨b1, b2⟩ := hO.get_pos (y : Int) (by omega) (by omega)
    exact ⟨pos l (x : Int), pos l (y : Int), h3, b1, .inl (by omega), x, y, a2, b2, h1, rfl⟩
theorem sm_app (f : Nat → Int) (a : Nat) : ∀ b, sm f (a + b) = sm f a + sm (fun j => f (a + j)) b
  | 0 => by simp [sm]
  | b + 1 => by rw [← Nat.add_assoc, sm, sm, sm_app f a b]; omega
theorem sm_prod (f : Nat → Int) (b : Nat) : ∀ a, sm f (a * b) = sm (fun i => sm (fun j => f (i * b + j)) b) a
  | 0 => by simp [sm]
  | a + 1 => by rw [Nat.succ_mul, sm_app, sm_prod f b a, sm]
theorem pc_pairs (s : Nat) : pc s = sm (fun y => sm (fun x => bI (s.testBit (7 * y + x) = true)) 7) 7 := by
  unfold pc
  rw [show 49 = 7 * 7 from rfl, sm_prod]
  refine sm_congr _ fun y _ => sm_congr _ fun x _ => ?_
  rw [Nat.mul_comm y 7]
theorem sm7 {n : Nat} (hn : n ≤ 7) (f : Nat → Nat → Int) (h : ∀ y x, n ≤ y ∨ n ≤ x → f y x = 0) : sm (fun y => sm (f y) 7) 7 = sm (fun y => sm (f y) n) n := by
  rw [sm_tail (n := n) (fun y hy => sm_all0 _ fun x _ => h y x (.inl hy)) 7 hn]
  exact sm_congr _ fun y _ => sm_tail (fun x hx => h y x (.inr hx)) 7 hn
theorem TurnS.size {l : List Int} {s : Nat} (h : TurnS l s) (h7 : l.length ≤ 7) : pc s = trn l := by
  rw [pc_pairs]
  have e1 : sm (fun y => sm (fun x => bI (s.testBit (7 * y + x) = true)) 7) 7 = sm (fun y => sm (fun x => bI (y < x ∧ x < l.length ∧ bef l x y)) 7) 7 :=
    sm_congr _ fun y hy => sm_congr _ fun x hx => bI_congr (h.bits x y hx hy)
  rw [e1, sm7 h7 _ (fun y x hh => by unfold bI; rw [if_neg (fun h => by omega)])]
  unfold trn
  refine sm_congr _ fun y hy => sm_congr _ fun x hx => bI_congr ⟨fun h => ⟨h.1, h.2.2⟩, fun h => ⟨h.1, hx, h.2⟩⟩
theorem sm_half (f : Nat → Nat → Int) (n : Nat) (h0 : ∀ x, f x x = 0) : sm (fun x => sm (f x) n) n = sm (fun x => sm (fun y => bI (x < y) * (f x y + f y x)) n) n := by
  have e1 : sm (fun x => sm (f x) n) n = sm (fun x => sm (fun y => bI (x < y) * f x y) n + sm (fun y => bI (y < x) * f x y) n) n := by
    refine sm_congr _ fun x _ => ?_
    rw [← sm_add]
    refine sm_congr _ fun y _ => ?_
    unfold bI
    rcases Nat.lt_trichotomy x y with h | h | h
    · rw [if_pos h, if_neg (by omega)]; omega
    · subst h; rw [h0]; simp
    · rw [if_neg (by omega), if_pos h]; omega
  rw [e1, sm_add, sm_swap (fun x y => bI (y < x) * f x y), ← sm_add]
  refine sm_congr _ fun x _ => ?_
  rw [← sm_add]
  refine sm_congr _ fun y _ => ?_
  rw [Int.mul_add]
theorem TurnS.far {a b : List Int} {s t : Nat} (h : TurnS a s) (h' : TurnS b t) (ha : IsO a) (hb : IsO b) (hl : b.length = a.length) (h7 : a.length ≤ 7) : pc (s ^^^ t) = dist a b ∧ s ^^^ t < 2 ^ 49 := by
  refine ⟨?_, Nat.xor_lt_two_pow h.lt h'.lt⟩
  have eb : ∀ x y, x < 7 → y < 7 → bI ((s ^^^ t).testBit (7 * y + x) = true) = if y < x ∧ x < a.length then bI (bef a x y ∧ bef b y x) + bI (bef a y x ∧ bef b x y) else 0 := fun x y hx hy => by
    have h1 := h.bits x y hx hy
    have h2 := h'.bits x y hx hy
    rw [hl] at h2
    rw [Nat.testBit_xor]
    by_cases hc : y < x ∧ x < a.length
    · rw [if_pos hc]
      have t1 := bef_total ha (x := x) (y := y) (by omega) (by omega) (by omega)
      have t2 := bef_total hb (x := x) (y := y) (by omega) (by omega) (by omega)
      have n1 := @bef_asymm a x y
      have n2 := @bef_asymm b x y
      have n3 := @bef_asymm a y x
      have n4 := @bef_asymm b y x
      by_cases c1 : bef a x y <;> by_cases c2 : bef b x y
      · have g1 : s.testBit (7 * y + x) = true := h1.2 ⟨hc.1, hc.2, c1⟩
        have g2 : t.testBit (7 * y + x) = true := h2.2 ⟨hc.1, hc.2, c2⟩
        simp [bI, g1, g2, c1, c2, n1 c1, n2 c2]
      · have g1 : s.testBit (7 * y + x) = true := h1.2 ⟨hc.1, hc.2, c1⟩
        have g2 : t.testBit (7 * y + x) = false := by
          cases e : t.testBit (7 * y + x) with
          | false => rfl
          | true => exact absurd (h2.1 e).2.2 c2
        have c3 : bef b y x := t2.resolve_left c2
        simp [bI, g1, g2, c1, c2, c3, n1 c1]
      · have g2 : t.testBit (7 * y + x) = true := h2.2 ⟨hc.1, hc.2, c2⟩
        have g1 : s.testBit (7 * y + x) = false := by
          cases e : s.testBit (7 * y + x) with
          | false => rfl
          | true => exact absurd (h1.1 e).2.2 c1
        have c3 : bef a y x := t1.resolve_left c1
        simp [bI, g1, g2, c1, c2, c3, n2 c2]
      · have g1 : s.testBit (7 * y + x) = false := by
          cases e : s.testBit (7 * y + x) with
          | false => rfl
          | true => exact absurd (h1.1 e).2.2 c1
        have g2 : t.testBit (7 * y + x) = false := by
          cases e : t.testBit (7 * y + x) with
          | false => rfl
          | true => exact absurd (h2.1 e).2.2 c2
        simp [bI, g1, g2, c1, c2]
    · rw [if_neg hc]
      have g1 : s.testBit (7 * y + x) = false := by
        cases e : s.testBit (7 * y + x) with
        | false => rfl
        | true => exact absurd ⟨(h1.1 e).1, (h1.1 e).2.1⟩ hc
      have g2 : t.testBit (7 * y + x) = false := by
        cases e : t.testBit (7 * y + x) with
        | false => rfl
        | true => exact absurd ⟨(h2.1 e).1, (h2.1 e).2.1⟩ hc
      simp [bI, g1, g2]
  rw [pc_pairs]
  have e1 : sm (fun y => sm (fun x => bI ((s ^^^ t).testBit (7 * y + x) = true)) 7) 7 = sm (fun y => sm (fun x => if y < x ∧ x < a.length then bI (bef a x y ∧ bef b y x) + bI (bef a y x ∧ bef b x y) else 0) 7) 7 :=
    sm_congr _ fun y hy => sm_congr _ fun x hx => eb x y hx hy
  rw [e1, sm7 h7 _ (fun y x hh => by rw [if_neg (fun h => by omega)])]
  unfold dist
  rw [sm_half (fun x y => bI (bef a x y ∧ bef b y x)) _ (fun x => by unfold bI; rw [if_neg (fun h => bef_irrefl a x h.1)])]
  refine sm_congr _ fun y hy => sm_congr _ fun x hx => ?_
  by_cases hc : y < x
  · rw [if_pos ⟨hc, hx⟩]
    have : bI (y < x) = 1 := by unfold bI; rw [if_pos hc]
    rw [this]
    omega
  · rw [if_neg (fun h => hc h.1)]
    have : bI (y < x) = 0 := by unfold bI; rw [if_neg hc]
    rw [this, Int.zero_mul]
end Grade03
