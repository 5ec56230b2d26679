/- Plain facts of chapter 9: lists are compared; the fewest bales to be frozen, by trying all sets. -/
import Derived.Test.YtbhjphcomppjgaaDoorPp
namespace Beetle09
set_option maxRecDepth 100000
/-- As slices.Compare compares. -/
def cmpL : List Int → List Int → Int
  | [], [] => 0
  | [], _ :: _ => -1
  | _ :: _, [] => 1
  | x :: l, y :: m => if x < y then -1 else if y < x then 1 else cmpL l m
theorem cmpL_self : ∀ l : List Int, cmpL l l = 0
  | [] => rfl
  | x :: l => by rw [cmpL, if_neg (by omega), if_neg (by omega)]; exact cmpL_self l
theorem cmpL_bd : ∀ l m : List Int, -1 ≤ cmpL l m ∧ cmpL l m ≤ 1
  | [], [] => by simp [cmpL]
  | [], _ :: _ => by simp [cmpL]
  | _ :: _, [] => by simp [cmpL]
  | x :: l, y :: m => by
    rw [cmpL]
    split
    · omega
    · split
      · omega
      · exact cmpL_bd l m
theorem cmpL_lex : ∀ a b : List Nat, a.length = b.length → ((cmpL (li a) (li b) < 0 ↔ lexlt a b) ∧ (cmpL (li a) (li b) = 0 ↔ a = b))
  | [], [], _ => by simp [li, cmpL, lexlt]
  | [], _ :: _, h => by simp at h
  | _ :: _, [], h => by simp at h
  | x :: a, y :: b, h => by
    have ih := cmpL_lex a b (by simpa using h)
    rw [show li (x :: a) = (x : Int) :: li a from rfl, show li (y :: b) = (y : Int) :: li b from rfl, cmpL, lexlt]
    by_cases h1 : (x : Int) < (y : Int)
    · rw [if_pos h1]
      refine ⟨⟨fun _ => .inl (by omega), fun _ => by omega⟩, ⟨fun h => by omega, fun h => ?_⟩⟩
      rw [List.cons.injEq] at h; omega
    · rw [if_neg h1]
      by_cases h2 : (y : Int) < (x : Int)
      · rw [if_pos h2]
        refine ⟨⟨fun h => by omega, fun h => by rcases h with h | h <;> omega⟩, ⟨fun h => by omega, fun h => ?_⟩⟩
        rw [List.cons.injEq] at h; omega
      · rw [if_neg h2]
        have e : x = y := by omega
        refine ⟨⟨fun h => .inr ⟨e, ih.1.1 h⟩, fun h => ?_⟩, ⟨fun h => by rw [e, ih.2.1 h], fun h => ?_⟩⟩
        · rcases h with h | h
          · omega
          · exact ih.1.2 h.2
        · rw [List.cons.injEq] at h; exact ih.2.2 h.2
theorem lexlt_trans : ∀ a b c : List Nat, lexlt a b → lexlt b c → lexlt a c
  | [], _, _, h, _ => by simp [lexlt] at h
  | _ :: _, [], _, h, _ => by simp [lexlt] at h
  | _ :: _, _ :: _, [], _, h => by simp [lexlt] at h
  | x :: a, y :: b, z :: c, h1, h2 => by
    simp only [lexlt] at h1 h2 ⊢
    rcases h1 with h1 | ⟨rfl, h1⟩
    · rcases h2 with h2 | ⟨rfl, h2⟩
      · exact .inl (by omega)
      · exact .inl h1
    · rcases h2 with h2 | ⟨rfl, h2⟩
      · exact .inl h2
      · exact .inr ⟨rfl, lexlt_trans a b c h1 h2⟩
theorem lexlt_irr : ∀ a : List Nat, ¬ lexlt a a
  | [], h => by simp [lexlt] at h
  | x :: a, h => by
    simp only [lexlt] at h
    rcases h with h | h
    · omega
    · exact lexlt_irr a h.2
/-- A list is shorter, or as long and smaller. -/
def lessP (a b : List Nat) : Prop := a.length < b.length ∨ (a.length = b.length ∧ lexlt a b)
def lessB (a b : List Nat) : Bool := decide (a.length < b.length) || (decide (a.length = b.length) && decide (cmpL (li a) (li b) < 0))
theorem lessB_iff (a b : List Nat) : lessB a b = true ↔ lessP a b := by
  unfold lessB lessP
  rw [Bool.or_eq_true, decide_eq_true_eq, Bool.and_eq_true, decide_eq_true_eq, decide_eq_true_eq]
  constructor
  · rintro (h | ⟨h1, h2⟩)
    · exact .inl h
    · exact .inr ⟨h1, (cmpL_lex a b h1).1.1 h2⟩
  · rintro (h | ⟨h1, h2⟩)
    · exact .inl h
    · exact .inr ⟨h1, (cmpL_lex a b h1).1.2 h2⟩
theorem lessP_trans {a b c : List Nat} (h1 : lessP a b) (h2 : lessP b c) : lessP a c := by
  unfold lessP at *
  rcases h1 with h1 | ⟨h1, h3⟩
  · rcases h2 with h2 | ⟨h2, _⟩ <;> exact .inl (by omega)
  · rcases h2 with h2 | ⟨h2, h4⟩
    · exact .inl (by omega)
    · exact .inr ⟨by omega, lexlt_trans a b c h3 h4⟩
theorem lessP_irr (a : List Nat) : ¬ lessP a a := by
  rintro (h | ⟨_, h⟩)
  · omega
  · exact lexlt_irr a h
/-- The best of the first sets that are good. -/
def bestK (gd : Nat → Bool) : Nat → Option (List Nat)
  | 0 => none
  | k + 1 => if gd k then (match bestK gd k with
    | none => some (els 25 k)
    | some b => if lessB (els 25 k) b then some (els 25 k) else some b) else bestK gd k
theorem bestK_inv (gd : Nat → Bool) : ∀ k, (bestK gd k = none → ∀ o, o < k → gd o = false) ∧ ∀ b, bestK gd k = some b → (∃ o, o < k ∧ gd o = true ∧ b = els 25 o) ∧ ∀ o, o < k → gd o = true → ¬ lessP (els 25 o) b
  | 0 => ⟨fun _ o h => by omega, fun b h => by cases h⟩
  | k + 1 => by
    obtain ⟨h1, h2⟩ := bestK_inv gd k
    cases hg : gd k with
    | false =>
      have e : bestK gd (k + 1) = bestK gd k := by rw [bestK, hg]; rfl
      rw [e]
      refine ⟨fun h o ho => ?_, fun b hb => ?_⟩
      · by_cases hok : o = k
        · rw [hok]; exact hg
        · exact h1 h o (by omega)
      · obtain ⟨⟨o, ho, hg2, hb2⟩, h3⟩ := h2 b hb
        refine ⟨⟨o, by omega, hg2, hb2⟩, fun o' ho' hg' => ?_⟩
        by_cases hok : o' = k
        · rw [hok, hg] at hg'; cases hg'
        · exact h3 o' (by omega) hg'
    | true =>
      cases hk : bestK gd k with
      | none =>
        have e : bestK gd (k + 1) = some (els 25 k) := by rw [bestK, hg, if_pos rfl, hk]
        rw [e]
        refine ⟨fun h => (by cases h), fun b hb => ?_⟩
        obtain rfl := Option.some.inj hb
        refine ⟨⟨k, by omega, hg, rfl⟩, fun o' ho' hg' => ?_⟩
        by_cases hok : o' = k
        · rw [hok]; exact lessP_irr _
        · have := h1 hk o' (by omega); rw [hg'] at this; cases this
      | some b0 =>
        obtain ⟨⟨o, ho, hg2, hb2⟩, h3⟩ := h2 b0 hk
        cases hl : lessB (els 25 k) b0 with
        | true =>
          have e : bestK gd (k + 1) = some (els 25 k) := by rw [bestK, hg, if_pos rfl, hk]; simp only [hl]; rfl
          rw [e]
          refine ⟨fun h => (by cases h), fun b hb => ?_⟩
          obtain rfl := Option.some.inj hb
          refine ⟨⟨k, by omega, hg, rfl⟩, fun o' ho' hg' hlt => ?_⟩
          by_cases hok : o' = k
          · rw [hok] at hlt; exact lessP_irr _ hlt
          · exact h3 o' (by omega) hg' (lessP_trans hlt ((lessB_iff _ _).1 hl))
        | false =>
          have e : bestK gd (k + 1) = some b0 := by rw [bestK, hg, if_pos rfl, hk]; simp only [hl]; rfl
          rw [e]
          refine ⟨fun h => (by cases h), fun b hb => ?_⟩
          obtain rfl := Option.some.inj hb
          refine ⟨⟨o, by omega, hg2, hb2⟩, fun o' ho' hg' hlt => ?_⟩
          by_cases hok : o' = k
          · rw [hok] at hlt; rw [(lessB_iff _ _).2 hlt] at hl; cases hl
          · exact h3 o' (by omega) hg' hlt
/-- A set that saves a bale. -/
def kgd (R C s z x : Nat) (o : Nat) : Bool := decide (o &&& (4294967295 - kpF R C s z x) = 0) && !(fin R C (z ||| o) s).testBit x
theorem andNot_zero {o f : Nat} (ho : o < 2 ^ 25) (hf : f < 2 ^ 25) : o &&& (4294967295 - f) = 0 ↔ Sub o f := by
  constructor
  · intro h i hi
    have := congrArg (fun t => Nat.testBit t i) h
    simp only [Nat.zero_testBit] at this
    rw [dif_bit ho (by omega), hi, Bool.true_and, Bool.not_eq_false'] at this
    exact this
  · intro h
    refine Nat.eq_of_testBit_eq fun i => ?_
    rw [dif_bit ho (by omega), Nat.zero_testBit]
    cases hb : o.testBit i with
    | false => rfl
    | true => rw [h i hb]; rfl
theorem kept_law {R C s z x : Nat} (hs : Sd R C) (h1 : s < 2 ^ (R * C)) (h2 : z < 2 ^ (R * C)) (hd : ∀ i, z.testBit i = true → s.testBit i = false) (hx : x < R * C) : bestK (kgd R C s z x) (2 ^ (R * C)) = if lostB R C s z x = true then none else some (kpL R C s z x) := by
  have h25 := hs.n25
  have hs25 := lt25 h1 h25
  have hz25 := lt25 h2 h25
  have hF := kpF_lt R C s z x
  obtain ⟨i1, i2⟩ := bestK_inv (kgd R C s z x) (2 ^ (R * C))
  cases hl : lostB R C s z x with
  | true =>
    rw [if_pos rfl]
    cases hb : bestK (kgd R C s z x) (2 ^ (R * C)) with
    | none => rfl
    | some b =>
      exfalso
      obtain ⟨⟨o, ho, hg, _⟩, _⟩ := i2 b hb
      unfold kgd at hg
      rw [Bool.and_eq_true, decide_eq_true_eq, Bool.not_eq_true', andNot_zero (lt25 ho h25) (lt25 hF h25)] at hg
      obtain ⟨g1, g2⟩ := hg
      unfold lostB at hl
      rw [Bool.or_eq_true] at hl
      rcases hl with hl | hl
      · rw [sub_fin R C (z ||| o) s x hl] at g2; cases g2
      · rw [Bool.and_eq_true, Bool.not_eq_true', decide_eq_true_eq] at hl
        have hzo : (z ||| o).testBit x = false := by
          rw [Nat.testBit_or, hl.1, Bool.false_or]
          cases hox : o.testBit x with
          | false => rfl
          | true =>
            have := g1 x hox
            rw [kpF_bit h25 hs25 hz25 (by omega)] at this
            simp at this
        have hcl := cl_fin R C (z ||| o) s x hx
        have : 2 ≤ cnt R C (fin R C (z ||| o) s) x := Nat.le_trans hl.2 (cnt_mono (sub_fin R C (z ||| o) s))
        rw [gets_of g2 hzo this] at hcl; cases hcl
  | false =>
    rw [if_neg (by simp)]
    obtain ⟨l1, l2⟩ := lost_no hl
    obtain ⟨m, hm, l, hml⟩ := kp_some hs h1 h2 hd hx l1 l2
    obtain ⟨m0, hm0, hn0, l0, hl0⟩ : ∃ m0, m0 ≤ 4 ∧ (∀ j, j < m0 → kpD R C s z x j = none) ∧ ∃ l0, kpD R C s z x m0 = some l0 := by
      have key : ∀ k, k ≤ m → (∃ m0, m0 ≤ k ∧ (∀ j, j < m0 → kpD R C s z x j = none) ∧ ∃ l0, kpD R C s z x m0 = some l0) ∨ ∀ j, j ≤ k → kpD R C s z x j = none := by
        intro k
        induction k with
        | zero =>
          intro _
          cases h0 : kpD R C s z x 0 with
          | none => exact .inr (fun j hj => (show j = 0 by omega) ▸ h0)
          | some q => exact .inl ⟨0, by omega, fun j hj => by omega, q, h0⟩
        | succ k ih =>
          intro hk
          rcases ih (by omega) with ⟨m0, a, b, c⟩ | h
          · exact .inl ⟨m0, by omega, b, c⟩
          · cases h0 : kpD R C s z x (k + 1) with
            | none =>
              refine .inr (fun j hj => ?_)
              by_cases e : j = k + 1
              · rw [e]; exact h0
              · exact h j (by omega)
            | some q => exact .inl ⟨k + 1, by omega, fun j hj => h j (by omega), q, h0⟩
      rcases key m (Nat.le_refl _) with ⟨m0, a, b, c⟩ | h
      · exact ⟨m0, by omega, b, c⟩
      · rw [h m (Nat.le_refl _)] at hml; cases hml
    rw [kpL_at (by omega) hn0 hl0]
    obtain ⟨t, rfl, ht, htl, htg⟩ := dfs_some hl0
    obtain ⟨st1, st2, st3⟩ := sub_setL ht
    have hg0 : kgd R C s z x (setL l0) = true := by
      unfold kgd
      rw [Bool.and_eq_true, decide_eq_true_eq]
      exact ⟨(andNot_zero (lt25 st2 h25) (lt25 hF h25)).2 st1, htg⟩
    have he0 : els 25 (setL l0) = l0 := by rw [els_top st2 h25]; exact st3
    cases hb : bestK (kgd R C s z x) (2 ^ (R * C)) with
    | none => have := i1 hb _ st2; rw [hg0] at this; cases this
    | some b =>
      obtain ⟨⟨o, ho, hg, rfl⟩, h3⟩ := i2 b hb
      have h4 := h3 _ st2 hg0
      rw [he0] at h4
      unfold kgd at hg
      rw [Bool.and_eq_true, decide_eq_true_eq, andNot_zero (lt25 ho h25) (lt25 hF h25)] at hg
      obtain ⟨g1, g2⟩ := hg
      rw [els_top ho h25] at h4 ⊢
      have hfs := dfs_first (p := fun _ _ => true) (g := fun l => kpG R C s z x (setL l)) (c := els (R * C) (kpF R C s z x)) (b := []) (t := els (R * C) o) (els_sorted _ _) (els_sub g1) rfl (by rw [List.nil_append, setL_els ho]; exact g2) (fun _ _ _ _ => rfl)
      obtain ⟨t', ht', hor⟩ := hfs
      rw [List.nil_append] at ht'
      have hlen : (els (R * C) o).length = m0 := by
        rcases Nat.lt_trichotomy (els (R * C) o).length m0 with h | h | h
        · exfalso
          have := hn0 _ h
          unfold kpD at this
          rw [this] at ht'; cases ht'
        · exact h
        · exact absurd (.inl (by rw [htl]; exact h)) h4
      have e1 : kpD R C s z x m0 = some t' := by rw [← hlen]; exact ht'
      rw [hl0] at e1
      obtain rfl := Option.some.inj e1
      rcases hor with hor | hor
      · rw [hor]
      · exact absurd (.inr ⟨by rw [htl, hlen], hor⟩) h4
end Beetle09
