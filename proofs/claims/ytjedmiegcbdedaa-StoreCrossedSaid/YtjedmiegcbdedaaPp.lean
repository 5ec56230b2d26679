/- Plain facts of chapter 11: crossings of all divisions, counted. -/
import Derived.Test.YtjedmiegcbdedaaPn
namespace Store11
set_option maxRecDepth 100000
theorem cross_get {n : Nat} (hn : n < 8) (h1 : 1 ≤ n) {l : List Int} (h : l ∈ allL n) : chkL l = 0 ∧ cnL l = cnX l ∧ (0 ≤ (cnX l).1 ∧ (cnX l).1 < 16) ∧ 0 ≤ (cnX l).2 ∧ (cnX l).2 < 16 := by
  have := List.all_eq_true.1 (cross_all n hn h1) l h
  unfold crossB at this
  simp only [Bool.and_eq_true, beq_iff_eq, decide_eq_true_eq] at this
  obtain ⟨⟨⟨a, b⟩, c⟩, d⟩ := this
  exact ⟨a, b, c, d⟩
/-- how many divisions have so many crossings, so many nestings -/
def hisX (L : List (List Int)) (c d : Int) : Nat := L.countP fun l => decide (cnX l = (c, d))
theorem hisX_code {n : Nat} (hn : n < 8) (h1 : 1 ≤ n) {c d : Nat} (hd : d < 16) : hisX (allL n) c d = ((allL n).map codeX).countP (fun q => q == 16 * c + d) := by
  unfold hisX
  rw [List.countP_map]
  refine List.countP_congr fun l hl => ?_
  obtain ⟨_, _, hc, hd2⟩ := cross_get hn h1 hl
  simp only [Function.comp_apply, beq_iff_eq, decide_eq_true_eq, codeX, Prod.ext_iff]
  omega
theorem hisX_out {n : Nat} (hn : n < 8) (h1 : 1 ≤ n) {c d : Int} (h : ¬ ((0 ≤ c ∧ c < 16) ∧ 0 ≤ d ∧ d < 16)) : hisX (allL n) c d = 0 := by
  unfold hisX
  refine List.countP_eq_zero.2 fun l hl => ?_
  obtain ⟨_, _, hc, hd2⟩ := cross_get hn h1 hl
  simp only [decide_eq_true_eq, Prod.ext_iff]
  omega
theorem sym_lt {n : Nat} (hn : n < 8) (h1 : 1 ≤ n) {c d : Nat} (hc : c < 16) (hd : d < c) : hisX (allL n) c d = hisX (allL n) d c := by
  rw [hisX_code hn h1 (by omega), hisX_code hn h1 hc]
  have := List.all_eq_true.1 (List.all_eq_true.1 (cross_sym n hn h1) c (List.mem_range.2 hc)) d (List.mem_range.2 hd)
  simpa using this
theorem hisX_sym {n : Nat} (hn : n < 8) (h1 : 1 ≤ n) (c d : Int) : hisX (allL n) c d = hisX (allL n) d c := by
  by_cases h : (0 ≤ c ∧ c < 16) ∧ 0 ≤ d ∧ d < 16
  · obtain ⟨c, rfl⟩ : ∃ k : Nat, c = k := ⟨c.toNat, by omega⟩
    obtain ⟨d, rfl⟩ : ∃ k : Nat, d = k := ⟨d.toNat, by omega⟩
    rcases Nat.lt_trichotomy c d with g | g | g
    · exact (sym_lt hn h1 (by omega) g).symm
    · rw [g]
    · exact sym_lt hn h1 (by omega) g
  · rw [hisX_out hn h1 h, hisX_out hn h1 (by omega)]
def sumX (L : List (List Int)) : Nat → Nat
  | 0 => 0
  | m + 1 => sumX L m + hisX L 0 m
theorem sumX_eq (L : List (List Int)) (h : ∀ l ∈ L, 0 ≤ (cnX l).2) : ∀ m : Nat, sumX L m = L.countP fun l => decide ((cnX l).1 = 0) && decide ((cnX l).2 < m)
  | 0 => by
    unfold sumX
    refine (List.countP_eq_zero.2 fun l hl => ?_).symm
    have := h l hl
    simp only [Bool.and_eq_true, decide_eq_true_eq]
    omega
  | m + 1 => by
    rw [sumX, sumX_eq L h m]
    unfold hisX
    induction L with
    | nil => rfl
    | cons l L ih =>
      have h' := h l (by simp)
      have ih := ih fun l hl => h l (by simp [hl])
      simp only [List.countP_cons] at ih ⊢
      rw [← ih]
      have e : (decide (cnX l = (0, (m : Int)))) = (decide ((cnX l).1 = 0) && decide ((cnX l).2 = m)) := by
        rw [Bool.eq_iff_iff, Bool.and_eq_true, decide_eq_true_eq, decide_eq_true_eq, decide_eq_true_eq, Prod.ext_iff]
      rw [e]
      by_cases h0 : (cnX l).1 = 0
      · rw [decide_eq_true h0]
        simp only [Bool.true_and, decide_eq_true_eq]
        by_cases g : (cnX l).2 < m
        · rw [if_pos g, if_neg (by omega), if_pos (by omega)]; omega
        · by_cases g2 : (cnX l).2 = m
          · rw [if_neg g, if_pos g2, if_pos (by omega)]; omega
          · rw [if_neg g, if_neg g2, if_neg (by omega)]; omega
      · rw [decide_eq_false h0]
        simp
theorem sumX_flat {n : Nat} (hn : n < 8) (h1 : 1 ≤ n) : (sumX (allL n) 16 : Int) = flatV n := by
  rw [← (cross_flat n hn h1).1, sumX_eq _ fun l hl => (cross_get hn h1 hl).2.2.2.1]
  congr 1
  refine List.countP_congr fun l hl => ?_
  have := (cross_get hn h1 hl).2.2.2.2
  simp only [Bool.and_eq_true, decide_eq_true_eq]
  omega
/-- the map: by both numbers -/
def fX (L : List (List Int)) : List Int → Option Int
  | [c, d] => if hisX L c d = 0 then none else some (hisX L c d : Int)
  | _ => none
theorem fX_get (L : List (List Int)) (c d : Int) : (fX L [c, d]).getD 0 = (hisX L c d : Int) := by
  show (if hisX L c d = 0 then none else some (hisX L c d : Int)).getD 0 = _
  by_cases h : hisX L c d = 0
  · rw [if_pos h, h]; rfl
  · rw [if_neg h]; rfl
theorem fX_some {L : List (List Int)} {k : List Int} {v : Int} (h : fX L k = some v) : ∃ c d, k = [c, d] ∧ v = (hisX L c d : Int) ∧ 0 < hisX L c d := by
  match k, h with
  | [c, d], h =>
    replace h : (if hisX L c d = 0 then none else some (hisX L c d : Int)) = some v := h
    by_cases g : hisX L c d = 0
    · rw [if_pos g] at h; simp at h
    · rw [if_neg g] at h
      simp only [Option.some.injEq] at h
      exact ⟨c, d, rfl, h.symm, by omega⟩
theorem hisX_snoc (L : List (List Int)) (l : List Int) (c d : Int) : hisX (L ++ [l]) c d = hisX L c d + if cnX l = (c, d) then 1 else 0 := by
  unfold hisX; rw [List.countP_append, List.countP_singleton]; simp
theorem fX_snoc (L : List (List Int)) (l : List Int) : fX (L ++ [l]) = fun y => if y = [(cnX l).1, (cnX l).2] then some ((hisX L (cnX l).1 (cnX l).2 : Int) + 1) else fX L y := by
  funext y
  match y with
  | [c, d] =>
    show (if hisX (L ++ [l]) c d = 0 then none else some (hisX (L ++ [l]) c d : Int)) = if [c, d] = [(cnX l).1, (cnX l).2] then some ((hisX L (cnX l).1 (cnX l).2 : Int) + 1) else (if hisX L c d = 0 then none else some (hisX L c d : Int))
    rw [hisX_snoc]
    by_cases h : cnX l = (c, d)
    · rw [if_pos h, h]
      simp
    · have g : ¬ [c, d] = [(cnX l).1, (cnX l).2] := fun e => h (by simp only [List.cons.injEq, and_true] at e; exact Prod.ext e.1.symm e.2.symm)
      rw [if_neg h, if_neg g, Nat.add_zero]
  | [] => simp [fX]
  | [c] => simp [fX]
  | c :: d :: e :: r => simp [fX]
/-- the sum of what has come -/
def doneX (h : Nat → Nat) (left : Nat → Bool) : Nat → Int
  | 0 => 0
  | m + 1 => doneX h left m + if left m then 0 else (h m : Int)
theorem doneX_none (h : Nat → Nat) (left : Nat → Bool) : ∀ m, (∀ d, d < m → left d = false → h d = 0) → doneX h left m = 0
  | 0, _ => rfl
  | m + 1, hm => by
    rw [doneX, doneX_none h left m fun d hd => hm d (by omega)]
    cases hl : left m with
    | true => simp
    | false => rw [hm m (by omega) hl]; simp
theorem doneX_congr (h : Nat → Nat) (left left' : Nat → Bool) : ∀ m, (∀ d, d < m → left d = left' d) → doneX h left m = doneX h left' m
  | 0, _ => rfl
  | m + 1, hm => by rw [doneX, doneX, doneX_congr h left left' m fun d hd => hm d (by omega), hm m (by omega)]
theorem doneX_one (h : Nat → Nat) (left left' : Nat → Bool) (d0 : Nat) (h1 : left d0 = true) (h2 : left' d0 = false) : ∀ m, d0 < m → (∀ d, d < m → d ≠ d0 → left' d = left d) → doneX h left' m = doneX h left m + (h d0 : Int)
  | 0, hd, _ => by omega
  | m + 1, hd, ho => by
    rw [doneX, doneX]
    by_cases e : d0 = m
    · subst e
      rw [doneX_congr h left' left d0 fun d hd => ho d (by omega) (by omega), h1, h2]
      simp
    · rw [doneX_one h left left' d0 h1 h2 m (by omega) fun d hd => ho d (by omega), ho m (by omega) (by omega)]
      omega
theorem doneX_all (h : Nat → Nat) : ∀ m, 0 ≤ doneX h (fun _ => false) m
  | 0 => by simp [doneX]
  | m + 1 => by have := doneX_all h m; simp only [doneX]; simp; omega
theorem doneX_sum (L : List (List Int)) (left : Nat → Bool) (hl : ∀ d, left d = false) : ∀ m, doneX (fun d => hisX L 0 (d : Int)) left m = (sumX L m : Int)
  | 0 => rfl
  | m + 1 => by rw [doneX, doneX_sum L left hl m, sumX, hl m]; simp
theorem doneX_le (h : Nat → Nat) (left : Nat → Bool) : ∀ m, 0 ≤ doneX h left m ∧ doneX h left m ≤ doneX h (fun _ => false) m
  | 0 => by simp [doneX]
  | m + 1 => by
    have := doneX_le h left m
    simp only [doneX]
    cases left m <;> simp <;> omega
theorem sumX_le {n : Nat} (hn : n < 8) (h1 : 1 ≤ n) : sumX (allL n) 16 ≤ 1000 := by
  rw [sumX_eq _ fun l hl => (cross_get hn h1 hl).2.2.2.1]
  exact Nat.le_trans List.countP_le_length (Nat.le_of_lt (cross_flat n hn h1).2.2)
theorem hisX_le {n : Nat} (hn : n < 8) (h1 : 1 ≤ n) (c d : Int) : hisX (allL n) c d < 1000 :=
  Nat.lt_of_le_of_lt List.countP_le_length (cross_flat n hn h1).2.2
theorem hisX_pos {n : Nat} (hn : n < 8) (h1 : 1 ≤ n) {c d : Int} (h : 0 < hisX (allL n) c d) : (0 ≤ c ∧ c < 16) ∧ 0 ≤ d ∧ d < 16 := by
  by_cases g : (0 ≤ c ∧ c < 16) ∧ 0 ≤ d ∧ d < 16
  · exact g
  · rw [hisX_out hn h1 g] at h; omega
end Store11
