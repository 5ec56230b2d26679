/- Plain functions: a list turned round, step by step. -/
import Derived.Test.YtjedmiegcbdedaaPm
import Derived.Test.YtjedmiegcbdedaaPg
namespace Store11
def revK (l : List Int) : Nat → List Int
  | 0 => l
  | i + 1 => ((revK l i).set i ((revK l i).getD (l.length - 1 - i) 0)).set (l.length - 1 - i) ((revK l i).getD i 0)
theorem revK_len (l : List Int) : ∀ i, (revK l i).length = l.length
  | 0 => rfl
  | i + 1 => by rw [revK, List.length_set, List.length_set, revK_len l i]
theorem set_getD (l : List Int) (i j : Nat) (v : Int) (h : i < l.length) : (l.set i v).getD j 0 = if i = j then v else l.getD j 0 := by
  by_cases hij : i = j
  · subst hij; simp [List.getD, h]
  · rw [if_neg hij, List.getD, List.getElem?_set_ne hij, ← List.getD]
theorem revK_get (l : List Int) : ∀ i, 2 * i ≤ l.length + 1 → ∀ j, j < l.length → (revK l i).getD j 0 = if j < i ∨ l.length - 1 - j < i then l.getD (l.length - 1 - j) 0 else l.getD j 0
  | 0, _, j, _ => by rw [revK, if_neg (by omega)]
  | i + 1, hi, j, hj => by
    have ih := revK_get l i (by omega)
    have hl := revK_len l i
    rw [revK, set_getD _ _ _ _ (by rw [List.length_set, hl]; omega), set_getD _ _ _ _ (by rw [hl]; omega)]
    by_cases h1 : l.length - 1 - i = j
    · rw [if_pos h1, if_pos (by omega), ih i (by omega)]
      by_cases h2 : i < i ∨ l.length - 1 - i < i
      · exfalso; omega
      · rw [if_neg h2]; congr 1; omega
    · rw [if_neg h1]
      by_cases h2 : i = j
      · rw [if_pos h2, if_pos (by omega), ih _ (by omega)]
        by_cases h3 : l.length - 1 - i < i ∨ l.length - 1 - (l.length - 1 - i) < i
        · exfalso; omega
        · rw [if_neg h3, h2]
      · rw [if_neg h2, ih j hj]
        by_cases h3 : j < i ∨ l.length - 1 - j < i
        · rw [if_pos h3, if_pos (by omega)]
        · rw [if_neg h3, if_neg (by omega)]
theorem rev_getD (l : List Int) (j : Nat) (h : j < l.length) : l.reverse.getD j 0 = l.getD (l.length - 1 - j) 0 := by
  simp [List.getD, List.getElem?_reverse h]
theorem ext_getD {l l' : List Int} (h : l.length = l'.length) (hg : ∀ j, j < l.length → l.getD j 0 = l'.getD j 0) : l = l' := by
  refine List.ext_getElem h fun j h1 h2 => ?_
  have := hg j h1
  simpa [List.getD, h1, h2] using this
theorem revK_rev (l : List Int) (i : Nat) (h1 : 2 * i ≤ l.length + 1) (h2 : l.length ≤ 2 * i + 1) : revK l i = l.reverse := by
  refine ext_getD (by rw [revK_len]; simp) fun j hj => ?_
  rw [revK_len] at hj
  rw [revK_get l i h1 j hj, rev_getD l j hj]
  by_cases h3 : j < i ∨ l.length - 1 - j < i
  · rw [if_pos h3]
  · rw [if_neg h3]; congr 1; omega
/-- the crossings and nestings of the turned pattern -/
theorem cnR_rev {l l' : List Int} (hl : l'.length = l.length) (hp : ∀ i k, i < l.length → k < l.length → (l'.getD i 0 = l'.getD k 0 ↔ l.getD (l.length - 1 - i) 0 = l.getD (l.length - 1 - k) 0)) : cnR l' = cnR l := by
  rw [cnR_eq, cnR_eq, crS_rev hl hp, neS_rev hl hp]
end Store11
namespace Store11
variable {α : Type} [DecidableEq α]
def endG : Int → List Int → Int
  | x, [] => x
  | x, r :: rs => endG (if r = x then x + 1 else x) rs
theorem chkG_app : ∀ (l l' : List Int) (x : Int), chkG x l = 0 → chkG x (l ++ l') = chkG (endG x l) l'
  | [], _, _, _ => rfl
  | r :: l, l', x, h => by
    rw [chkG] at h
    rw [List.cons_append, chkG, endG]
    split at h
    · cases h
    · split at h
      · cases h
      · rename_i h1 h2
        rw [if_neg h1, if_neg h2]
        split at h
        · rename_i h3; rw [if_pos h3, if_pos h3]; exact chkG_app l l' _ h
        · rename_i h3; rw [if_neg h3, if_neg h3]; exact chkG_app l l' _ h
theorem endG_app : ∀ (l l' : List Int) (x : Int), endG x (l ++ l') = endG (endG x l) l'
  | [], _, _ => rfl
  | r :: l, l', x => by rw [List.cons_append, endG, endG, endG_app l l']
theorem fstI_bd (x : α) : ∀ (l : List α) (i : Int), fstI l x = some i → 0 ≤ i ∧ i < l.length
  | [], _, h => by cases h
  | y :: l, i, h => by
    rw [fstI] at h
    split at h
    · cases h; simp
    · cases hf : fstI l x with
      | none => rw [hf] at h; cases h
      | some v =>
        rw [hf] at h
        have e : v + 1 = i := by simpa using h
        have := fstI_bd x l v hf
        simp; omega
theorem divS_chk (st : List α × List Int) (x : α) (h : chkG 0 st.2 = 0 ∧ endG 0 st.2 = st.1.length) : chkG 0 (divS st x).2 = 0 ∧ endG 0 (divS st x).2 = (divS st x).1.length := by
  unfold divS
  split
  · rename_i i hi
    have hb := fstI_bd x _ _ hi
    refine ⟨?_, ?_⟩
    · simp only []
      rw [chkG_app _ _ _ h.1, h.2]
      simp only [chkG]
      rw [if_neg (by omega), if_neg (by omega), if_neg (by omega)]
    · simp only []
      rw [endG_app, h.2]
      simp only [endG]
      rw [if_neg (by omega)]
  · refine ⟨?_, ?_⟩
    · simp only []
      rw [chkG_app _ _ _ h.1, h.2]
      simp only [chkG]
      rw [if_neg (by omega), if_neg (by omega), if_pos trivial]
    · simp only []
      rw [endG_app, h.2]
      simp only [endG]
      rw [if_pos trivial]
      simp
theorem foldl_chk : ∀ (K : List α) (st : List α × List Int), chkG 0 st.2 = 0 ∧ endG 0 st.2 = st.1.length → chkG 0 (K.foldl divS st).2 = 0
  | [], _, h => h.1
  | x :: K, st, h => foldl_chk K _ (divS_chk st x h)
theorem divL_chk (K : List α) (h1 : 1 ≤ K.length) (h9 : K.length ≤ 9) (hl : (divL K).length = K.length) : chkL (divL K) = 0 := by
  have h0 : sizeE (divL K).length = 0 := by unfold sizeE; rw [hl, if_neg (by omega), if_neg (by omega)]
  unfold chkL
  rw [h0, if_neg (by omega)]
  exact foldl_chk K _ ⟨rfl, rfl⟩
theorem divI_chk (K : List Int) (h1 : 1 ≤ K.length) (h9 : K.length ≤ 9) : chkL (divL K) = 0 := divL_chk K h1 h9 (divL_len K 0)
theorem chkL_size {l : List Int} (h : chkL l = 0) : 1 ≤ l.length ∧ l.length ≤ 9 := by
  unfold chkL at h
  split at h
  · rename_i h2; exact absurd h h2
  · rename_i h2
    simp only [ne_eq, Decidable.not_not] at h2
    unfold sizeE at h2
    split at h2
    · cases h2
    · split at h2
      · cases h2
      · omega
/-- keys below r: rooms below r -/
theorem pig : ∀ (r : Nat) (l : List Int), l.Nodup → (∀ x ∈ l, 0 ≤ x ∧ x < (r : Int)) → l.length ≤ r
  | 0, l, _, h => by
    cases l with
    | nil => simp
    | cons x l => have := h x (by simp); omega
  | r + 1, l, hn, h => by
    by_cases hm : (r : Int) ∈ l
    · have h1 := pig r (l.erase (r : Int)) (hn.erase _) (fun x hx => by
        have h2 := h x (List.mem_of_mem_erase hx)
        have h3 : x ≠ (r : Int) := fun e => by subst e; exact (List.Nodup.not_mem_erase hn) hx
        omega)
      rw [List.length_erase_of_mem hm] at h1
      omega
    · have h1 := pig r l hn (fun x hx => by
        have h2 := h x hx
        have h3 : x ≠ (r : Int) := fun e => by subst e; exact hm hx
        omega)
      omega
theorem fstI_none : ∀ (l : List α) (x : α), fstI l x = none → x ∉ l
  | [], _, _ => by simp
  | y :: l, x, h => by
    rw [fstI] at h
    split at h
    · cases h
    · rename_i hxy
      cases hf : fstI l x with
      | none => simp [hxy, fstI_none l x hf]
      | some v => rw [hf] at h; cases h
theorem foldl_few (r : Nat) : ∀ (K : List Int) (st : List Int × List Int), st.1.Nodup → (∀ x ∈ st.1, 0 ≤ x ∧ x < (r : Int)) → (∀ x ∈ K, 0 ≤ x ∧ x < (r : Int)) → (∀ x ∈ st.2, x < (r : Int)) → ∀ x ∈ (K.foldl divS st).2, x < (r : Int)
  | [], _, _, _, _, h => h
  | k :: K, st, h1, h2, h3, h4 => by
    have hk := h3 k (by simp)
    rw [List.foldl_cons]
    cases hf : fstI st.1 k with
    | some i =>
      have hb := fstI_bd k _ _ hf
      have hl := pig r st.1 h1 h2
      rw [divS, hf]
      refine foldl_few r K _ h1 h2 (fun x hx => h3 x (by simp [hx])) (fun x hx => ?_)
      rcases List.mem_append.1 hx with hx | hx
      · exact h4 x hx
      · simp at hx; omega
    | none =>
      have hn := fstI_none _ _ hf
      have hnd : (st.1 ++ [k]).Nodup := by
        rw [List.nodup_append]
        refine ⟨h1, by simp, fun a ha b hb => ?_⟩
        simp at hb
        subst hb
        exact fun e => by subst e; exact hn ha
      have hall : ∀ x ∈ st.1 ++ [k], 0 ≤ x ∧ x < (r : Int) := fun x hx => by
        rcases List.mem_append.1 hx with hx | hx
        · exact h2 x hx
        · simp at hx; subst hx; exact hk
      have hl := pig r _ hnd hall
      simp at hl
      rw [divS, hf]
      refine foldl_few r K _ hnd hall (fun x hx => h3 x (by simp [hx])) (fun x hx => ?_)
      rcases List.mem_append.1 hx with hx | hx
      · exact h4 x hx
      · simp at hx; omega
theorem divL_few (K : List Int) (r : Nat) (h1 : 1 ≤ r) (h : ∀ x ∈ K, 0 ≤ x ∧ x < (r : Int)) (i : Nat) (hi : i < K.length) : (divL K).getD i 0 < r := by
  have := foldl_few r K ([], []) (by simp) (by simp) h (by simp)
  refine this _ ?_
  have hl : i < (divL K).length := by rw [divL_len K 0]; exact hi
  rw [List.getD, List.getElem?_eq_getElem hl]
  exact List.getElem_mem hl
/-- the law's turned list -/
theorem turned_facts {l : List Int} (h : chkL l = 0) : chkL (divL l.reverse) = 0 ∧ ofL l.reverse = divL l.reverse ∧ sizeE l.reverse.length = 0 ∧ (divL l.reverse).length = l.length ∧ cnR (divL l.reverse) = cnR l ∧ ∀ i k, i < l.length → k < l.length → ((divL l.reverse).getD i 0 = (divL l.reverse).getD k 0 ↔ l.reverse.getD i 0 = l.reverse.getD k 0) := by
  have hs := chkL_size h
  have hr : l.reverse.length = l.length := List.length_reverse
  have hz : sizeE l.reverse.length = 0 := by unfold sizeE; rw [hr, if_neg (by omega), if_neg (by omega)]
  have hiff : ∀ i k, i < l.length → k < l.length → ((divL l.reverse).getD i 0 = (divL l.reverse).getD k 0 ↔ l.reverse.getD i 0 = l.reverse.getD k 0) := fun i k hi hk => divL_iff l.reverse 0 i k (by omega) (by omega)
  have hl : (divL l.reverse).length = l.length := by rw [divL_len _ 0, hr]
  refine ⟨divI_chk _ (by omega) (by omega), by rw [ofL, if_pos hz], hz, hl, cnR_rev hl (fun i k hi hk => ?_), hiff⟩
  rw [hiff i k hi hk, rev_getD l i hi, rev_getD l k hk]
end Store11
namespace Store11
theorem sm_nonneg {f : Nat → Int} : ∀ n, (∀ i, i < n → 0 ≤ f i) → 0 ≤ sm f n
  | 0, _ => by simp [sm]
  | n + 1, h => by
    have := sm_nonneg n (fun i hi => h i (by omega))
    have := h n (by omega)
    rw [sm]; omega
theorem sm_eq_zero {f : Nat → Int} : ∀ n, (∀ i, i < n → 0 ≤ f i) → (sm f n = 0 ↔ ∀ i, i < n → f i = 0)
  | 0, _ => by simp [sm]
  | n + 1, h => by
    have h1 := sm_nonneg n (fun i hi => h i (by omega))
    have h2 := h n (by omega)
    have ih := sm_eq_zero n (fun i hi => h i (by omega))
    rw [sm]
    constructor
    · intro h3 i hi
      by_cases e : i = n
      · subst e; omega
      · exact ih.1 (by omega) i (by omega)
    · intro h3
      have := ih.2 (fun i hi => h3 i (by omega))
      have := h3 n (by omega)
      omega
theorem bI_nonneg (p : Prop) [Decidable p] : 0 ≤ bI p := by unfold bI; split <;> decide
theorem bI_zero {p : Prop} [Decidable p] : bI p = 0 ↔ ¬ p := by
  unfold bI
  by_cases h : p
  · simp [h]
  · simp [h]
theorem S2_nonneg {l : List Int} {f : Nat → Nat → Int} (h : ∀ i j, 0 ≤ f i j) : 0 ≤ S2 l f :=
  sm_nonneg _ fun i _ => sm_nonneg _ fun j _ => Int.mul_nonneg (bI_nonneg _) (h i j)
theorem S2_eq_zero {l : List Int} {f : Nat → Nat → Int} (h : ∀ i j, 0 ≤ f i j) : S2 l f = 0 ↔ ∀ i j, Arc l i j → f i j = 0 := by
  unfold S2
  have hn : ∀ i j, 0 ≤ bI (Arc l i j) * f i j := fun i j => Int.mul_nonneg (bI_nonneg _) (h i j)
  rw [sm_eq_zero _ (fun i _ => sm_nonneg _ fun j _ => hn i j)]
  constructor
  · intro h1 i j ha
    have h2 := (sm_eq_zero _ (fun j _ => hn i j)).1 (h1 i (by have := ha.1; have := ha.2.1; omega)) j ha.2.1
    rw [bI, if_pos ha, Int.one_mul] at h2
    exact h2
  · intro h1 i _
    refine (sm_eq_zero _ (fun j _ => hn i j)).2 fun j _ => ?_
    by_cases ha : Arc l i j
    · rw [h1 i j ha, Int.mul_zero]
    · rw [bI, if_neg ha, Int.zero_mul]
/-- no two arcs cross -/
def NoX (l : List Int) : Prop := ∀ i j k m, Arc l i j → Arc l k m → ¬ (i < k ∧ k < j ∧ j < m)
theorem crS_zero (l : List Int) : crS l = 0 ↔ NoX l := by
  unfold crS
  rw [S2_eq_zero (fun i j => S2_nonneg fun k m => bI_nonneg _)]
  constructor
  · intro h i j k m h1 h2
    exact bI_zero.1 ((S2_eq_zero (fun k m => bI_nonneg _)).1 (h i j h1) k m h2)
  · intro h i j h1
    exact (S2_eq_zero (fun k m => bI_nonneg _)).2 fun k m h2 => bI_zero.2 (h i j k m h1 h2)
theorem crS_nonneg (l : List Int) : 0 ≤ crS l := S2_nonneg fun i j => S2_nonneg fun k m => bI_nonneg _
theorem arc_over (l : List Int) (j : Nat) : ∀ (s i k : Nat), k - i ≤ s → i < j → j < k → k < l.length → l.getD i 0 = l.getD k 0 → l.getD j 0 ≠ l.getD i 0 → ∃ i' p, Arc l i' p ∧ i ≤ i' ∧ i' < j ∧ j < p ∧ p ≤ k ∧ l.getD i' 0 = l.getD i 0
  | 0, i, k, h, _, _, _, _, _ => by omega
  | s + 1, i, k, h, h1, h2, h3, h4, h5 => by
    by_cases hA : Arc l i k
    · exact ⟨i, k, hA, by omega, h1, h2, by omega, rfl⟩
    · have : ∃ t, t < k ∧ i < t ∧ l.getD t 0 = l.getD i 0 := by
        refine Decidable.byContradiction fun hn => hA ⟨by omega, h3, h4, fun t ht1 ht2 e => hn ⟨t, ht1, ht2, e⟩⟩
      obtain ⟨t, ht1, ht2, ht3⟩ := this
      have htj : t ≠ j := fun e => h5 (e ▸ ht3)
      by_cases hlt : t < j
      · obtain ⟨i', p, a1, a2, a3, a4, a5, a6⟩ := arc_over l j s t k (by omega) hlt h2 h3 (ht3.trans h4) (fun e => h5 (e.trans ht3))
        exact ⟨i', p, a1, by omega, a3, a4, a5, a6.trans ht3⟩
      · obtain ⟨i', p, a1, a2, a3, a4, a5, a6⟩ := arc_over l j s i t (by omega) h1 (by omega) (by omega) ht3.symm h5
        exact ⟨i', p, a1, a2, a3, a4, by omega, a6⟩
/-- no crossing, by rooms -/
def NoC (l : List Int) : Prop := ∀ i j k m, i < j → j < k → k < m → m < l.length → l.getD i 0 = l.getD k 0 → l.getD j 0 = l.getD m 0 → l.getD i 0 = l.getD j 0
theorem noX_noC (l : List Int) : NoX l ↔ NoC l := by
  constructor
  · intro h i j k m h1 h2 h3 h4 h5 h6
    refine Decidable.byContradiction fun hne => ?_
    obtain ⟨i', p, a1, a2, a3, a4, a5, a6⟩ := arc_over l j (k - i) i k (Nat.le_refl _) h1 h2 (by omega) h5 (fun e => hne e.symm)
    have hp : l.getD p 0 = l.getD i 0 := a1.2.2.1.symm.trans a6
    obtain ⟨j', q, b1, b2, b3, b4, b5, b6⟩ := arc_over l p (m - j) j m (Nat.le_refl _) a4 (by omega) h4 h6 (fun e => hne (hp.symm.trans e))
    exact h i' p j' q a1 b1 ⟨by omega, b3, b4⟩
  · rintro h i j k m h1 h2 ⟨h3, h4, h5⟩
    have := h i k j m h3 h4 h5 h2.2.1 h1.2.2.1 h2.2.2.1
    exact h1.2.2.2 k h4 h3 this.symm
theorem flat_iff (l : List Int) : (cnR l).1 = 0 ↔ NoC l := by rw [cnR_eq, ← noX_noC, ← crS_zero]
theorem cnR_nonneg (l : List Int) : 0 ≤ (cnR l).1 := by rw [cnR_eq]; exact crS_nonneg l
/-- one box more, made flat -/
def flS (st : List Int × Int) (r : Int) : List Int × Int := if r < st.2 ∧ (cnX (st.1 ++ [r])).1 = 0 then (st.1 ++ [r], st.2) else (st.1 ++ [st.2], st.2 + 1)
def flK (l : List Int) (k : Nat) : List Int × Int := (l.take k).foldl flS ([], 0)
theorem flK_succ (l : List Int) (k : Nat) (h : k < l.length) : flK l (k + 1) = flS (flK l k) (l.getD k 0) := by
  unfold flK; rw [take_succ_getD l k h, List.foldl_append]; rfl
theorem app_getD (l : List Int) (x : Int) (i : Nat) (h : i < l.length) : (l ++ [x]).getD i 0 = l.getD i 0 := by
  simp [List.getD, List.getElem?_append_left h]
theorem app_last (l : List Int) (x : Int) : (l ++ [x]).getD l.length 0 = x := by simp [List.getD]
structure FlOk (k : Nat) (st : List Int × Int) : Prop where
  len : st.1.length = k
  chk : chkG 0 st.1 = 0
  fin : endG 0 st.1 = st.2
  lo : 0 ≤ st.2
  le : st.2 ≤ k
  lt : ∀ i, i < k → 0 ≤ st.1.getD i 0 ∧ st.1.getD i 0 < st.2
  flat : NoC st.1
theorem flS_ok {k : Nat} {st : List Int × Int} (h : FlOk k st) (r : Int) (hr : 0 ≤ r) : FlOk (k + 1) (flS st r) := by
  unfold flS
  split
  · rename_i hc
    have hx := (flat_iff _).1 (by rw [← cnX_cnR]; exact hc.2)
    refine ⟨by simp [h.len], ?_, ?_, h.lo, by have := h.le; simp only []; omega, fun i hi => ?_, hx⟩
    · simp only []
      rw [chkG_app _ _ _ h.chk, h.fin]
      simp only [chkG]
      rw [if_neg (by omega), if_neg (by omega), if_neg (by omega)]
    · simp only []
      rw [endG_app, h.fin]
      simp only [endG]
      rw [if_neg (by omega)]
    · simp only []
      by_cases e : i = k
      · subst e
        have := app_last st.1 r
        rw [h.len] at this
        rw [this]; omega
      · rw [app_getD _ _ _ (by rw [h.len]; omega)]
        exact h.lt i (by omega)
  · refine ⟨by simp [h.len], ?_, ?_, by have := h.lo; simp only []; omega, by have := h.le; simp only []; omega, fun i hi => ?_, ?_⟩
    · simp only []
      rw [chkG_app _ _ _ h.chk, h.fin]
      have := h.lo
      simp only [chkG]
      rw [if_neg (by omega), if_neg (by omega), if_pos trivial]
    · simp only []
      rw [endG_app, h.fin]
      simp only [endG]
      rw [if_pos trivial]
    · simp only []
      have := h.lo
      by_cases e : i = k
      · subst e
        have := app_last st.1 st.2
        rw [h.len] at this
        rw [this]; omega
      · rw [app_getD _ _ _ (by rw [h.len]; omega)]
        have := h.lt i (by omega)
        omega
    · intro i j k' m h1 h2 h3 h4 h5 h6
      simp only [List.length_append, List.length_singleton, h.len] at h4
      have hl := h.len
      rw [app_getD _ _ i (by omega), app_getD _ _ k' (by omega)] at h5
      rw [app_getD _ _ j (by omega)] at h6
      rw [app_getD _ _ i (by omega), app_getD _ _ j (by omega)]
      by_cases e : m = k
      · subst e
        have := app_last st.1 st.2
        rw [hl] at this
        rw [this] at h6
        have := h.lt j (by omega)
        omega
      · rw [app_getD _ _ m (by omega)] at h6
        exact h.flat i j k' m h1 h2 h3 (by omega) h5 h6
theorem flK_ok (l : List Int) (h : ∀ i, i < l.length → 0 ≤ l.getD i 0) : ∀ k, k ≤ l.length → FlOk k (flK l k)
  | 0, _ => ⟨rfl, rfl, rfl, by simp [flK], by simp [flK], fun i hi => by omega, fun i j k m h1 h2 h3 h4 => by simp [flK] at h4⟩
  | k + 1, hk => by
    rw [flK_succ l k (by omega)]
    exact flS_ok (flK_ok l h k (by omega)) _ (h k (by omega))
def flatL (l : List Int) : List Int := (flK l l.length).1
theorem flatL_ok {l : List Int} (h : chkL l = 0) : (flatL l).length = l.length ∧ chkL (flatL l) = 0 ∧ NoC (flatL l) := by
  have hs := chkL_size h
  have := flK_ok l (fun i hi => (chkL_bound h i hi).1) l.length (Nat.le_refl _)
  refine ⟨this.len, ?_, this.flat⟩
  have h0 : sizeE (flatL l).length = 0 := by unfold sizeE; rw [flatL, this.len, if_neg (by omega), if_neg (by omega)]
  unfold chkL
  rw [h0, if_neg (by omega)]
  exact this.chk
end Store11
