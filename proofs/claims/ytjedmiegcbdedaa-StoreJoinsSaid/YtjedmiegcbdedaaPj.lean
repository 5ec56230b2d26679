/- Plain laws of Finer, Meet, Join. -/
import Derived.Test.YtjedmiegcbdedaaPi
namespace Store11

theorem both_parts {a b : List Int} (h : bothE a b = 0) : chkL a = 0 ∧ chkL b = 0 ∧ a.length = b.length := by
  unfold bothE at h
  split at h
  · omega
  · split at h
    · omega
    · split at h
      · omega
      · omega
theorem finer_true {a b : List Int} (h : bothE a b = 0) (hp : ∀ i k, i < a.length → k < a.length → a.getD i 0 = a.getD k 0 → b.getD i 0 = b.getD k 0) : finerB a b = true := by
  obtain ⟨h1, h2, h3⟩ := both_parts h
  have hz := zip2_len a b h3
  have : meetR a b = a := by
    rw [meetR, divL_congr (zip2 a b) a [] 0 hz (fun i j hi hj => ?_), divL_id h1]
    rw [hz] at hi hj
    rw [zip2_get a b i hi (by omega), zip2_get a b j hj (by omega)]
    constructor
    · intro h; simp at h; exact h.1
    · intro h; rw [h, hp i j hi hj h]
  rw [finerB, if_pos h, this]; simp
theorem finer_false {a b : List Int} (h : bothE a b = 0) (i k : Nat) (hi : i < a.length) (hk : k < a.length) (h4 : a.getD i 0 = a.getD k 0) (h5 : b.getD i 0 ≠ b.getD k 0) : finerB a b = false := by
  obtain ⟨h1, h2, h3⟩ := both_parts h
  have hz := zip2_len a b h3
  rw [finerB, if_pos h]
  have : meetR a b ≠ a := by
    intro e
    have := divL_iff (zip2 a b) [] i k (by omega) (by omega)
    rw [← meetR, e] at this
    have := this.1 h4
    rw [zip2_get a b i hi (by omega), zip2_get a b k hk (by omega)] at this
    simp at this
    exact h5 this.2
  simpa using this
/-- labels of pairs -/
def lab2 (a b : List Int) : List Int := (zip2 a b).map fun p => p.getD 0 0 * 9 + p.getD 1 0
theorem lab2_len (a b : List Int) (h : a.length = b.length) : (lab2 a b).length = a.length := by simp [lab2, zip2_len a b h]
theorem lab2_get (a b : List Int) (h : a.length = b.length) (i : Nat) (hi : i < a.length) : (lab2 a b).getD i 0 = a.getD i 0 * 9 + b.getD i 0 := by
  have h1 : i < (zip2 a b).length := by rw [zip2_len a b h]; exact hi
  have h2 := zip2_get a b i hi (by omega)
  rw [List.getD, List.getElem?_eq_getElem h1] at h2
  simp only [Option.getD_some] at h2
  rw [lab2, List.getD, List.getElem?_map, List.getElem?_eq_getElem h1, h2]; rfl
theorem meet_lab {a b : List Int} (h : bothE a b = 0) : divL (lab2 a b) = meetR a b := by
  obtain ⟨h1, h2, h3⟩ := both_parts h
  have hz := zip2_len a b h3
  rw [meetR]
  refine divL_congr _ _ 0 [] (by rw [lab2_len a b h3, hz]) (fun i j hi hj => ?_)
  rw [lab2_len a b h3] at hi hj
  rw [lab2_get a b h3 i hi, lab2_get a b h3 j hj, zip2_get a b i hi (by omega), zip2_get a b j hj (by omega)]
  have hlen : b.length ≤ 9 := by
    unfold chkL at h2; split at h2
    · omega
    · rename_i hs; unfold sizeE at hs; split at hs <;> (try split at hs) <;> omega
  have b1 := chkL_bound h2 i (by omega)
  have b2 := chkL_bound h2 j (by omega)
  constructor
  · intro h; rw [show a.getD i 0 = a.getD j 0 by omega, show b.getD i 0 = b.getD j 0 by omega]
  · intro h; simp at h; rw [List.getD, List.getD, List.getD, List.getD, h.1, h.2]

/-! ### Join -/
def Edge (a b : List Int) (i k : Nat) : Prop := a.getD i 0 = a.getD k 0 ∨ b.getD i 0 = b.getD k 0
instance (a b : List Int) (i k : Nat) : Decidable (Edge a b i k) := inferInstanceAs (Decidable (_ ∨ _))
theorem Edge.symm {a b : List Int} {i k : Nat} (h : Edge a b i k) : Edge a b k i := h.imp Eq.symm Eq.symm
structure Nine (a b : List Int) (n : Nat) : Prop where
  a9 : ∀ k, k < n → 0 ≤ a.getD k 0 ∧ a.getD k 0 < 9
  b9 : ∀ k, k < n → 0 ≤ b.getD k 0 ∧ b.getD k 0 < 9
theorem rt_keep (a b : List Int) (k x y : Nat) (h : rtK a b k x = rtK a b k y) : rtK a b (k + 1) x = rtK a b (k + 1) y := by
  show linkR _ _ _ x = linkR _ _ _ y
  unfold linkR; rw [h]
theorem rt_link (a b : List Int) : ∀ k i, i < k → rtK a b k (a.getD i 0).toNat = rtK a b k (9 + (b.getD i 0).toNat)
  | k + 1, i, hi => by
    by_cases hik : i = k
    · subst hik
      show linkR _ _ _ _ = linkR _ _ _ _
      unfold linkR
      rw [if_pos rfl]
      split <;> rfl
    · exact rt_keep a b k _ _ (rt_link a b k i (by omega))
/-- the root of a box's room -/
def RT (a b : List Int) (n i : Nat) : Nat := rtK a b n (a.getD i 0).toNat
theorem RT_edge {a b : List Int} {n i k : Nat} (hi : i < n) (hk : k < n) (h : Edge a b i k) : RT a b n i = RT a b n k := by
  unfold RT
  rcases h with h | h
  · rw [h]
  · rw [rt_link a b n i hi, rt_link a b n k hk, h]
def NP (a b : List Int) (n : Nat) (P : Nat → Prop) (x : Nat) : Prop := ∃ i, i < n ∧ P i ∧ (x = (a.getD i 0).toNat ∨ x = 9 + (b.getD i 0).toNat)
theorem NP_rt {a b : List Int} {n : Nat} (h9 : Nine a b n) (P : Nat → Prop) (hP : ∀ i k, i < n → k < n → P i → Edge a b i k → P k) : ∀ k, k ≤ n → ∀ x y, rtK a b k x = rtK a b k y → (NP a b n P x ↔ NP a b n P y)
  | 0, _, x, y, h => by have : x = y := h; rw [this]
  | k + 1, hk, x, y, h => by
    have ih := NP_rt h9 P hP k (by omega)
    have hlink : NP a b n P (a.getD k 0).toNat ↔ NP a b n P (9 + (b.getD k 0).toNat) := by
      have ka := h9.a9 k (by omega)
      constructor
      · rintro ⟨i, h1, h2, h3⟩
        have ia := h9.a9 i h1
        have ib := h9.b9 i h1
        rcases h3 with h3 | h3
        · exact ⟨k, by omega, hP i k h1 (by omega) h2 (.inl (by omega)), .inr rfl⟩
        · omega
      · rintro ⟨i, h1, h2, h3⟩
        have ia := h9.a9 i h1
        have ib := h9.b9 i h1
        have kb := h9.b9 k (by omega)
        rcases h3 with h3 | h3
        · omega
        · exact ⟨k, by omega, hP i k h1 (by omega) h2 (.inr (by omega)), .inl rfl⟩
    change linkR _ _ _ x = linkR _ _ _ y at h
    unfold linkR at h
    by_cases hx : rtK a b k x = rtK a b k (a.getD k 0).toNat
    · by_cases hy : rtK a b k y = rtK a b k (a.getD k 0).toNat
      · exact ih x y (by rw [hx, hy])
      · rw [if_pos hx, if_neg hy] at h
        exact (ih _ _ hx).trans (hlink.trans (ih _ _ h))
    · by_cases hy : rtK a b k y = rtK a b k (a.getD k 0).toNat
      · rw [if_neg hx, if_pos hy] at h
        exact (ih _ _ h).trans (hlink.symm.trans (ih _ _ hy).symm)
      · rw [if_neg hx, if_neg hy] at h
        exact ih x y h
/-- what is closed under edges is closed under roots -/
theorem RT_closed {a b : List Int} {n : Nat} (h9 : Nine a b n) (P : Nat → Prop) (hP : ∀ i k, i < n → k < n → P i → Edge a b i k → P k) {i k : Nat} (hi : i < n) (hk : k < n) (h : RT a b n i = RT a b n k) (hp : P i) : P k := by
  have h1 : NP a b n P (a.getD i 0).toNat := ⟨i, hi, hp, .inl rfl⟩
  obtain ⟨j, hj, hpj, h2⟩ := (NP_rt h9 P hP n (Nat.le_refl _) _ _ h).1 h1
  have ka := h9.a9 k hk
  have ja := h9.a9 j hj
  have jb := h9.b9 j hj
  rcases h2 with h2 | h2
  · exact hP j k hj hk hpj (.inl (by omega))
  · omega
/-- the least box with a root -/
def lst (R : Nat → Nat) (v : Nat) : Nat → Nat
  | 0 => 0
  | i + 1 => if R (lst R v i) = v then lst R v i else i + 1
theorem lst_spec (R : Nat → Nat) (v : Nat) : ∀ i, lst R v i ≤ i ∧ ((R (lst R v i) = v ∧ ∀ j, R j = v → lst R v i ≤ j) ∨ (∀ j, j ≤ i → R j ≠ v))
  | 0 => by
    refine ⟨Nat.le_refl _, ?_⟩
    by_cases h : R 0 = v
    · exact .inl ⟨h, fun j _ => Nat.zero_le _⟩
    · exact .inr fun j hj => by rw [show j = 0 by omega]; exact h
  | i + 1 => by
    obtain ⟨h0, h⟩ := lst_spec R v i
    rw [lst]
    rcases h with ⟨h1, h2⟩ | h1
    · rw [if_pos h1]; exact ⟨by omega, .inl ⟨h1, h2⟩⟩
    · rw [if_neg (h1 _ h0)]
      refine ⟨Nat.le_refl _, ?_⟩
      by_cases h : R (i + 1) = v
      · refine .inl ⟨h, fun j hj => ?_⟩
        rcases Nat.lt_or_ge i j with h2 | h2
        · exact h2
        · exact absurd hj (h1 j h2)
      · refine .inr fun j hj => ?_
        rcases Nat.lt_or_ge i j with h2 | h2
        · rw [show j = i + 1 by omega]; exact h
        · exact h1 j h2
def TT (a b : List Int) (n i : Nat) : Nat := lst (RT a b n) (RT a b n i) i
theorem TT_spec (a b : List Int) (n i : Nat) : TT a b n i ≤ i ∧ RT a b n (TT a b n i) = RT a b n i ∧ ∀ j, RT a b n j = RT a b n i → TT a b n i ≤ j := by
  obtain ⟨h0, h⟩ := lst_spec (RT a b n) (RT a b n i) i
  rcases h with ⟨h1, h2⟩ | h1
  · exact ⟨h0, h1, h2⟩
  · exact absurd rfl (h1 i (Nat.le_refl _))
theorem TT_iff (a b : List Int) (n i k : Nat) : TT a b n i = TT a b n k ↔ RT a b n i = RT a b n k := by
  have h1 := TT_spec a b n i
  have h2 := TT_spec a b n k
  constructor
  · intro h; rw [← h1.2.1, h, h2.2.1]
  · intro h
    have := h1.2.2 (TT a b n k) (by rw [h2.2.1, h])
    have := h2.2.2 (TT a b n i) (by rw [h1.2.1, h])
    omega
/-- labels: each is a box of the same class, not behind -/
def LabOk (a b : List Int) (n : Nat) (L : Nat → Nat) : Prop := ∀ i, i < n → RT a b n (L i) = RT a b n i ∧ L i ≤ i
/-- in the midst of a round -/
structure Mid (a b : List Int) (n i k : Nat) (L0 L : Nat → Nat) : Prop where
  ok : LabOk a b n L
  le : ∀ j, j < n → L j ≤ L0 j
  done : ∀ i' k', i' < n → k' < n → Edge a b i' k' → (i' < i ∨ (i' = i ∧ k' < k)) → L i' ≤ L0 k'
theorem Mid.start {a b : List Int} {n : Nat} {L : Nat → Nat} (h : LabOk a b n L) : Mid a b n 0 0 L L := ⟨h, fun _ _ => Nat.le_refl _, fun i' k' _ _ _ h => by omega⟩
theorem Mid.row {a b : List Int} {n i : Nat} {L0 L : Nat → Nat} (h : Mid a b n i n L0 L) : Mid a b n (i + 1) 0 L0 L :=
  ⟨h.ok, h.le, fun i' k' h1 h2 h3 h4 => h.done i' k' h1 h2 h3 (by omega)⟩
theorem Mid.skip {a b : List Int} {n i k : Nat} {L0 L : Nat → Nat} (h : Mid a b n i k L0 L) (hE : ¬ Edge a b i k) : Mid a b n i (k + 1) L0 L :=
  ⟨h.ok, h.le, fun i' k' h1 h2 h3 h4 => by
    by_cases hik : i' = i ∧ k' = k
    · obtain ⟨rfl, rfl⟩ := hik; exact absurd h3 hE
    · exact h.done i' k' h1 h2 h3 (by omega)⟩
theorem Mid.step {a b : List Int} {n i k : Nat} {L0 L L' : Nat → Nat} (h : Mid a b n i k L0 L) (hi : i < n) (hk : k < n) (hE : Edge a b i k) (hL : ∀ j, L' j = if j = i then min (L i) (L k) else L j) : Mid a b n i (k + 1) L0 L' := by
  have o1 := h.ok i hi
  have o2 := h.ok k hk
  have hr := RT_edge hi hk hE
  refine ⟨fun j hj => ?_, fun j hj => ?_, fun i' k' h1 h2 h3 h4 => ?_⟩
  · rw [hL]
    split
    · rename_i hji
      subst hji
      refine ⟨?_, by omega⟩
      rcases Nat.le_total (L j) (L k) with h5 | h5
      · rw [Nat.min_eq_left h5]; exact o1.1
      · rw [Nat.min_eq_right h5, o2.1, hr]
    · exact h.ok j hj
  · rw [hL]
    split
    · rename_i hji; subst hji; have := h.le j hj; omega
    · exact h.le j hj
  · rw [hL]
    split
    · rename_i hii
      subst hii
      by_cases hkk : k' = k
      · subst hkk; have := h.le k' hk; omega
      · have := h.done i' k' h1 h2 h3 (by omega); omega
    · exact h.done i' k' h1 h2 h3 (by omega)
/-- how many labels are not the least ones yet -/
def dif (a b : List Int) (n : Nat) (L : Nat → Nat) : Nat := (List.range n).countP (fun i => decide (L i ≠ TT a b n i))
theorem countP_lt {p q : Nat → Bool} : ∀ (l : List Nat), (∀ x ∈ l, p x = true → q x = true) → (∃ x ∈ l, q x = true ∧ p x = false) → l.countP p < l.countP q
  | [], _, h => by obtain ⟨x, hx, _⟩ := h; cases hx
  | y :: l, h, hx => by
    have hle : l.countP p ≤ l.countP q := List.countP_mono_left fun x hx => h x (by simp [hx])
    rw [List.countP_cons, List.countP_cons]
    obtain ⟨x, hx, hq, hp⟩ := hx
    rcases List.mem_cons.1 hx with rfl | hx
    · rw [hq, hp]; simp; omega
    · have := countP_lt l (fun x hx => h x (by simp [hx])) ⟨x, hx, hq, hp⟩
      have hy := h y (by simp)
      cases hpy : p y with
      | true => rw [hy hpy]; omega
      | false => simp only [Bool.false_eq_true, if_false]; split <;> omega
theorem round_less {a b : List Int} {n : Nat} (h9 : Nine a b n) {L0 L : Nat → Nat} (h0 : LabOk a b n L0) (h : Mid a b n n 0 L0 L) : dif a b n L ≤ dif a b n L0 - 1 := by
  have hsub : ∀ i, i < n → L0 i = TT a b n i → L i = TT a b n i := fun i hi he => by
    have h1 := (TT_spec a b n i).2.2 (L i) (h.ok i hi).1
    have h2 := h.le i hi
    omega
  have hmono : dif a b n L ≤ dif a b n L0 := List.countP_mono_left fun i hi hp => by
    simp only [decide_eq_true_eq] at hp ⊢
    exact fun e => hp (hsub i (by simpa using hi) e)
  by_cases hall : ∀ i, i < n → L0 i = TT a b n i
  · have : dif a b n L = 0 := by
      unfold dif
      rw [List.countP_eq_zero]
      intro i hi
      simp only [decide_eq_true_eq, Decidable.not_not]
      exact hsub i (by simpa using hi) (hall i (by simpa using hi))
    omega
  · have ⟨i0, hi0, hne⟩ : ∃ i0, i0 < n ∧ L0 i0 ≠ TT a b n i0 := by
      refine Classical.byContradiction fun hc => hall fun i hi => Classical.byContradiction fun hn => hc ⟨i, hi, hn⟩
    obtain ⟨t1, t2, t3⟩ := TT_spec a b n i0
    have hm : TT a b n (TT a b n i0) = TT a b n i0 := (TT_iff a b n _ _).2 t2
    have hLm : L0 (TT a b n i0) = TT a b n i0 := by
      have h1 := (TT_spec a b n (TT a b n i0)).2.2 _ (h0 (TT a b n i0) (by omega)).1
      have h2 := (h0 (TT a b n i0) (by omega)).2
      omega
    have ⟨i, k, hi, hk, hPi, hE, hPk⟩ : ∃ i k, i < n ∧ k < n ∧ (TT a b n i = TT a b n i0 ∧ L0 i = TT a b n i0) ∧ Edge a b i k ∧ ¬ (TT a b n k = TT a b n i0 ∧ L0 k = TT a b n i0) := by
      refine Classical.byContradiction fun hc => hne ?_
      have := RT_closed h9 (fun j => TT a b n j = TT a b n i0 ∧ L0 j = TT a b n i0) (fun i k hi hk hp hE => Classical.byContradiction fun hn => hc ⟨i, k, hi, hk, hp, hE, hn⟩)
        (show TT a b n i0 < n by omega) hi0 t2 ⟨hm, hLm⟩
      exact this.2
    have hTk : TT a b n k = TT a b n i0 := by rw [← hPi.1]; exact (TT_iff a b n _ _).2 (RT_edge hi hk hE).symm
    have hLk : L k = TT a b n k := by
      have h1 := (TT_spec a b n k).2.2 (L k) (h.ok k hk).1
      have h2 := h.done k i hk hi hE.symm (by omega)
      rw [hPi.2] at h2
      omega
    have hlt : dif a b n L < dif a b n L0 := countP_lt _ (fun x hx hp => by
      simp only [decide_eq_true_eq] at hp ⊢
      exact fun e => hp (hsub x (by simpa using hx) e)) ⟨k, by simpa using hk, by simp only [decide_eq_true_eq]; exact fun e => hPk ⟨hTk, by rw [e, hTk]⟩, by simp [hLk]⟩
    omega
theorem dif_le (a b : List Int) (n : Nat) (L : Nat → Nat) : dif a b n L ≤ n := by
  have := List.countP_le_length (p := fun i => decide (L i ≠ TT a b n i)) (l := List.range n)
  simpa [dif] using this
theorem dif_zero {a b : List Int} {n : Nat} {L : Nat → Nat} (h : dif a b n L = 0) (i : Nat) (hi : i < n) : L i = TT a b n i := by
  unfold dif at h
  rw [List.countP_eq_zero] at h
  have := h i (by simpa using hi)
  simpa using this
/-- labels as a list -/
def Lof (l : List Int) (i : Nat) : Nat := (l.getD i 0).toNat
theorem Lof_set (l : List Int) (i : Nat) (v : Int) (hi : i < l.length) (j : Nat) : Lof (l.set i v) j = if j = i then v.toNat else Lof l j := by
  unfold Lof
  by_cases h : j = i
  · subst h; rw [if_pos rfl]; simp [List.getD, hi]
  · rw [if_neg h, List.getD, List.getElem?_set_ne (fun e => h e.symm), ← List.getD]
theorem join_labels {a b : List Int} (h : bothE a b = 0) (l : List Int) (hl : l.length = a.length) (hpos : ∀ i, i < a.length → 0 ≤ l.getD i 0) (hd : dif a b a.length (Lof l) = 0) : divL l = joinR a b := by
  rw [joinR]
  have hk : (joinK a b).length = a.length := by simp [joinK]
  refine divL_congr _ _ 0 0 (by rw [hl, hk]) (fun i j hi hj => ?_)
  rw [hl] at hi hj
  have e : ∀ i, i < a.length → (joinK a b).getD i 0 = ((RT a b a.length i : Nat) : Int) := fun i hi => by
    simp only [joinK, List.getD, List.getElem?_map, List.getElem?_eq_getElem hi, Option.map_some, Option.getD_some, RT]
  rw [e i hi, e j hj]
  have h1 := dif_zero hd i hi
  have h2 := dif_zero hd j hj
  have h3 := TT_iff a b a.length i j
  have p1 := hpos i hi
  have p2 := hpos j hj
  unfold Lof at h1 h2
  constructor
  · intro he; rw [he, h2] at h1; rw [h3.1 h1.symm]
  · intro he; have := h3.2 (by omega); omega
end Store11
