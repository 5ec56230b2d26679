/- Plain functions of chapter 3: sums; orders and places. -/
import Init
import Derived.Laws.BitsAllLaws
namespace Grade03
theorem take_succ_getD (l : List Int) (k : Nat) (h : k < l.length) : l.take (k + 1) = l.take k ++ [l.getD k 0] := by
  rw [List.take_succ_eq_append_getElem h]; simp [List.getD, h]
theorem app_getD (l : List Int) (x : Int) (i : Nat) (h : i < l.length) : (l ++ [x]).getD i 0 = l.getD i 0 := by
  simp [List.getD, List.getElem?_append_left h]
theorem app_last (l : List Int) (x : Int) : (l ++ [x]).getD l.length 0 = x := by simp [List.getD]
theorem set_getD (l : List Int) (i j : Nat) (v : Int) (h : i < l.length) : (l.set i v).getD j 0 = if i = j then v else l.getD j 0 := by
  by_cases hij : i = j
  · subst hij; simp [List.getD, h]
  · rw [if_neg hij, List.getD, List.getElem?_set_ne hij, ← List.getD]
theorem ext_getD {l l' : List Int} (h : l.length = l'.length) (hg : ∀ j, j < l.length → l.getD j 0 = l'.getD j 0) : l = l' := by
  refine List.ext_getElem h fun j h1 h2 => ?_
  have := hg j h1
  simpa [List.getD, h1, h2] using this
theorem rev_getD (l : List Int) (j : Nat) (h : j < l.length) : l.reverse.getD j 0 = l.getD (l.length - 1 - j) 0 := by
  simp [List.getD, List.getElem?_reverse h]
/-- f 0 + .. + f (n-1) -/
def sm (f : Nat → Int) : Nat → Int
  | 0 => 0
  | n + 1 => sm f n + f n
theorem sm_congr {f g : Nat → Int} : ∀ n, (∀ i, i < n → f i = g i) → sm f n = sm g n
  | 0, _ => rfl
  | n + 1, h => by rw [sm, sm, sm_congr n (fun i hi => h i (by omega)), h n (by omega)]
theorem sm_zero : ∀ n, sm (fun _ => 0) n = 0
  | 0 => rfl
  | n + 1 => by rw [sm, sm_zero n]; rfl
theorem sm_add (f g : Nat → Int) : ∀ n, sm (fun i => f i + g i) n = sm f n + sm g n
  | 0 => rfl
  | n + 1 => by rw [sm, sm, sm, sm_add f g n]; omega
theorem sm_mul (c : Int) (f : Nat → Int) : ∀ n, sm (fun i => c * f i) n = c * sm f n
  | 0 => by simp [sm]
  | n + 1 => by rw [sm, sm, sm_mul c f n, Int.mul_add]
theorem sm_swap (f : Nat → Nat → Int) (m : Nat) : ∀ n, sm (fun i => sm (f i) m) n = sm (fun k => sm (fun i => f i k) n) m
  | 0 => by rw [sm]; exact (sm_zero m).symm
  | n + 1 => by
    rw [sm, sm_swap f m n, ← sm_add]
    exact sm_congr m (fun k _ => rfl)
theorem sm_one (f : Nat → Int) (j : Nat) : ∀ n, (∀ i, i < n → i ≠ j → f i = 0) → sm f n = if j < n then f j else 0
  | 0, _ => by simp [sm]
  | n + 1, h => by
    rw [sm, sm_one f j n (fun i hi => h i (by omega))]
    by_cases h1 : j < n
    · rw [if_pos h1, if_pos (by omega), h n (by omega) (by omega)]; omega
    · by_cases h2 : j = n
      · subst h2; rw [if_neg (by omega), if_pos (by omega)]; omega
      · rw [if_neg h1, if_neg (by omega), h n (by omega) (fun e => h2 e.symm)]; rfl
theorem sm_nonneg {f : Nat → Int} : ∀ n, (∀ i, i < n → 0 ≤ f i) → 0 ≤ sm f n
  | 0, _ => by simp [sm]
  | n + 1, h => by
    have := sm_nonneg n (fun i hi => h i (by omega))
    have := h n (by omega)
    rw [sm]; omega
theorem sm_le {f g : Nat → Int} : ∀ n, (∀ i, i < n → f i ≤ g i) → sm f n ≤ sm g n
  | 0, _ => by simp [sm]
  | n + 1, h => by
    have := sm_le n (fun i hi => h i (by omega))
    have := h n (by omega)
    rw [sm, sm]; omega
/-- a sum of smaller ones that is the same: all are the same -/
theorem sm_eq_of_le {f g : Nat → Int} : ∀ n, (∀ i, i < n → f i ≤ g i) → sm f n = sm g n → ∀ i, i < n → f i = g i
  | 0, _, _, i, hi => by omega
  | n + 1, h, he, i, hi => by
    have h1 := sm_le n (fun i hi => h i (by omega))
    have h2 := h n (by omega)
    rw [sm, sm] at he
    by_cases e : i = n
    · subst e; omega
    · exact sm_eq_of_le n (fun i hi => h i (by omega)) (by omega) i (by omega)
/-- 1 or 0 -/
def bI (p : Prop) [Decidable p] : Int := if p then 1 else 0
theorem bI_congr {p q : Prop} [Decidable p] [Decidable q] (h : p ↔ q) : bI p = bI q := by
  unfold bI
  by_cases hp : p
  · rw [if_pos hp, if_pos (h.1 hp)]
  · rw [if_neg hp, if_neg (fun hq => hp (h.2 hq))]
theorem bI_nonneg (p : Prop) [Decidable p] : 0 ≤ bI p := by unfold bI; split <;> decide
theorem bI_le {p q : Prop} [Decidable p] [Decidable q] (h : p → q) : bI p ≤ bI q := by
  unfold bI
  by_cases hp : p
  · rw [if_pos hp, if_pos (h hp)]; exact Int.le_refl _
  · rw [if_neg hp]; split <;> decide
theorem bI_eq {p q : Prop} [Decidable p] [Decidable q] (h : bI p = bI q) : p ↔ q := by
  unfold bI at h
  by_cases hp : p <;> by_cases hq : q <;> simp [hp, hq] at h ⊢
/-- l is an order of its bales -/
structure IsO (l : List Int) : Prop where
  lo : ∀ i, i < l.length → 0 ≤ l.getD i 0 ∧ l.getD i 0 < l.length
  inj : ∀ i k, i < l.length → k < l.length → l.getD i 0 = l.getD k 0 → i = k
theorem pig : ∀ (r : Nat) (l : List Int), l.Nodup → (∀ x ∈ l, 0 ≤ x ∧ x < (r : Int)) → l.length ≤ r
  | 0, l, _, h => by
    cases l with
    | nil => simp
    | cons x l => have := h x (by simp); omega
  | r + 1, l, hn, h => by
    by_cases hm : (r : Int) ∈ l
    · have h1 := pig r (l.erase (r : Int)) (hn.erase _) (fun x hx => by
        have h2 := h x (List.mem_of_mem_erase hx)
        have h3 : x ≠ (r : Int) := fun e => by subst e; exact (List.Nodup.not_mem_erase hn) hx
        omega)
      rw [List.length_erase_of_mem hm] at h1
      omega
    · have h1 := pig r l hn (fun x hx => by
        have h2 := h x hx
        have h3 : x ≠ (r : Int) := fun e => by subst e; exact hm hx
        omega)
      omega
theorem mem_getD (l : List Int) (i : Nat) (h : i < l.length) : l.getD i 0 ∈ l := by
  rw [List.getD, List.getElem?_eq_getElem h]; exact List.getElem_mem h
theorem getD_of_mem {l : List Int} {x : Int} (h : x ∈ l) : ∃ i, i < l.length ∧ l.getD i 0 = x := by
  obtain ⟨i, hi, e⟩ := List.mem_iff_getElem.1 h
  exact ⟨i, hi, by rw [List.getD, List.getElem?_eq_getElem hi]; exact e⟩
theorem nodup_of {l : List Int} (h : ∀ i k, i < l.length → k < l.length → l.getD i 0 = l.getD k 0 → i = k) : l.Nodup := by
  rw [List.nodup_iff_pairwise_ne, List.pairwise_iff_getElem]
  intro i j hi hj hij e
  have := h i j hi hj (by rw [List.getD, List.getD, List.getElem?_eq_getElem hi, List.getElem?_eq_getElem hj]; simpa using e)
  omega
theorem IsO.nodup {l : List Int} (h : IsO l) : l.Nodup := nodup_of h.inj
/-- every bale is there -/
theorem IsO.surj {l : List Int} (h : IsO l) (x : Int) (h0 : 0 ≤ x) (h1 : x < l.length) : ∃ i, i < l.length ∧ l.getD i 0 = x := by
  by_cases hm : x ∈ l
  · exact getD_of_mem hm
  · exfalso
    have := pig l.length (x :: l) (List.nodup_cons.2 ⟨hm, h.nodup⟩) (fun y hy => by
      rcases List.mem_cons.1 hy with rfl | hy
      · exact ⟨h0, h1⟩
      · obtain ⟨i, hi, rfl⟩ := getD_of_mem hy
        exact h.lo i hi)
    simp at this
    omega
/-- the place of a bale -/
def pos (l : List Int) (x : Int) : Nat := l.findIdx (· == x)
theorem pos_spec {l : List Int} {x : Int} (h : x ∈ l) : pos l x < l.length ∧ l.getD (pos l x) 0 = x ∧ ∀ k, k < pos l x → l.getD k 0 ≠ x := by
  have h1 : pos l x < l.length := List.findIdx_lt_length_of_exists ⟨x, h, by simp⟩
  refine ⟨h1, ?_, fun k hk e => ?_⟩
  · have := List.findIdx_getElem (xs := l) (p := (· == x)) (w := h1)
    rw [List.getD, List.getElem?_eq_getElem h1]
    exact eq_of_beq this
  · have hkl : k < l.length := by omega
    have := List.not_of_lt_findIdx hk
    rw [List.getD, List.getElem?_eq_getElem hkl] at e
    simp at this e
    exact this e
theorem IsO.mem {l : List Int} (h : IsO l) (x : Int) (h0 : 0 ≤ x) (h1 : x < l.length) : x ∈ l := by
  obtain ⟨i, hi, rfl⟩ := h.surj x h0 h1
  exact mem_getD l i hi
theorem IsO.pos_get {l : List Int} (h : IsO l) (i : Nat) (hi : i < l.length) : pos l (l.getD i 0) = i := by
  obtain ⟨h1, h2, _⟩ := pos_spec (mem_getD l i hi)
  exact h.inj _ _ h1 hi h2
theorem IsO.get_pos {l : List Int} (h : IsO l) (x : Int) (h0 : 0 ≤ x) (h1 : x < l.length) : pos l x < l.length ∧ l.getD (pos l x) 0 = x := by
  obtain ⟨a, b, _⟩ := pos_spec (h.mem x h0 h1)
  exact ⟨a, b⟩
theorem IsO.pos_inj {l : List Int} (h : IsO l) {x y : Int} (hx : 0 ≤ x ∧ x < l.length) (hy : 0 ≤ y ∧ y < l.length) (e : pos l x = pos l y) : x = y := by
  have h1 := h.get_pos x hx.1 hx.2
  have h2 := h.get_pos y hy.1 hy.2
  rw [← h1.2, ← h2.2, e]
/-- sums over bales are sums over places -/
theorem sm_order {l : List Int} (h : IsO l) (f : Int → Int) : sm (fun i => f (l.getD i 0)) l.length = sm (fun x : Nat => f (x : Int)) l.length := by
  have e1 : ∀ i, i < l.length → f (l.getD i 0) = sm (fun x : Nat => bI (l.getD i 0 = (x : Int)) * f (x : Int)) l.length := fun i hi => by
    have hb := h.lo i hi
    rw [sm_one _ (l.getD i 0).toNat _ (fun x _ hx => by rw [bI, if_neg (by omega), Int.zero_mul]), if_pos (by omega), bI, if_pos (by omega), Int.one_mul]
    congr 1; omega
  have e2 : ∀ x : Nat, x < l.length → sm (fun i => bI (l.getD i 0 = (x : Int)) * f (x : Int)) l.length = f (x : Int) := fun x hx => by
    obtain ⟨i, hi, he⟩ := h.surj x (by omega) (by omega)
    rw [sm_one _ i _ (fun k hk hne => by rw [bI, if_neg (fun e => hne (h.inj k i hk hi (e.trans he.symm))), Int.zero_mul]), if_pos hi, bI, if_pos he, Int.one_mul]
  rw [sm_congr _ e1, sm_swap (fun i x => bI (l.getD i 0 = (x : Int)) * f (x : Int))]
  exact sm_congr _ e2
end Grade03
namespace Grade03
/-- x comes before y -/
def bef (l : List Int) (x y : Nat) : Prop := pos l (x : Int) < pos l (y : Int)
instance (l : List Int) (x y : Nat) : Decidable (bef l x y) := inferInstanceAs (Decidable (_ < _))
theorem bef_total {l : List Int} (h : IsO l) {x y : Nat} (hx : x < l.length) (hy : y < l.length) (hne : x ≠ y) : bef l x y ∨ bef l y x := by
  rcases Nat.lt_trichotomy (pos l (x : Int)) (pos l (y : Int)) with h1 | h1 | h1
  · exact .inl h1
  · exact absurd (h.pos_inj ⟨by omega, by omega⟩ ⟨by omega, by omega⟩ h1) (by omega)
  · exact .inr h1
theorem bef_asymm {l : List Int} {x y : Nat} (h : bef l x y) : ¬ bef l y x := by unfold bef at *; omega
theorem bef_irrefl (l : List Int) (x : Nat) : ¬ bef l x x := by unfold bef; omega
theorem bef_trans {l : List Int} {x y z : Nat} (h : bef l x y) (h' : bef l y z) : bef l x z := by unfold bef at *; omega
/-- in how many pairs two orders differ -/
def dist (a b : List Int) : Int := sm (fun x => sm (fun y => bI (bef a x y ∧ bef b y x)) a.length) a.length
theorem dist_nonneg (a b : List Int) : 0 ≤ dist a b := sm_nonneg _ fun _ _ => sm_nonneg _ fun _ _ => bI_nonneg _
def swp (l : List Int) (k : Nat) : List Int := (l.set k (l.getD (k + 1) 0)).set (k + 1) (l.getD k 0)
theorem swp_len (l : List Int) (k : Nat) : (swp l k).length = l.length := by simp [swp]
theorem swp_get (l : List Int) (k : Nat) (h : k + 1 < l.length) (j : Nat) : (swp l k).getD j 0 = if j = k then l.getD (k + 1) 0 else if j = k + 1 then l.getD k 0 else l.getD j 0 := by
  rw [swp, set_getD _ _ _ _ (by simp; omega), set_getD _ _ _ _ (by omega)]
  by_cases h1 : j = k
  · rw [if_pos h1, if_neg (by omega), if_pos h1.symm]
  · rw [if_neg h1]
    by_cases h2 : j = k + 1
    · rw [if_pos h2, if_pos h2.symm]
    · rw [if_neg h2, if_neg (by omega), if_neg (by omega)]
theorem swp_ord {l : List Int} (h : IsO l) (k : Nat) (hk : k + 1 < l.length) : IsO (swp l k) := by
  have hl := swp_len l k
  refine ⟨fun i hi => ?_, fun i j hi hj e => ?_⟩
  · rw [hl] at hi ⊢
    rw [swp_get l k hk]
    split
    · exact h.lo _ hk
    · split
      · exact h.lo _ (by omega)
      · exact h.lo _ hi
  · rw [hl] at hi hj
    rw [swp_get l k hk, swp_get l k hk] at e
    by_cases i1 : i = k
    · rw [if_pos i1] at e
      by_cases j1 : j = k
      · omega
      · rw [if_neg j1] at e
        by_cases j2 : j = k + 1
        · rw [if_pos j2] at e; have := h.inj _ _ hk (by omega) e; omega
        · rw [if_neg j2] at e; have := h.inj _ _ hk hj e; omega
    · rw [if_neg i1] at e
      by_cases i2 : i = k + 1
      · rw [if_pos i2] at e
        by_cases j1 : j = k
        · rw [if_pos j1] at e; have := h.inj _ _ (by omega) hk e; omega
        · rw [if_neg j1] at e
          by_cases j2 : j = k + 1
          · omega
          · rw [if_neg j2] at e; have := h.inj _ _ (by omega) hj e; omega
      · rw [if_neg i2] at e
        by_cases j1 : j = k
        · rw [if_pos j1] at e; have := h.inj _ _ hi hk e; omega
        · rw [if_neg j1] at e
          by_cases j2 : j = k + 1
          · rw [if_pos j2] at e; have := h.inj _ _ hi (by omega) e; omega
          · rw [if_neg j2] at e; exact h.inj _ _ hi hj e
theorem swp_pos {l : List Int} (h : IsO l) (k : Nat) (hk : k + 1 < l.length) (x : Int) (h0 : 0 ≤ x) (h1 : x < l.length) : pos (swp l k) x = if x = l.getD k 0 then k + 1 else if x = l.getD (k + 1) 0 then k else pos l x := by
  have ho := swp_ord h k hk
  have hl := swp_len l k
  have key : ∀ j, j < l.length → (swp l k).getD j 0 = x → pos (swp l k) x = j := fun j hj e => by rw [← e]; exact ho.pos_get j (by omega)
  by_cases e1 : x = l.getD k 0
  · rw [if_pos e1]
    refine key (k + 1) hk ?_
    rw [swp_get l k hk, if_neg (by omega), if_pos rfl, e1]
  · rw [if_neg e1]
    by_cases e2 : x = l.getD (k + 1) 0
    · rw [if_pos e2]
      refine key k (by omega) ?_
      rw [swp_get l k hk, if_pos rfl, e2]
    · rw [if_neg e2]
      obtain ⟨p1, p2⟩ := h.get_pos x h0 h1
      refine key _ p1 ?_
      rw [swp_get l k hk, if_neg (fun e => e1 (by rw [← e, p2])), if_neg (fun e => e2 (by rw [← e, p2])), p2]
/-- an exchange turns one pair -/
theorem swp_bef {l : List Int} (h : IsO l) (k : Nat) (hk : k + 1 < l.length) (x y : Nat) (hx : x < l.length) (hy : y < l.length) :
    bef (swp l k) x y ↔ ((x : Int) = l.getD (k + 1) 0 ∧ (y : Int) = l.getD k 0) ∨ (¬ ((x : Int) = l.getD k 0 ∧ (y : Int) = l.getD (k + 1) 0) ∧ bef l x y) := by
  have hne : l.getD k 0 ≠ l.getD (k + 1) 0 := fun e => by have := h.inj k (k + 1) (by omega) hk e; omega
  have pk := h.pos_get k (by omega)
  have pk1 := h.pos_get (k + 1) hk
  have facts : ∀ z : Nat, z < l.length → ((z : Int) = l.getD k 0 → pos (swp l k) (z : Int) = k + 1 ∧ pos l (z : Int) = k) ∧ ((z : Int) = l.getD (k + 1) 0 → pos (swp l k) (z : Int) = k ∧ pos l (z : Int) = k + 1) ∧
      ((z : Int) ≠ l.getD k 0 → (z : Int) ≠ l.getD (k + 1) 0 → pos (swp l k) (z : Int) = pos l (z : Int) ∧ pos l (z : Int) ≠ k ∧ pos l (z : Int) ≠ k + 1) := fun z hz => by
    have hp := swp_pos h k hk (z : Int) (by omega) (by omega)
    have hg := (h.get_pos (z : Int) (by omega) (by omega)).2
    refine ⟨fun e => ?_, fun e => ?_, fun e1 e2 => ?_⟩
    · rw [if_pos e] at hp; exact ⟨hp, by rw [e]; exact pk⟩
    · rw [if_neg (fun e2 => hne (e2.symm.trans e)), if_pos e] at hp; exact ⟨hp, by rw [e]; exact pk1⟩
    · rw [if_neg e1, if_neg e2] at hp
      exact ⟨hp, fun e => e1 (by rw [← e]; exact hg.symm), fun e => e2 (by rw [← e]; exact hg.symm)⟩
  have fx := facts x hx
  have fy := facts y hy
  unfold bef
  generalize l.getD k 0 = A at *
  generalize l.getD (k + 1) 0 = B at *
  generalize pos (swp l k) (x : Int) = X' at *
  generalize pos (swp l k) (y : Int) = Y' at *
  by_cases x1 : (x : Int) = A
  · have := fx.1 x1
    by_cases y1 : (y : Int) = A
    · have := fy.1 y1; omega
    · by_cases y2 : (y : Int) = B
      · have := fy.2.1 y2; omega
      · have := fy.2.2 y1 y2; omega
  · by_cases x2 : (x : Int) = B
    · have := fx.2.1 x2
      by_cases y1 : (y : Int) = A
      · have := fy.1 y1; omega
      · by_cases y2 : (y : Int) = B
        · have := fy.2.1 y2; omega
        · have := fy.2.2 y1 y2; omega
    · have := fx.2.2 x1 x2
      by_cases y1 : (y : Int) = A
      · have := fy.1 y1; omega
      · by_cases y2 : (y : Int) = B
        · have := fy.2.1 y2; omega
        · have := fy.2.2 y1 y2; omega
theorem sm_point (n : Nat) (u v : Nat) (c : Int) (hu : u < n) (hv : v < n) : sm (fun x => sm (fun y => bI (x = u ∧ y = v) * c) n) n = c := by
  rw [sm_one _ u n (fun x _ hx => ?_), if_pos hu, sm_one _ v n (fun y _ hy => by rw [bI, if_neg (fun e => hy e.2), Int.zero_mul]), if_pos hv, bI, if_pos ⟨rfl, rfl⟩, Int.one_mul]
  rw [← sm_zero n]
  exact sm_congr n fun y _ => by rw [bI, if_neg (fun e => hx e.1), Int.zero_mul]
theorem swp_dist {l b : List Int} (h : IsO l) (hb : IsO b) (hl : b.length = l.length) (k : Nat) (hk : k + 1 < l.length) :
    dist (swp l k) b = if pos b (l.getD k 0) < pos b (l.getD (k + 1) 0) then dist l b + 1 else dist l b - 1 := by
  obtain ⟨u, hu⟩ : ∃ u : Nat, l.getD k 0 = (u : Int) := ⟨(l.getD k 0).toNat, by have := h.lo k (by omega); omega⟩
  obtain ⟨v, hv⟩ : ∃ v : Nat, l.getD (k + 1) 0 = (v : Int) := ⟨(l.getD (k + 1) 0).toNat, by have := h.lo (k + 1) hk; omega⟩
  have hul : u < l.length := by have := h.lo k (by omega); omega
  have hvl : v < l.length := by have := h.lo (k + 1) hk; omega
  have hne : u ≠ v := fun e => by have := h.inj k (k + 1) (by omega) hk (by rw [hu, hv, e]); omega
  have hbe : bef l u v := by
    unfold bef; rw [← hu, ← hv, h.pos_get k (by omega), h.pos_get (k + 1) hk]; omega
  have hterm : ∀ x, x < l.length → ∀ y, y < l.length → bI (bef (swp l k) x y ∧ bef b y x) = (bI (bef l x y ∧ bef b y x) + bI (x = v ∧ y = u) * bI (bef b u v)) + bI (x = u ∧ y = v) * (- bI (bef b v u)) := fun x hx y hy => by
    have hs := swp_bef h k hk x y hx hy
    rw [hu, hv] at hs
    by_cases c1 : x = u ∧ y = v
    · obtain ⟨rfl, rfl⟩ := c1
      have e1 : bI (bef (swp l k) x y ∧ bef b y x) = 0 := by
        rw [bI, if_neg (fun e => ?_)]
        rcases hs.1 e.1 with h1 | h1
        · exact hne (by omega)
        · exact h1.1 ⟨rfl, rfl⟩
      have e2 : bI (bef l x y ∧ bef b y x) = bI (bef b y x) := bI_congr ⟨fun e => e.2, fun e => ⟨hbe, e⟩⟩
      rw [e1, e2]
      have e3 : bI (x = y ∧ y = x) = 0 := by rw [bI, if_neg (fun e => hne e.1)]
      have e4 : bI (x = x ∧ y = y) = 1 := by rw [bI, if_pos ⟨rfl, rfl⟩]
      rw [e3, e4]; omega
    · have e4 : bI (x = u ∧ y = v) = 0 := by rw [bI, if_neg c1]
      rw [e4, Int.zero_mul, Int.add_zero]
      by_cases c2 : x = v ∧ y = u
      · obtain ⟨rfl, rfl⟩ := c2
        have e1 : bI (bef (swp l k) x y ∧ bef b y x) = bI (bef b y x) := bI_congr ⟨fun e => e.2, fun e => ⟨hs.2 (.inl ⟨rfl, rfl⟩), e⟩⟩
        have e2 : bI (bef l x y ∧ bef b y x) = 0 := by rw [bI, if_neg (fun e => bef_asymm hbe e.1)]
        have e3 : bI (x = x ∧ y = y) = 1 := by rw [bI, if_pos ⟨rfl, rfl⟩]
        rw [e1, e2, e3]; omega
      · have e3 : bI (x = v ∧ y = u) = 0 := by rw [bI, if_neg c2]
        rw [e3, Int.zero_mul, Int.add_zero]
        refine bI_congr ⟨fun e => ⟨?_, e.2⟩, fun e => ⟨hs.2 (.inr ⟨fun e2 => c1 ⟨by omega, by omega⟩, e.1⟩), e.2⟩⟩
        rcases hs.1 e.1 with h1 | h1
        · exact absurd ⟨by omega, by omega⟩ c2
        · exact h1.2
  have hsum : dist (swp l k) b = dist l b + bI (bef b u v) + - bI (bef b v u) := by
    unfold dist
    rw [swp_len]
    rw [sm_congr _ (fun x hx => sm_congr _ (fun y hy => hterm x hx y hy))]
    have e1 : ∀ x, sm (fun y => (bI (bef l x y ∧ bef b y x) + bI (x = v ∧ y = u) * bI (bef b u v)) + bI (x = u ∧ y = v) * (- bI (bef b v u))) l.length =
      (sm (fun y => bI (bef l x y ∧ bef b y x)) l.length + sm (fun y => bI (x = v ∧ y = u) * bI (bef b u v)) l.length) + sm (fun y => bI (x = u ∧ y = v) * (- bI (bef b v u))) l.length := fun x => by
      rw [sm_add (fun y => bI (bef l x y ∧ bef b y x) + bI (x = v ∧ y = u) * bI (bef b u v)), sm_add]
    rw [sm_congr _ (fun x _ => e1 x)]
    rw [sm_add (fun x => sm (fun y => bI (bef l x y ∧ bef b y x)) l.length + sm (fun y => bI (x = v ∧ y = u) * bI (bef b u v)) l.length), sm_add, sm_point _ v u _ hvl hul, sm_point _ u v _ hul hvl]
  rw [hsum]
  have hp : pos b (l.getD k 0) < pos b (l.getD (k + 1) 0) ↔ bef b u v := by unfold bef; rw [hu, hv]
  rcases bef_total hb (x := u) (y := v) (by omega) (by omega) hne with h1 | h1
  · rw [if_pos (hp.2 h1)]
    have e1 : bI (bef b u v) = 1 := by rw [bI, if_pos h1]
    have e2 : bI (bef b v u) = 0 := by rw [bI, if_neg (bef_asymm h1)]
    omega
  · rw [if_neg (fun e => bef_asymm h1 (hp.1 e))]
    have e1 : bI (bef b u v) = 0 := by rw [bI, if_neg (bef_asymm h1)]
    have e2 : bI (bef b v u) = 1 := by rw [bI, if_pos h1]
    omega
/-- two orders that differ in no pair are one -/
theorem dist_zero {a b : List Int} (ha : IsO a) (hb : IsO b) (hl : b.length = a.length) : dist a b = 0 ↔ a = b := by
  constructor
  · intro h
    have hall : ∀ x y, x < a.length → y < a.length → bef a x y → bef b x y := fun x y hx hy hxy => by
      have h1 : ∀ x, x < a.length → 0 ≤ sm (fun y => bI (bef a x y ∧ bef b y x)) a.length := fun x _ => sm_nonneg _ fun _ _ => bI_nonneg _
      have h2 := sm_eq_of_le (f := fun _ => 0) a.length h1 (by rw [sm_zero]; exact h.symm) x hx
      have h3 := sm_eq_of_le (f := fun _ => 0) a.length (fun y _ => bI_nonneg (bef a x y ∧ bef b y x)) (by rw [sm_zero]; exact h2) y hy
      have hne : x ≠ y := fun e => bef_irrefl a x (e ▸ hxy)
      rcases bef_total hb (x := x) (y := y) (by omega) (by omega) hne with h4 | h4
      · exact h4
      · simp only [bI] at h3; rw [if_pos ⟨hxy, h4⟩] at h3; cases h3
    -- places agree
    have hcount : ∀ (l : List Int), IsO l → ∀ x : Nat, x < l.length → (pos l (x : Int) : Int) = sm (fun y => bI (bef l y x)) l.length := fun l hO x hx => by
      have := sm_order hO (fun y => bI (pos l y < pos l (x : Int)))
      have e : sm (fun y : Nat => bI (bef l y x)) l.length = sm (fun i => bI (i < pos l (x : Int))) l.length := by
        rw [show (fun y : Nat => bI (bef l y x)) = fun y : Nat => bI (pos l (y : Int) < pos l (x : Int)) from rfl, ← this]
        exact sm_congr _ fun i hi => by rw [hO.pos_get i hi]
      rw [e]
      have hcnt : ∀ n m : Nat, m ≤ n → sm (fun i => bI (i < m)) n = m := by
        intro n
        induction n with
        | zero => intro m hm; obtain rfl : m = 0 := by omega
                  rfl
        | succ n ih =>
          intro m hm
          rw [sm]
          by_cases e : m = n + 1
          · subst e
            have : sm (fun i => bI (i < n + 1)) n = sm (fun i => bI (i < n)) n := sm_congr _ fun i hi => bI_congr ⟨fun _ => hi, fun _ => by omega⟩
            rw [this, ih n (Nat.le_refl _), bI, if_pos (by omega)]; omega
          · rw [ih m (by omega), bI, if_neg (by omega)]; omega
      have := (hO.get_pos (x : Int) (by omega) (by omega)).1
      rw [hcnt _ _ (by omega)]
    refine ext_getD hl.symm fun i hi => ?_
    obtain ⟨x, hx⟩ : ∃ x : Nat, a.getD i 0 = (x : Int) := ⟨(a.getD i 0).toNat, by have := ha.lo i hi; omega⟩
    have hxl : x < a.length := by have := ha.lo i hi; omega
    have e1 := hcount a ha x hxl
    have e2 := hcount b hb x (by omega)
    have e3 : sm (fun y => bI (bef a y x)) a.length = sm (fun y => bI (bef b y x)) b.length := by
      rw [hl]
      refine sm_congr _ fun y hy => bI_congr ⟨fun h1 => hall y x hy hxl h1, fun h1 => ?_⟩
      have hne : y ≠ x := fun e => bef_irrefl b x (e ▸ h1)
      rcases bef_total ha hy hxl hne with h2 | h2
      · exact h2
      · exact absurd (hall x y hxl hy h2) (bef_asymm h1)
    have e4 : pos a (x : Int) = i := by rw [← hx]; exact ha.pos_get i hi
    have e5 : pos b (x : Int) = i := by omega
    rw [hx, ← (hb.get_pos (x : Int) (by omega) (by omega)).2, e5]
  · rintro rfl
    unfold dist
    have : ∀ x, x < a.length → sm (fun y => bI (bef a x y ∧ bef a y x)) a.length = 0 := fun x _ => by
      rw [← sm_zero a.length]
      exact sm_congr _ fun y _ => by rw [bI, if_neg (fun h => bef_asymm h.1 h.2)]
    rw [sm_congr _ this, sm_zero]
end Grade03
namespace Grade03
/-- the pair at a place is as the other order has it -/
def okP (b l : List Int) (k : Nat) : Prop := pos b (l.getD k 0) < pos b (l.getD (k + 1) 0)
instance (b l : List Int) (k : Nat) : Decidable (okP b l k) := inferInstanceAs (Decidable (_ < _))
/-- the first place from k on, of so many, whose pair is not -/
def fdF (b l : List Int) : Nat → Nat → Option Nat
  | 0, _ => none
  | f + 1, k => if okP b l k then fdF b l f (k + 1) else some k
def fd (b l : List Int) : Option Nat := fdF b l (l.length - 1) 0
theorem fdF_some {b l : List Int} : ∀ f k i, fdF b l f k = some i → k ≤ i ∧ i < k + f ∧ ¬ okP b l i ∧ ∀ j, k ≤ j → j < i → okP b l j
  | 0, _, _, h => by cases h
  | f + 1, k, i, h => by
    rw [fdF] at h
    split at h
    · rename_i h1
      obtain ⟨a1, a2, a3, a4⟩ := fdF_some f (k + 1) i h
      refine ⟨by omega, by omega, a3, fun j hj1 hj2 => ?_⟩
      by_cases e : j = k
      · rw [e]; exact h1
      · exact a4 j (by omega) hj2
    · rename_i h1
      cases h
      exact ⟨Nat.le_refl _, by omega, h1, fun j h1 h2 => by omega⟩
theorem fdF_none {b l : List Int} : ∀ f k, fdF b l f k = none → ∀ j, k ≤ j → j < k + f → okP b l j
  | 0, k, _, j, h1, h2 => by omega
  | f + 1, k, h, j, h1, h2 => by
    rw [fdF] at h
    split at h
    · rename_i h3
      by_cases e : j = k
      · rw [e]; exact h3
      · exact fdF_none f (k + 1) h j (by omega) (by omega)
    · cases h
theorem fd_some {b l : List Int} {i : Nat} (h : fd b l = some i) : i + 1 < l.length ∧ ¬ okP b l i ∧ ∀ j, j < i → okP b l j := by
  obtain ⟨_, h2, h3, h4⟩ := fdF_some _ _ _ h
  exact ⟨by omega, h3, fun j hj => h4 j (by omega) hj⟩
theorem fd_none {b l : List Int} (h : fd b l = none) (j : Nat) (hj : j + 1 < l.length) : okP b l j := fdF_none _ _ h j (by omega) (by omega)
theorem fd_is {b l : List Int} {i : Nat} (hi : i + 1 < l.length) (hn : ¬ okP b l i) (ho : ∀ j, j < i → okP b l j) : fd b l = some i := by
  cases h : fd b l with
  | none => exact absurd (fd_none h i hi) hn
  | some k =>
    obtain ⟨h1, h2, h3⟩ := fd_some h
    rcases Nat.lt_trichotomy i k with h4 | h4 | h4
    · exact absurd (h3 i h4) hn
    · rw [h4]
    · exact absurd (ho k h4) h2
theorem fd_no {b l : List Int} (h : ∀ j, j + 1 < l.length → okP b l j) : fd b l = none := by
  cases h1 : fd b l with
  | none => rfl
  | some k => obtain ⟨a1, a2, _⟩ := fd_some h1; exact absurd (h k a1) a2
/-- no place is left: it is the other order -/
theorem fd_dist {b l : List Int} (h : IsO l) (hb : IsO b) (hl : b.length = l.length) : fd b l = none ↔ dist l b = 0 := by
  rw [dist_zero h hb hl]
  constructor
  · intro hn
    have hinc : ∀ i, i < l.length → i ≤ pos b (l.getD i 0) := by
      intro i
      induction i with
      | zero => intro _; omega
      | succ i ih =>
        intro hi
        have h1 := ih (by omega)
        have h2 := fd_none hn i hi
        unfold okP at h2; omega
    have hdec : ∀ d i, d + i + 1 = l.length → pos b (l.getD i 0) ≤ i := by
      intro d
      induction d with
      | zero =>
        intro i hi
        have := (hb.get_pos (l.getD i 0) (h.lo i (by omega)).1 (by have := (h.lo i (by omega)).2; omega)).1
        omega
      | succ d ih =>
        intro i hi
        have h1 := ih (i + 1) (by omega)
        have h2 := fd_none hn i (by omega)
        unfold okP at h2; omega
    refine ext_getD hl.symm fun i hi => ?_
    have h1 := hinc i hi
    have h2 := hdec (l.length - 1 - i) i (by omega)
    have h3 := (hb.get_pos (l.getD i 0) (h.lo i hi).1 (by have := (h.lo i hi).2; omega)).2
    rw [show pos b (l.getD i 0) = i by omega] at h3
    exact h3.symm
  · rintro rfl
    exact fd_no fun j hj => by unfold okP; rw [h.pos_get j (by omega), h.pos_get (j + 1) hj]; omega
/-- the exchanges -/
def wayF (b : List Int) : Nat → List Int → List Int
  | 0, _ => []
  | f + 1, l => match fd b l with
    | some k => (k : Int) :: wayF b f (swp l k)
    | none => []
def wayR (b l : List Int) : List Int := wayF b (dist l b).toNat l
theorem wayR_none {b l : List Int} (h : fd b l = none) : wayR b l = [] := by
  unfold wayR
  cases (dist l b).toNat with
  | zero => rfl
  | succ f => rw [wayF, h]
theorem wayR_some {b l : List Int} (h : IsO l) (hb : IsO b) (hl : b.length = l.length) {k : Nat} (hk : fd b l = some k) : dist (swp l k) b = dist l b - 1 ∧ wayR b l = (k : Int) :: wayR b (swp l k) := by
  obtain ⟨h1, h2, h3⟩ := fd_some hk
  have hd := swp_dist h hb hl k h1
  rw [if_neg (c := pos b (l.getD k 0) < pos b (l.getD (k + 1) 0)) h2] at hd
  have hpos : dist l b ≠ 0 := fun e => by rw [(fd_dist h hb hl).2 e] at hk; cases hk
  have hn := dist_nonneg l b
  refine ⟨hd, ?_⟩
  unfold wayR
  rw [hd]
  obtain ⟨d, hd2⟩ : ∃ d : Nat, dist l b = (d : Int) + 1 := ⟨(dist l b - 1).toNat, by omega⟩
  rw [hd2, show ((d : Int) + 1).toNat = d + 1 by omega, show ((d : Int) + 1 - 1).toNat = d by omega, wayF, hk]
theorem wayR_len {b : List Int} (hb : IsO b) : ∀ (d : Nat) (l : List Int), IsO l → b.length = l.length → dist l b = (d : Int) → (wayR b l).length = d ∧ ∀ x ∈ wayR b l, 0 ≤ x ∧ x + 1 < l.length
  | 0, l, h, hl, hd => by rw [wayR_none ((fd_dist h hb hl).2 hd)]; simp
  | d + 1, l, h, hl, hd => by
    cases hk : fd b l with
    | none => have := (fd_dist h hb hl).1 hk; omega
    | some k =>
      obtain ⟨h1, h2⟩ := wayR_some h hb hl hk
      obtain ⟨h3, _, _⟩ := fd_some hk
      have ih := wayR_len hb d (swp l k) (swp_ord h k h3) (by rw [swp_len]; exact hl) (by omega)
      rw [swp_len] at ih
      rw [h2]
      refine ⟨by simp [ih.1], fun x hx => ?_⟩
      rcases List.mem_cons.1 hx with rfl | hx
      · omega
      · exact ih.2 x hx
/-- behind an exchange all in front of the place before are as the other order has them -/
theorem swp_ok {b l : List Int} {k : Nat} (hk : k + 1 < l.length) (ho : ∀ j, j < k → okP b l j) (j : Nat) (hj : j + 1 < k) : okP b (swp l k) j := by
  have := ho j (by omega)
  unfold okP at *
  rw [swp_get l k hk, swp_get l k hk, if_neg (by omega), if_neg (by omega), if_neg (by omega), if_neg (by omega)]
  exact this
end Grade03
namespace Grade03
/-- all orders of n bales that begin with some, and have so many more, in ascending order -/
def allO (n : Nat) : Nat → List Int → List (List Int)
  | 0, pre => [pre]
  | m + 1, pre => (List.range n).flatMap fun x : Nat => if (x : Int) ∈ pre then [] else allO n m (pre ++ [(x : Int)])
/-- what has to come before what: a strict order -/
structure SPO (n : Nat) (R : Nat → Nat → Prop) : Prop where
  irr : ∀ x, x < n → ¬ R x x
  tr : ∀ x y z, x < n → y < n → z < n → R x y → R y z → R x z
variable {n : Nat} {R : Nat → Nat → Prop}
/-- an order in which all comes before what it has to -/
def Lin (n : Nat) (R : Nat → Nat → Prop) (l : List Int) : Prop := ∀ x, x < n → ∀ y, y < n → R x y → bef l x y
instance [DecidableRel R] (l : List Int) : Decidable (Lin n R l) := inferInstanceAs (Decidable (∀ x, x < n → ∀ y, y < n → R x y → bef l x y))
/-- the next one may be y -/
def okN (n : Nat) (R : Nat → Nat → Prop) (pre : List Int) (y : Nat) : Prop := (y : Int) ∉ pre ∧ ∀ x, x < n → R x y → (x : Int) ∈ pre
instance [DecidableRel R] (pre : List Int) (y : Nat) : Decidable (okN n R pre y) := inferInstanceAs (Decidable (_ ∧ _))
/-- a beginning that is good -/
structure Beg (n : Nat) (R : Nat → Nat → Prop) (pre : List Int) : Prop where
  lo : ∀ i, i < pre.length → 0 ≤ pre.getD i 0 ∧ pre.getD i 0 < n
  inj : ∀ i k, i < pre.length → k < pre.length → pre.getD i 0 = pre.getD k 0 → i = k
  need : ∀ i x, i < pre.length → x < n → ∀ y : Nat, (y : Int) = pre.getD i 0 → R x y → ∃ k, k < i ∧ pre.getD k 0 = (x : Int)
theorem Beg.nil : Beg n R [] := ⟨fun i h => by simp at h, fun i k h => by simp at h, fun i x h => by simp at h⟩
theorem Beg.snoc {pre : List Int} (h : Beg n R pre) {y : Nat} (hy : y < n) (ho : okN n R pre y) : Beg n R (pre ++ [(y : Int)]) := by
  have hg : ∀ i, i < pre.length → (pre ++ [(y : Int)]).getD i 0 = pre.getD i 0 := fun i hi => app_getD _ _ _ hi
  have hl := app_last pre (y : Int)
  have hnot : ∀ i, i < pre.length → pre.getD i 0 ≠ (y : Int) := fun i hi e => ho.1 (e ▸ mem_getD pre i hi)
  refine ⟨fun i hi => ?_, fun i k hi hk e => ?_, fun i x hi hx z hz hr => ?_⟩
  · simp at hi
    by_cases e : i < pre.length
    · rw [hg i e]; exact h.lo i e
    · obtain rfl : i = pre.length := by omega
      rw [hl]; omega
  · simp at hi hk
    by_cases ei : i < pre.length <;> by_cases ek : k < pre.length
    · rw [hg i ei, hg k ek] at e; exact h.inj i k ei ek e
    · obtain rfl : k = pre.length := by omega
      rw [hg i ei, hl] at e; exact absurd e (hnot i ei)
    · obtain rfl : i = pre.length := by omega
      rw [hg k ek, hl] at e; exact absurd e.symm (hnot k ek)
    · omega
  · simp at hi
    by_cases e : i < pre.length
    · rw [hg i e] at hz
      obtain ⟨k, hk, hk2⟩ := h.need i x e hx z hz hr
      exact ⟨k, hk, by rw [hg k (by omega)]; exact hk2⟩
    · obtain rfl : i = pre.length := by omega
      rw [hl] at hz
      obtain rfl : z = y := by omega
      obtain ⟨k, hk, hk2⟩ := getD_of_mem (ho.2 x hx hr)
      exact ⟨k, hk, by rw [hg k hk]; exact hk2⟩
theorem Beg.ord {l : List Int} (h : Beg n R l) (hl : l.length = n) : IsO l ∧ Lin n R l := by
  have ho : IsO l := ⟨fun i hi => by rw [hl]; exact h.lo i hi, h.inj⟩
  refine ⟨ho, fun x hx y hy hr => ?_⟩
  obtain ⟨h1, h2⟩ := ho.get_pos (y : Int) (by omega) (by omega)
  obtain ⟨k, hk, hk2⟩ := h.need (pos l (y : Int)) x h1 hx y h2.symm hr
  have := ho.pos_get k (by omega)
  unfold bef
  rw [← hk2, this]; exact hk
/-- what begins so -/
theorem allO_pre : ∀ (m : Nat) (pre l : List Int), l ∈ allO n m pre → ∃ r, l = pre ++ r ∧ r.length = m
  | 0, pre, l, h => by simp [allO] at h; exact ⟨[], by simp [h], rfl⟩
  | m + 1, pre, l, h => by
    rw [allO, List.mem_flatMap] at h
    obtain ⟨x, _, h⟩ := h
    split at h
    · cases h
    · obtain ⟨r, h1, h2⟩ := allO_pre m _ l h
      exact ⟨(x : Int) :: r, by simp [h1], by simp [h2]⟩
theorem allO_ord : ∀ (m : Nat) (pre l : List Int), l ∈ allO n m pre → (∀ i, i < pre.length → 0 ≤ pre.getD i 0 ∧ pre.getD i 0 < n) → pre.Nodup → pre.length + m = n → IsO l ∧ l.length = n
  | 0, pre, l, h, h1, h2, h3 => by
    simp [allO] at h
    subst h
    have hl : l.length = n := by omega
    refine ⟨⟨fun i hi => by rw [hl]; exact h1 i hi, fun i k hi hk e => ?_⟩, hl⟩
    rw [List.nodup_iff_pairwise_ne, List.pairwise_iff_getElem] at h2
    rw [List.getD, List.getD, List.getElem?_eq_getElem hi, List.getElem?_eq_getElem hk] at e
    simp only [Option.getD_some] at e
    rcases Nat.lt_trichotomy i k with h4 | h4 | h4
    · exact absurd e (h2 i k hi hk h4)
    · exact h4
    · exact absurd e.symm (h2 k i hk hi h4)
  | m + 1, pre, l, h, h1, h2, h3 => by
    rw [allO, List.mem_flatMap] at h
    obtain ⟨x, hx, h⟩ := h
    rw [List.mem_range] at hx
    split at h
    · cases h
    · rename_i hm
      refine allO_ord m _ l h (fun i hi => ?_) ?_ (by simp; omega)
      · simp at hi
        by_cases e : i < pre.length
        · rw [app_getD _ _ _ e]; exact h1 i e
        · obtain rfl : i = pre.length := by omega
          rw [app_last]; omega
      · rw [List.nodup_append]
        refine ⟨h2, by simp, fun a ha b hb => ?_⟩
        simp at hb; subst hb
        exact fun e => hm (e ▸ ha)
/-- a beginning of an order that is not good -/
theorem no_lin {pre : List Int} {y x : Nat} (hx : x < n) (hy : y < n) (hr : R x y) (hm : (x : Int) ∉ pre) (hne : x ≠ y) (hyn : (y : Int) ∉ pre) {m : Nat} {l : List Int} (h : l ∈ allO n m (pre ++ [(y : Int)])) (ho : IsO l) (hl : l.length = n) : ¬ Lin n R l := by
  intro hL
  obtain ⟨r, rfl, hr2⟩ := allO_pre m _ l h
  have h1 := hL x hx y hy hr
  have hyp : pos (pre ++ [(y : Int)] ++ r) (y : Int) = pre.length := by
    have := ho.pos_get pre.length (by simp)
    rwa [show (pre ++ [(y : Int)] ++ r).getD pre.length 0 = (y : Int) by simp [List.getD]] at this
  unfold bef at h1
  rw [hyp] at h1
  obtain ⟨h2, h3⟩ := ho.get_pos (x : Int) (by omega) (by rw [hl]; omega)
  refine hm ?_
  rw [← h3]
  have e : (pre ++ [(y : Int)] ++ r).getD (pos (pre ++ [(y : Int)] ++ r) (x : Int)) 0 = pre.getD (pos (pre ++ [(y : Int)] ++ r) (x : Int)) 0 := by
    generalize pos (pre ++ [(y : Int)] ++ r) (x : Int) = p at *
    rw [List.append_assoc, List.getD, List.getElem?_append_left h1, ← List.getD]
  rw [e]
  exact mem_getD pre _ h1
/-- something may come next -/
theorem next_is (hS : SPO n R) {pre : List Int} (hB : Beg n R pre) (hl : pre.length < n) : ∃ y, y < n ∧ okN n R pre y := by
  -- a bale that is missing
  have hmiss : ∃ y : Nat, y < n ∧ (y : Int) ∉ pre := by
    refine Classical.byContradiction fun hn => ?_
    have hall : ∀ y : Nat, y < n → (y : Int) ∈ pre := fun y hy => Classical.byContradiction fun h => hn ⟨y, hy, h⟩
    have hnd : ((List.range n).map (fun i : Nat => (i : Int))).Nodup := by
      rw [List.nodup_iff_pairwise_ne, List.pairwise_map]
      exact List.Pairwise.imp (fun h => by omega) List.nodup_range
    have hsub : ∀ (k : Nat) (l p : List Int), l.length = k → l.Nodup → (∀ x ∈ l, x ∈ p) → k ≤ p.length := by
      intro k
      induction k with
      | zero => intro l p _ _ _; omega
      | succ k ih =>
        intro l p h1 h2 h3
        cases l with
        | nil => simp at h1
        | cons z l =>
          simp at h1
          have h4 := List.nodup_cons.1 h2
          have h5 := ih l (p.erase z) h1 h4.2 (fun x hx => (List.mem_erase_of_ne (fun e => by subst e; exact h4.1 hx)).2 (h3 x (by simp [hx])))
          rw [List.length_erase_of_mem (h3 z (by simp))] at h5
          have : 0 < p.length := List.length_pos_of_mem (h3 z (by simp))
          omega
    have := hsub n _ pre (by simp) hnd (fun x hx => by
      obtain ⟨y, hy, rfl⟩ := List.mem_map.1 hx
      exact hall y (List.mem_range.1 hy))
    omega
  -- go down as long as something is missing in front
  have key : ∀ (s : Nat) (chain : List Int) (y : Nat), y < n → (y : Int) ∉ pre → (∀ c ∈ chain, ∃ c' : Nat, c = (c' : Int) ∧ c' < n ∧ R y c') → chain.Nodup → n - chain.length ≤ s → ∃ y, y < n ∧ okN n R pre y := by
    intro s
    induction s with
    | zero =>
      intro chain y hy _ hc hnd hs
      exfalso
      have h1 : ((y : Int) :: chain).length ≤ n := pig n _ (List.nodup_cons.2 ⟨fun hm => by
        obtain ⟨c', e, hc1, hc2⟩ := hc _ hm
        obtain rfl : y = c' := by omega
        exact hS.irr y hy hc2, hnd⟩) (fun z hz => by
        rcases List.mem_cons.1 hz with rfl | hz
        · omega
        · obtain ⟨c', rfl, hc1, _⟩ := hc z hz; omega)
      simp at h1
      omega
    | succ s ih =>
      intro chain y hy hyp hc hnd hs
      by_cases hok : okN n R pre y
      · exact ⟨y, hy, hok⟩
      · have : ∃ x, x < n ∧ R x y ∧ (x : Int) ∉ pre := by
          refine Classical.byContradiction fun hn => hok ⟨hyp, fun x hx hr => Classical.byContradiction fun h => hn ⟨x, hx, hr, h⟩⟩
        obtain ⟨x, hx, hxy, hxp⟩ := this
        refine ih ((y : Int) :: chain) x hx hxp (fun c hcm => ?_) (List.nodup_cons.2 ⟨fun hm => ?_, hnd⟩) (by simp; omega)
        · rcases List.mem_cons.1 hcm with rfl | hcm
          · exact ⟨y, rfl, hy, hxy⟩
          · obtain ⟨c', e, hc1, hc2⟩ := hc c hcm
            exact ⟨c', e, hc1, hS.tr x y c' hx hy hc1 hxy hc2⟩
        · obtain ⟨c', e, hc1, hc2⟩ := hc _ hm
          obtain rfl : y = c' := by omega
          exact hS.irr y hy hc2
  obtain ⟨y, h1, h2⟩ := hmiss
  exact key n [] y h1 h2 (fun c h => by cases h) List.nodup_nil (by simp)
/-- the smallest that may come next -/
def nxtO (n : Nat) (R : Nat → Nat → Prop) [DecidableRel R] (pre : List Int) : Option Nat := (List.range n).find? fun y => decide (okN n R pre y)
def sortF (n : Nat) (R : Nat → Nat → Prop) [DecidableRel R] : Nat → List Int → List Int
  | 0, pre => pre
  | m + 1, pre => match nxtO n R pre with
    | some y => sortF n R m (pre ++ [(y : Int)])
    | none => sortF n R m pre
/-- the first order -/
def sortO (n : Nat) (R : Nat → Nat → Prop) [DecidableRel R] : List Int := sortF n R n []
theorem range_find {p : Nat → Bool} {n y : Nat} (h : (List.range n).find? p = some y) : y < n ∧ p y = true ∧ ∀ x, x < y → p x = false := by
  rw [List.find?_range_eq_some] at h
  obtain ⟨h1, h2, h3⟩ := h
  exact ⟨List.mem_range.1 h2, h1, fun x hx => by simpa using h3 x hx⟩
theorem nxtO_is [DecidableRel R] (hS : SPO n R) {pre : List Int} (hB : Beg n R pre) (hl : pre.length < n) : ∃ y, nxtO n R pre = some y ∧ y < n ∧ okN n R pre y ∧ ∀ x, x < y → ¬ okN n R pre x := by
  unfold nxtO
  cases h : (List.range n).find? fun y => decide (okN n R pre y) with
  | none =>
    obtain ⟨y, h1, h2⟩ := next_is hS hB hl
    rw [List.find?_eq_none] at h
    exact absurd (decide_eq_true h2) (h y (List.mem_range.2 h1))
  | some y =>
    obtain ⟨h1, h2, h3⟩ := range_find h
    exact ⟨y, rfl, h1, of_decide_eq_true h2, fun x hx => of_decide_eq_false (h3 x hx)⟩
/-- it is the first one of all -/
theorem sortF_first [DecidableRel R] (hS : SPO n R) : ∀ (m : Nat) (pre : List Int), Beg n R pre → pre.length + m = n → (allO n m pre).find? (fun l => decide (Lin n R l)) = some (sortF n R m pre) ∧ Beg n R (sortF n R m pre) ∧ (sortF n R m pre).length = n
  | 0, pre, hB, hl => by
    have := (hB.ord (by omega)).2
    refine ⟨by simp [allO, sortF, this], hB, by rw [sortF]; omega⟩
  | m + 1, pre, hB, hl => by
    obtain ⟨y, h1, h2, h3, h4⟩ := nxtO_is hS hB (by omega)
    have hB2 := hB.snoc h2 h3
    have ih := sortF_first hS m (pre ++ [(y : Int)]) hB2 (by simp; omega)
    rw [sortF, h1]
    refine ⟨?_, ih.2.1, ih.2.2⟩
    have hnd : pre.Nodup := nodup_of hB.inj
    -- nothing in front
    have hfront : ∀ x : Nat, x < y → ∀ l ∈ (if (x : Int) ∈ pre then [] else allO n m (pre ++ [(x : Int)])), ¬ Lin n R l := fun x hx l hl2 => by
      split at hl2
      · cases hl2
      · rename_i hxp
        have hno := h4 x hx
        have : ∃ z, z < n ∧ R z x ∧ (z : Int) ∉ pre := by
          refine Classical.byContradiction fun hn => hno ⟨hxp, fun z hz hr => Classical.byContradiction fun h => hn ⟨z, hz, hr, h⟩⟩
        obtain ⟨z, hz, hzx, hzp⟩ := this
        have hord := allO_ord m _ l hl2 (fun i hi => by
          simp at hi
          by_cases e : i < pre.length
          · rw [app_getD _ _ _ e]; exact hB.lo i e
          · obtain rfl : i = pre.length := by omega
            rw [app_last]; omega) (by
          rw [List.nodup_append]
          refine ⟨hnd, by simp, fun a ha b hb => ?_⟩
          simp at hb; subst hb
          exact fun e => hxp (e ▸ ha)) (by simp; omega)
        exact no_lin hz (by omega) hzx hzp (fun e => hS.irr x (by omega) (e ▸ hzx)) hxp hl2 hord.1 hord.2
    rw [allO]
    have hsplit : List.range n = List.range y ++ (y :: (List.range n).drop (y + 1)) := by
      have e1 : (List.range n).take y = List.range y := by
        rw [List.take_range]; congr 1; omega
      have e2 : (List.range n).drop y = y :: (List.range n).drop (y + 1) := by
        rw [List.drop_eq_getElem_cons (by simp; exact h2)]
        simp
      rw [← e1, ← e2, List.take_append_drop]
    rw [hsplit, List.flatMap_append, List.find?_append, List.flatMap_cons, List.find?_append]
    have hz1 : ((List.range y).flatMap fun x : Nat => if (x : Int) ∈ pre then [] else allO n m (pre ++ [(x : Int)])).find? (fun l => decide (Lin n R l)) = none := by
      rw [List.find?_eq_none]
      intro l hl2
      obtain ⟨x, hx, hl3⟩ := List.mem_flatMap.1 hl2
      have := hfront x (List.mem_range.1 hx) l hl3
      simpa using this
    rw [hz1, if_neg h3.1, ih.1]
    rfl
end Grade03
namespace Grade03
variable {n : Nat} {R : Nat → Nat → Prop}
/-- y may come next behind the set t -/
def vN (n : Nat) (R : Nat → Nat → Prop) (t y : Nat) : Prop := t.testBit y = false ∧ ∀ x, x < n → R x y → t.testBit x = true
instance [DecidableRel R] (t y : Nat) : Decidable (vN n R t y) := inferInstanceAs (Decidable (_ ∧ _))
/-- how many orders go on from a set -/
def Gf (n : Nat) (R : Nat → Nat → Prop) [DecidableRel R] : Nat → Nat → Int
  | 0, t => if t = 2 ^ n - 1 then 1 else 0
  | f + 1, t => if t = 2 ^ n - 1 then 1 else sm (fun y => if vN n R t y then Gf n R f (t ||| 2 ^ y) else 0) n
theorem or_bit (t y x : Nat) : (t ||| 2 ^ y).testBit x = (t.testBit x || decide (x = y)) := by
  rw [Nat.testBit_or, Nat.testBit_two_pow]
  congr 1
  exact decide_eq_decide.2 ⟨fun h => h.symm, fun h => h.symm⟩
theorem or_lt {t y : Nat} (ht : t < 2 ^ n) (hy : y < n) : t ||| 2 ^ y < 2 ^ n := Nat.or_lt_two_pow ht (Nat.pow_lt_pow_right (by omega) hy)
theorem or_gt {t y : Nat} (hb : t.testBit y = false) : t < t ||| 2 ^ y := by
  have h1 : t ≤ t ||| 2 ^ y := Nat.left_le_or
  have h2 : t ≠ t ||| 2 ^ y := fun e => by
    have := or_bit t y y
    rw [← e, hb] at this
    simp at this
  omega
theorem full_of {t : Nat} (ht : t < 2 ^ n) (h : ∀ x, x < n → t.testBit x = true) : t = 2 ^ n - 1 := by
  refine Nat.eq_of_testBit_eq fun i => ?_
  rw [Nat.testBit_two_pow_sub_one]
  by_cases hi : i < n
  · rw [h i hi]; simp [hi]
  · have : t < 2 ^ i := Nat.lt_of_lt_of_le ht (Nat.pow_le_pow_right (by omega) (by omega))
    rw [Nat.testBit_lt_two_pow this]; simp [hi]
theorem full_bit (x : Nat) (hx : x < n) : (2 ^ n - 1).testBit x = true := by rw [Nat.testBit_two_pow_sub_one]; simpa using hx
theorem Gf_full [DecidableRel R] (f t : Nat) (e : t = 2 ^ n - 1) : Gf n R f t = 1 := by cases f <;> simp [Gf, e]
theorem Gf_succ [DecidableRel R] (f t : Nat) (e : ¬ t = 2 ^ n - 1) : Gf n R (f + 1) t = sm (fun y => if vN n R t y then Gf n R f (t ||| 2 ^ y) else 0) n := by rw [Gf.eq_def]; simp only []; rw [if_neg e]
theorem Gf_stable [DecidableRel R] : ∀ (d f f' t : Nat), t < 2 ^ n → 2 ^ n - 1 - t ≤ d → d ≤ f → d ≤ f' → Gf n R f t = Gf n R f' t := by
  intro d
  induction d with
  | zero =>
    intro f f' t ht h1 _ _
    have e : t = 2 ^ n - 1 := by omega
    rw [Gf_full f t e, Gf_full f' t e]
  | succ d ih =>
    intro f f' t ht h1 h2 h3
    obtain ⟨f, rfl⟩ : ∃ g, f = g + 1 := ⟨f - 1, by omega⟩
    obtain ⟨f', rfl⟩ : ∃ g, f' = g + 1 := ⟨f' - 1, by omega⟩
    by_cases e : t = 2 ^ n - 1
    · rw [Gf_full _ t e, Gf_full _ t e]
    · rw [Gf_succ f t e, Gf_succ f' t e]
      refine sm_congr _ fun y hy => ?_
      by_cases hv : vN n R t y
      · rw [if_pos hv, if_pos hv]
        have := or_gt hv.1
        exact ih f f' _ (or_lt ht hy) (by omega) (by omega) (by omega)
      · rw [if_neg hv, if_neg hv]
def G (n : Nat) (R : Nat → Nat → Prop) [DecidableRel R] (t : Nat) : Int := Gf n R (2 ^ n) t
theorem G_full [DecidableRel R] : G n R (2 ^ n - 1) = 1 := Gf_full _ _ rfl
theorem G_step [DecidableRel R] {t : Nat} (ht : t < 2 ^ n) (e : ¬ t = 2 ^ n - 1) : G n R t = sm (fun y => if vN n R t y then G n R (t ||| 2 ^ y) else 0) n := by
  have hpos : 0 < 2 ^ n := Nat.two_pow_pos n
  have h0 : G n R t = Gf n R (2 ^ n - 1 + 1) t := by unfold G; congr 1; omega
  rw [h0, Gf_succ _ t e]
  refine sm_congr _ fun y hy => ?_
  by_cases hv : vN n R t y
  · rw [if_pos hv, if_pos hv]
    exact Gf_stable (2 ^ n - 1 - (t ||| 2 ^ y)) _ _ _ (or_lt ht hy) (Nat.le_refl _) (by omega) (by omega)
  · rw [if_neg hv, if_neg hv]
theorem count_flat {α : Type} (p : α → Bool) (g : Nat → List α) : ∀ n, (((List.range n).flatMap g).countP p : Int) = sm (fun x => ((g x).countP p : Int)) n
  | 0 => rfl
  | n + 1 => by
    rw [List.range_succ, List.flatMap_append, List.countP_append, sm, ← count_flat p g n]
    simp
/-- the orders that go on from a good beginning, counted -/
theorem count_G [DecidableRel R] (hS : SPO n R) : ∀ (m : Nat) (pre : List Int) (t : Nat), Beg n R pre → pre.length + m = n → t < 2 ^ n → (∀ x, x < n → (t.testBit x = true ↔ (x : Int) ∈ pre)) → ((allO n m pre).countP (fun l => decide (Lin n R l)) : Int) = G n R t
  | 0, pre, t, hB, hl, ht, hm => by
    obtain ⟨ho, hL⟩ := hB.ord (by omega)
    have e : t = 2 ^ n - 1 := full_of ht fun x hx => (hm x hx).2 (ho.mem (x : Int) (by omega) (by omega))
    rw [e, G_full]
    simp [allO, hL]
  | m + 1, pre, t, hB, hl, ht, hm => by
    obtain ⟨y0, hy0, ho0⟩ := next_is hS hB (by omega)
    have e : ¬ t = 2 ^ n - 1 := fun e => ho0.1 ((hm y0 hy0).1 (by rw [e]; exact full_bit y0 hy0))
    rw [G_step ht e, allO, count_flat]
    have hnd : pre.Nodup := nodup_of hB.inj
    refine sm_congr _ fun y hy => ?_
    by_cases hyp : (y : Int) ∈ pre
    · rw [if_pos hyp, if_neg (fun h => by have := (hm y hy).2 hyp; rw [h.1] at this; cases this)]
      rfl
    · rw [if_neg hyp]
      by_cases hok : okN n R pre y
      · rw [if_pos ⟨by
          cases hb : t.testBit y with
          | false => rfl
          | true => exact absurd ((hm y hy).1 hb) hyp, fun x hx hr => (hm x hx).2 (hok.2 x hx hr)⟩]
        refine count_G hS m _ _ (hB.snoc hy hok) (by simp; omega) (or_lt ht hy) fun x hx => ?_
        rw [or_bit, Bool.or_eq_true, hm x hx, List.mem_append, List.mem_singleton, decide_eq_true_iff]
        exact or_congr Iff.rfl ⟨fun e => by omega, fun e => by omega⟩
      · have : ∃ z, z < n ∧ R z y ∧ (z : Int) ∉ pre := by
          refine Classical.byContradiction fun hn => hok ⟨hyp, fun z hz hr => Classical.byContradiction fun h => hn ⟨z, hz, hr, h⟩⟩
        obtain ⟨z, hz, hzy, hzp⟩ := this
        rw [if_neg (fun h => hzp ((hm z hz).1 (h.2 z hz hzy)))]
        have : (allO n m (pre ++ [(y : Int)])).countP (fun l => decide (Lin n R l)) = 0 := by
          rw [List.countP_eq_zero]
          intro l hl2
          have hord := allO_ord m _ l hl2 (fun i hi => by
            simp at hi
            by_cases e : i < pre.length
            · rw [app_getD _ _ _ e]; exact hB.lo i e
            · obtain rfl : i = pre.length := by omega
              rw [app_last]; omega) (by
            rw [List.nodup_append]
            refine ⟨hnd, by simp, fun a ha b hb => ?_⟩
            simp at hb; subst hb
            exact fun e => hyp (e ▸ ha)) (by simp; omega)
          have := no_lin hz hy hzy hzp (fun e => hS.irr y hy (e ▸ hzy)) hyp hl2 hord.1 hord.2
          simpa using this
        rw [this]; rfl
theorem count_all [DecidableRel R] (hS : SPO n R) : ((allO n n []).countP (fun l => decide (Lin n R l)) : Int) = G n R 0 :=
  count_G hS n [] 0 Beg.nil (by simp) (Nat.two_pow_pos n) fun x _ => by simp
theorem G_nonneg [DecidableRel R] : ∀ (d t : Nat), t < 2 ^ n → 2 ^ n - 1 - t ≤ d → 0 ≤ G n R t := by
  intro d
  induction d with
  | zero => intro t ht h; obtain rfl : t = 2 ^ n - 1 := by omega
            rw [G_full]; decide
  | succ d ih =>
    intro t ht h
    by_cases e : t = 2 ^ n - 1
    · rw [e, G_full]; decide
    · rw [G_step ht e]
      refine sm_nonneg _ fun y hy => ?_
      split
      · rename_i hv
        have := or_gt hv.1
        exact ih _ (or_lt ht hy) (by omega)
      · exact Int.le_refl _
theorem sm_all0 {f : Nat → Int} (n : Nat) (h : ∀ i, i < n → f i = 0) : sm f n = 0 := (sm_congr n h).trans (sm_zero n)
def noR (_ _ : Nat) : Prop := False
instance : DecidableRel noR := fun _ _ => inferInstanceAs (Decidable False)
theorem vN_no {t y : Nat} : vN n noR t y ↔ t.testBit y = false := ⟨fun h => h.1, fun h => ⟨h, fun _ _ h => h.elim⟩⟩
theorem sm_ge {f : Nat → Int} (y : Nat) : ∀ n, (∀ i, i < n → 0 ≤ f i) → y < n → f y ≤ sm f n
  | n + 1, h, hy => by
    have h1 := sm_nonneg n (fun i hi => h i (by omega))
    have h2 := h n (by omega)
    rw [sm]
    by_cases e : y = n
    · subst e; omega
    · have := sm_ge y n (fun i hi => h i (by omega)) (by omega)
      omega
theorem G_pos : ∀ (d t : Nat), t < 2 ^ n → 2 ^ n - 1 - t ≤ d → 1 ≤ G n noR t := by
  intro d
  induction d with
  | zero => intro t ht h; obtain rfl : t = 2 ^ n - 1 := by omega
            rw [G_full]; decide
  | succ d ih =>
    intro t ht h
    by_cases e : t = 2 ^ n - 1
    · rw [e, G_full]; decide
    · have : ∃ y, y < n ∧ t.testBit y = false := by
        refine Classical.byContradiction fun hn => e (full_of ht fun x hx => ?_)
        cases hb : t.testBit x with
        | true => rfl
        | false => exact absurd ⟨x, hx, hb⟩ hn
      obtain ⟨y, hy, hb⟩ := this
      rw [G_step ht e]
      have h1 := sm_ge (f := fun y => if vN n noR t y then G n noR (t ||| 2 ^ y) else 0) y n (fun x hx => by
        split
        · exact G_nonneg _ _ (or_lt ht hx) (Nat.le_refl _)
        · exact Int.le_refl _) hy
      rw [if_pos (vN_no.2 hb)] at h1
      have := or_gt hb
      have := ih _ (or_lt ht hy) (by omega)
      omega
/-- what lies behind s in the table -/
def pot (n : Nat) (R : Nat → Nat → Prop) [DecidableRel R] (s : Nat) (C : List Int) : Int := sm (fun t => bI (s < t) * (C.getD t 0 * G n R t)) (2 ^ n)
/-- what s still has to give -/
def rst (n : Nat) (R : Nat → Nat → Prop) [DecidableRel R] (s y : Nat) : Int := if s = 2 ^ n - 1 then 1 else sm (fun x => if y ≤ x ∧ vN n R s x then G n R (s ||| 2 ^ x) else 0) n
theorem rst_zero [DecidableRel R] {s : Nat} (hs : s < 2 ^ n) : rst n R s 0 = G n R s := by
  unfold rst
  by_cases e : s = 2 ^ n - 1
  · rw [if_pos e, e, G_full]
  · rw [if_neg e, G_step hs e]
    exact sm_congr _ fun x _ => by
      by_cases hv : vN n R s x
      · rw [if_pos ⟨by omega, hv⟩, if_pos hv]
      · rw [if_neg (fun h => hv h.2), if_neg hv]
theorem rst_end [DecidableRel R] {s : Nat} (e : ¬ s = 2 ^ n - 1) : rst n R s n = 0 := by
  unfold rst
  rw [if_neg e]
  exact sm_all0 _ fun x hx => by rw [if_neg (by omega)]
theorem rst_step [DecidableRel R] {s y : Nat} (hy : y < n) (e : ¬ s = 2 ^ n - 1) : rst n R s y = (if vN n R s y then G n R (s ||| 2 ^ y) else 0) + rst n R s (y + 1) := by
  unfold rst
  rw [if_neg e, if_neg e]
  have h1 : sm (fun x => if x = y then (if vN n R s y then G n R (s ||| 2 ^ y) else 0) else 0) n = if vN n R s y then G n R (s ||| 2 ^ y) else 0 := by
    rw [sm_one _ y n (fun x _ hx => by rw [if_neg hx]), if_pos hy, if_pos rfl]
  rw [← h1, ← sm_add]
  refine sm_congr _ fun x _ => ?_
  by_cases ex : x = y
  · subst ex
    rw [if_pos rfl, if_neg (c := x + 1 ≤ x ∧ vN n R s x) (by omega), Int.add_zero]
    by_cases hv : vN n R s x
    · rw [if_pos ⟨Nat.le_refl _, hv⟩, if_pos hv]
    · rw [if_neg (fun h => hv h.2), if_neg hv]
  · rw [if_neg ex, Int.zero_add]
    by_cases hv : y ≤ x ∧ vN n R s x
    · rw [if_pos hv, if_pos ⟨by omega, hv.2⟩]
    · rw [if_neg hv, if_neg (fun h => hv ⟨by omega, h.2⟩)]
theorem rst_full [DecidableRel R] (y : Nat) : rst n R (2 ^ n - 1) y = 1 := by unfold rst; rw [if_pos rfl]
theorem pot_set [DecidableRel R] {s u : Nat} {C : List Int} (hl : C.length = 2 ^ n) (hu : u < 2 ^ n) (hs : s < u) (v : Int) : pot n R s (C.set u (C.getD u 0 + v)) = pot n R s C + v * G n R u := by
  unfold pot
  have h1 : sm (fun t => if t = u then v * G n R u else 0) (2 ^ n) = v * G n R u := by
    rw [sm_one _ u _ (fun x _ hx => by rw [if_neg hx]), if_pos hu, if_pos rfl]
  rw [← h1, ← sm_add]
  refine sm_congr _ fun t ht => ?_
  rw [set_getD _ _ _ _ (by omega)]
  by_cases e : t = u
  · subst e
    rw [if_pos rfl, if_pos rfl, bI, if_pos hs, Int.one_mul, Int.one_mul, Int.add_mul]
  · rw [if_neg (fun h => e h.symm), if_neg e, Int.add_zero]
theorem pot_next [DecidableRel R] {s : Nat} {C : List Int} (hs : s + 1 < 2 ^ n) : pot n R s C = C.getD (s + 1) 0 * G n R (s + 1) + pot n R (s + 1) C := by
  unfold pot
  have h1 : sm (fun t => if t = s + 1 then C.getD (s + 1) 0 * G n R (s + 1) else 0) (2 ^ n) = C.getD (s + 1) 0 * G n R (s + 1) := by
    rw [sm_one _ (s + 1) _ (fun x _ hx => by rw [if_neg hx]), if_pos hs, if_pos rfl]
  rw [← h1, ← sm_add]
  refine sm_congr _ fun t ht => ?_
  by_cases e : t = s + 1
  · subst e
    rw [if_pos rfl, bI, if_pos (by omega), Int.one_mul, bI, if_neg (by omega), Int.zero_mul, Int.add_zero]
  · rw [if_neg e, Int.zero_add]
    have : bI (s < t) = bI (s + 1 < t) := bI_congr (by omega)
    rw [this]
theorem pot_ge {s t : Nat} {C : List Int} (hlo : ∀ t, 0 ≤ C.getD t 0) (ht : t < 2 ^ n) (hs : s < t) : C.getD t 0 ≤ pot n noR s C := by
  have h1 := sm_ge (f := fun t => bI (s < t) * (C.getD t 0 * G n noR t)) t (2 ^ n) (fun x hx => Int.mul_nonneg (bI_nonneg _) (Int.mul_nonneg (hlo x) (G_nonneg _ _ hx (Nat.le_refl _)))) ht
  simp only [bI] at h1
  rw [if_pos hs, Int.one_mul] at h1
  have h2 := G_pos _ t ht (Nat.le_refl _)
  have h3 := Int.mul_le_mul_of_nonneg_left h2 (hlo t)
  rw [Int.mul_one] at h3
  exact Int.le_trans h3 h1
/-- the table, behind the sets before s, and the bales before y added to s -/
structure Dp (n : Nat) (R : Nat → Nat → Prop) [DecidableRel R] (s y : Nat) (C : List Int) : Prop where
  len : C.length = 2 ^ n
  lo : ∀ t, 0 ≤ C.getD t 0
  eq : pot n R s C + C.getD s 0 * rst n R s y = G n R 0
  bd : pot n noR s C + C.getD s 0 * rst n noR s y ≤ G n noR 0
  one : C.getD s 0 ≤ G n noR 0
theorem Dp.start [DecidableRel R] (hn : 1 ≤ n) {C : List Int} (hl : C.length = 2 ^ n) (h0 : C.getD 0 0 = 1) (h1 : ∀ t, 0 < t → C.getD t 0 = 0) : Dp n R 0 0 C := by
  have hp : 0 < 2 ^ n := Nat.two_pow_pos n
  have hz : ∀ (Q : Nat → Nat → Prop) [DecidableRel Q], pot n Q 0 C = 0 := fun Q _ => by
    unfold pot
    refine sm_all0 _ fun t _ => ?_
    by_cases e : 0 < t
    · rw [h1 t e, Int.zero_mul, Int.mul_zero]
    · rw [bI, if_neg e, Int.zero_mul]
  refine ⟨hl, fun t => ?_, by rw [hz, h0, rst_zero hp, Int.one_mul, Int.zero_add], by rw [hz, h0, rst_zero hp, Int.one_mul, Int.zero_add]; exact Int.le_refl _, by rw [h0]; exact G_pos _ 0 hp (Nat.le_refl _)⟩
  by_cases e : t = 0
  · rw [e, h0]; decide
  · rw [h1 t (by omega)]; decide
theorem Dp.skip [DecidableRel R] {s y : Nat} {C : List Int} (h : Dp n R s y C) (hs : s < 2 ^ n) (hy : y < n) (hv : ¬ vN n R s y) : Dp n R s (y + 1) C := by
  by_cases e : s = 2 ^ n - 1
  · subst e
    refine ⟨h.len, h.lo, ?_, ?_, h.one⟩
    · have := h.eq; rw [rst_full] at this ⊢; exact this
    · have := h.bd; rw [rst_full] at this ⊢; exact this
  · refine ⟨h.len, h.lo, ?_, ?_, h.one⟩
    · have := h.eq; rw [rst_step hy e, if_neg hv, Int.zero_add] at this; exact this
    · have h1 := h.bd
      rw [rst_step hy e, Int.mul_add] at h1
      have h2 : 0 ≤ C.getD s 0 * (if vN n noR s y then G n noR (s ||| 2 ^ y) else 0) := by
        refine Int.mul_nonneg (h.lo s) ?_
        split
        · exact G_nonneg _ _ (or_lt hs hy) (Nat.le_refl _)
        · exact Int.le_refl _
      omega
theorem Dp.add [DecidableRel R] {s y : Nat} {C : List Int} (h : Dp n R s y C) (hs : s < 2 ^ n) (hy : y < n) (hv : vN n R s y) : Dp n R s (y + 1) (C.set (s ||| 2 ^ y) (C.getD (s ||| 2 ^ y) 0 + C.getD s 0)) ∧ C.getD (s ||| 2 ^ y) 0 ≤ G n noR 0 := by
  have hgt := or_gt hv.1
  have hlt := or_lt hs hy
  have e : ¬ s = 2 ^ n - 1 := by omega
  have hg : (C.set (s ||| 2 ^ y) (C.getD (s ||| 2 ^ y) 0 + C.getD s 0)).getD s 0 = C.getD s 0 := by rw [set_getD _ _ _ _ (by rw [h.len]; exact hlt), if_neg (by omega)]
  refine ⟨⟨by rw [List.length_set, h.len], fun t => ?_, ?_, ?_, by rw [hg]; exact h.one⟩, ?_⟩
  · rw [set_getD _ _ _ _ (by rw [h.len]; exact hlt)]
    split
    · exact Int.add_nonneg (h.lo _) (h.lo _)
    · exact h.lo t
  · have := h.eq
    rw [rst_step hy e, if_pos hv, Int.mul_add] at this
    rw [hg, pot_set h.len hlt hgt]
    omega
  · have := h.bd
    rw [rst_step hy e, if_pos (vN_no.2 hv.1), Int.mul_add] at this
    rw [hg, pot_set h.len hlt hgt]
    omega
  · have h1 := pot_ge h.lo hlt hgt
    have h2 := h.bd
    have h3 : 0 ≤ C.getD s 0 * rst n noR s y := by
      refine Int.mul_nonneg (h.lo s) ?_
      unfold rst
      rw [if_neg e]
      refine sm_nonneg _ fun x hx => ?_
      split
      · exact G_nonneg _ _ (or_lt hs hx) (Nat.le_refl _)
      · exact Int.le_refl _
    omega
theorem Dp.next [DecidableRel R] {s : Nat} {C : List Int} (h : Dp n R s n C) (hs : s + 1 < 2 ^ n) : Dp n R (s + 1) 0 C := by
  have e : ¬ s = 2 ^ n - 1 := by omega
  have h1 := h.eq
  have h2 := h.bd
  rw [rst_end e, Int.mul_zero, Int.add_zero] at h1 h2
  have h3 := pot_ge h.lo hs (Nat.lt_succ_self s)
  refine ⟨h.len, h.lo, ?_, ?_, by omega⟩
  · rw [rst_zero hs]; rw [pot_next hs] at h1; omega
  · rw [rst_zero hs]; rw [pot_next hs] at h2; omega
theorem Dp.fin [DecidableRel R] {C : List Int} (h : Dp n R (2 ^ n - 1) n C) : C.getD (2 ^ n - 1) 0 = G n R 0 := by
  have h1 := h.eq
  rw [rst_full, Int.mul_one] at h1
  have h2 : pot n R (2 ^ n - 1) C = 0 := by
    unfold pot
    exact sm_all0 _ fun t ht => by rw [bI, if_neg (by omega), Int.zero_mul]
  omega
end Grade03
namespace Grade03
/-- one bale more as a middle one -/
def wS (M : Nat → Nat → Bool) (y : Nat) : Nat → Nat → Bool := fun p q => M p q || (M p y && M y q)
def wK (M : Nat → Nat → Bool) : Nat → Nat → Nat → Bool
  | 0 => M
  | y + 1 => wS (wK M y) y
/-- greater bales come first -/
def Str (M : Nat → Nat → Bool) : Prop := ∀ p q, M p q = true → q < p
theorem wS_or {M : Nat → Nat → Bool} {y p q : Nat} : wS M y p q = true ↔ M p q = true ∨ (M p y = true ∧ M y q = true) := by unfold wS; simp
theorem wS_str {M : Nat → Nat → Bool} (h : Str M) (y : Nat) : Str (wS M y) := fun p q hpq => by
  rcases wS_or.1 hpq with h1 | ⟨h1, h2⟩
  · exact h p q h1
  · have := h _ _ h1; have := h _ _ h2; omega
theorem wK_str {M : Nat → Nat → Bool} (h : Str M) : ∀ y, Str (wK M y)
  | 0 => h
  | y + 1 => wS_str (wK_str h y) y
theorem wK_sub (M : Nat → Nat → Bool) : ∀ y p q, M p q = true → wK M y p q = true
  | 0, _, _, h => h
  | y + 1, p, q, h => wS_or.2 (.inl (wK_sub M y p q h))
/-- column and row of the middle one stay -/
theorem wS_col {M : Nat → Nat → Bool} (h : Str M) (y p : Nat) : wS M y p y = M p y := by
  have : M y y = false := by
    cases e : M y y with
    | false => rfl
    | true => have := h _ _ e; omega
  unfold wS; rw [this]; simp
theorem wS_row {M : Nat → Nat → Bool} (h : Str M) (y q : Nat) : wS M y y q = M y q := by
  have : M y y = false := by
    cases e : M y y with
    | false => rfl
    | true => have := h _ _ e; omega
  unfold wS; rw [this]; simp
theorem wK_tr {M : Nat → Nat → Bool} (h : Str M) : ∀ y p m q, m < y → wK M y p m = true → wK M y m q = true → wK M y p q = true
  | y + 1, p, m, q, hm, h1, h2 => by
    have hs := wK_str h y
    have ih := wK_tr h y
    rw [wK] at h1 h2 ⊢
    by_cases e : m = y
    · subst e
      rw [wS_col hs] at h1
      rw [wS_row hs] at h2
      exact wS_or.2 (.inr ⟨h1, h2⟩)
    · have hm2 : m < y := by omega
      rcases wS_or.1 h1 with a | ⟨a1, a2⟩ <;> rcases wS_or.1 h2 with b | ⟨b1, b2⟩
      · exact wS_or.2 (.inl (ih p m q hm2 a b))
      · exact wS_or.2 (.inr ⟨ih p m y hm2 a b1, b2⟩)
      · exact wS_or.2 (.inr ⟨a1, ih y m q hm2 a2 b⟩)
      · exact wS_or.2 (.inr ⟨a1, b2⟩)
theorem wK_least {M : Nat → Nat → Bool} {Q : Nat → Nat → Prop} (hM : ∀ p q, M p q = true → Q p q) (hQ : ∀ p m q, Q p m → Q m q → Q p q) : ∀ y p q, wK M y p q = true → Q p q
  | 0, p, q, h => hM p q h
  | y + 1, p, q, h => by
    rcases wS_or.1 h with h1 | ⟨h1, h2⟩
    · exact wK_least hM hQ y p q h1
    · exact hQ _ _ _ (wK_least hM hQ y p y h1) (wK_least hM hQ y y q h2)
/-- what is not turned goes on, too -/
def CoC (M : Nat → Nat → Bool) : Prop := ∀ x y z, y < x → z < y → M x z = true → M x y = true ∨ M y z = true
theorem wS_coc {M : Nat → Nat → Bool} (hs : Str M) (h : CoC M) (w : Nat) : CoC (wS M w) := by
  intro x y z hxy hyz hxz
  rcases wS_or.1 hxz with h1 | ⟨h1, h2⟩
  · rcases h x y z hxy hyz h1 with h3 | h3
    · exact .inl (wS_or.2 (.inl h3))
    · exact .inr (wS_or.2 (.inl h3))
  · have hwx := hs _ _ h1
    have hzw := hs _ _ h2
    rcases Nat.lt_trichotomy y w with hyw | hyw | hyw
    · rcases h w y z hyw hyz h2 with h3 | h3
      · exact .inl (wS_or.2 (.inr ⟨h1, h3⟩))
      · exact .inr (wS_or.2 (.inl h3))
    · subst hyw
      exact .inl (wS_or.2 (.inl h1))
    · rcases h x y w hxy hyw h1 with h3 | h3
      · exact .inl (wS_or.2 (.inl h3))
      · exact .inr (wS_or.2 (.inr ⟨h3, h2⟩))
theorem wK_coc {M : Nat → Nat → Bool} (hs : Str M) (h : CoC M) : ∀ y, CoC (wK M y)
  | 0 => h
  | y + 1 => wS_coc (wK_str hs y) (wK_coc hs h y) y
/-- the order of a turned set -/
def relT (W : Nat → Nat → Bool) (x y : Nat) : Prop := W x y = true ∨ (x < y ∧ W y x = false)
instance (W : Nat → Nat → Bool) : DecidableRel (relT W) := fun x y => inferInstanceAs (Decidable (_ ∨ _))
theorem relT_total {W : Nat → Nat → Bool} {x y : Nat} (h : x ≠ y) : relT W x y ∨ relT W y x := by
  unfold relT
  rcases Nat.lt_or_gt_of_ne h with h1 | h1
  · cases e : W y x with
    | true => exact .inr (.inl rfl)
    | false => exact .inl (.inr ⟨h1, rfl⟩)
  · cases e : W x y with
    | true => exact .inl (.inl rfl)
    | false => exact .inr (.inr ⟨h1, rfl⟩)
theorem relT_spo {n : Nat} {W : Nat → Nat → Bool} (hs : Str W) (ht : ∀ p m q, m < n → W p m = true → W m q = true → W p q = true) (hc : CoC W) : SPO n (relT W) := by
  refine ⟨fun x _ h => ?_, fun x y z hx hy hz h1 h2 => ?_⟩
  · rcases h with h | ⟨h, _⟩
    · have := hs _ _ h; omega
    · omega
  · rcases h1 with h1 | ⟨h1, h1'⟩ <;> rcases h2 with h2 | ⟨h2, h2'⟩
    · exact .inl (ht x y z hy h1 h2)
    · have hxy := hs _ _ h1
      rcases Nat.lt_trichotomy x z with h3 | h3 | h3
      · refine .inr ⟨h3, ?_⟩
        cases e : W z x with
        | false => rfl
        | true => have := ht z x y hx e h1; rw [h2'] at this; cases this
      · subst h3; rw [h2'] at h1; cases h1
      · rcases hc x z y h3 h2 h1 with h4 | h4
        · exact .inl h4
        · rw [h2'] at h4; cases h4
    · have hyz := hs _ _ h2
      rcases Nat.lt_trichotomy x z with h3 | h3 | h3
      · refine .inr ⟨h3, ?_⟩
        cases e : W z x with
        | false => rfl
        | true => have := ht y z x hz h2 e; rw [h1'] at this; cases this
      · subst h3; rw [h1'] at h2; cases h2
      · rcases hc y x z h1 h3 h2 with h4 | h4
        · rw [h1'] at h4; cases h4
        · exact .inl h4
    · refine .inr ⟨by omega, ?_⟩
      cases e : W z x with
      | false => rfl
      | true =>
        rcases hc z y x h2 h1 e with h4 | h4
        · rw [h2'] at h4; cases h4
        · rw [h1'] at h4; cases h4
/-- the pairs that are turned in one of two orders -/
def U2 (a b : List Int) (x y : Nat) : Bool := decide (y < x ∧ x < a.length ∧ (bef a x y ∨ bef b x y))
theorem U2_str (a b : List Int) : Str (U2 a b) := fun p q h => (of_decide_eq_true h).1
theorem U2_coc {a b : List Int} (ha : IsO a) (hb : IsO b) (hl : b.length = a.length) : CoC (U2 a b) := by
  intro x y z hxy hyz h
  obtain ⟨h1, h2, h3⟩ := of_decide_eq_true h
  have key : ∀ l : List Int, IsO l → l.length = a.length → bef l x z → bef l x y ∨ bef l y z := fun l hO hl hb => by
    rcases bef_total hO (x := x) (y := y) (by omega) (by omega) (by omega) with h4 | h4
    · exact .inl h4
    · exact .inr (bef_trans h4 hb)
  rcases h3 with h3 | h3
  · rcases key a ha rfl h3 with h4 | h4
    · exact .inl (decide_eq_true ⟨hxy, h2, .inl h4⟩)
    · exact .inr (decide_eq_true ⟨hyz, by omega, .inl h4⟩)
  · rcases key b hb hl h3 with h4 | h4
    · exact .inl (decide_eq_true ⟨hxy, h2, .inr h4⟩)
    · exact .inr (decide_eq_true ⟨hyz, by omega, .inr h4⟩)
/-- Join -/
def joinO (a b : List Int) : List Int := sortO a.length (relT (wK (U2 a b) a.length))
/-- all that is turned in a is turned in b -/
def Bel (a b : List Int) : Prop := ∀ x y, y < x → x < a.length → bef a x y → bef b x y
theorem Bel.refl (a : List Int) : Bel a a := fun _ _ _ _ h => h
theorem Bel.trans {a b c : List Int} (h : Bel a b) (h' : Bel b c) (hl : b.length = a.length) : Bel a c := fun x y h1 h2 h3 => h' x y h1 (by omega) (h x y h1 h2 h3)
theorem Bel.eq {a b : List Int} (ha : IsO a) (hb : IsO b) (hl : b.length = a.length) (h : Bel a b) (h' : Bel b a) : a = b := by
  refine (dist_zero ha hb hl).1 ?_
  unfold dist
  refine (sm_congr _ fun x hx => (sm_congr _ fun y hy => ?_).trans (sm_zero _)).trans (sm_zero _)
  rw [bI, if_neg]
  rintro ⟨h1, h2⟩
  rcases Nat.lt_trichotomy x y with h3 | h3 | h3
  · exact bef_asymm h1 (h' y x h3 (by omega) h2)
  · subst h3; exact bef_irrefl _ _ h1
  · exact bef_asymm h2 (h x y h3 hx h1)
structure JoinIs (a b J : List Int) : Prop where
  ord : IsO J
  len : J.length = a.length
  left : Bel a J
  right : Bel b J
  least : ∀ c : List Int, IsO c → c.length = a.length → Bel a c → Bel b c → Bel J c
theorem sort_total {n : Nat} {R : Nat → Nat → Prop} [DecidableRel R] (hS : SPO n R) (ht : ∀ x y, x < n → y < n → x ≠ y → R x y ∨ R y x) : IsO (sortO n R) ∧ (sortO n R).length = n ∧ ∀ x y, x < n → y < n → (bef (sortO n R) x y ↔ R x y) := by
  obtain ⟨_, h2, h3⟩ := sortF_first hS n [] Beg.nil (by simp)
  obtain ⟨h4, h5⟩ := h2.ord h3
  refine ⟨h4, h3, fun x y hx hy => ⟨fun h => ?_, fun h => h5 x hx y hy h⟩⟩
  have hne : x ≠ y := fun e => by subst e; exact bef_irrefl _ _ h
  rcases ht x y hx hy hne with h6 | h6
  · exact h6
  · exact absurd (h5 y hy x hx h6) (bef_asymm h)
theorem join_is {a b : List Int} (ha : IsO a) (hb : IsO b) (hl : b.length = a.length) : JoinIs a b (joinO a b) := by
  have hs := wK_str (U2_str a b) a.length
  have ht : ∀ p m q, m < a.length → wK (U2 a b) a.length p m = true → wK (U2 a b) a.length m q = true → wK (U2 a b) a.length p q = true := fun p m q hm => wK_tr (U2_str a b) a.length p m q hm
  have hc := wK_coc (U2_str a b) (U2_coc ha hb hl) a.length
  obtain ⟨h1, h2, h3⟩ := sort_total (relT_spo (n := a.length) hs ht hc) (fun x y _ _ hne => relT_total hne)
  have hiff : ∀ x y, y < x → x < a.length → (bef (joinO a b) x y ↔ wK (U2 a b) a.length x y = true) := fun x y hxy hx => by
    rw [joinO, h3 x y hx (by omega), relT]
    exact ⟨fun h => h.elim id (fun h => by omega), .inl⟩
  have hsub : ∀ x y, y < x → x < a.length → (bef a x y ∨ bef b x y) → bef (joinO a b) x y := fun x y h4 h5 h6 => (hiff x y h4 h5).2 (wK_sub _ _ _ _ (decide_eq_true ⟨h4, h5, h6⟩))
  refine ⟨h1, h2, fun x y h4 h5 h6 => hsub x y h4 h5 (.inl h6), fun x y h4 h5 h6 => hsub x y h4 (by omega) (.inr h6), fun c hcO hcl h4 h5 x y h6 h7 h8 => ?_⟩
  have h9 := (hiff x y h6 (by rw [joinO, h2] at h7; exact h7)).1 h8
  exact wK_least (Q := fun p q => bef c p q) (fun p q hpq => by
    obtain ⟨g1, g2, g3⟩ := of_decide_eq_true hpq
    rcases g3 with g3 | g3
    · exact h4 p q g1 g2 g3
    · exact h5 p q g1 (by omega) g3) (fun p m q => bef_trans) _ x y h9
theorem JoinIs.uniq {a b J K : List Int} (h : JoinIs a b J) (h' : JoinIs a b K) : J = K :=
  Bel.eq h.ord h'.ord (by rw [h.len, h'.len]) (h.least K h'.ord h'.len h'.left h'.right) (h'.least J h.ord h.len h.left h.right)
/-- turned round -/
theorem rev_ord {l : List Int} (h : IsO l) : IsO l.reverse := by
  have hl : l.reverse.length = l.length := List.length_reverse
  refine ⟨fun i hi => ?_, fun i k hi hk e => ?_⟩
  · rw [hl] at hi ⊢
    rw [rev_getD l i hi]
    exact h.lo _ (by omega)
  · rw [hl] at hi hk
    rw [rev_getD l i hi, rev_getD l k hk] at e
    have := h.inj _ _ (by omega) (by omega) e
    omega
theorem rev_bef {l : List Int} (h : IsO l) {x y : Nat} (hx : x < l.length) (hy : y < l.length) : bef l.reverse x y ↔ bef l y x := by
  have hl : l.reverse.length = l.length := List.length_reverse
  have hp : ∀ z : Nat, z < l.length → pos l.reverse (z : Int) = l.length - 1 - pos l (z : Int) ∧ pos l (z : Int) < l.length := fun z hz => by
    obtain ⟨h1, h2⟩ := h.get_pos (z : Int) (by omega) (by omega)
    have h3 := (rev_ord h).pos_get (l.length - 1 - pos l (z : Int)) (by rw [hl]; omega)
    rw [rev_getD l _ (by omega), show l.length - 1 - (l.length - 1 - pos l (z : Int)) = pos l (z : Int) by omega, h2] at h3
    exact ⟨h3, h1⟩
  unfold bef
  have := hp x hx
  have := hp y hy
  omega
theorem rev_bel {a b : List Int} (ha : IsO a) (hb : IsO b) (hl : b.length = a.length) : Bel a.reverse b.reverse ↔ Bel b a := by
  have hr : a.reverse.length = a.length := List.length_reverse
  constructor
  · intro h x y h1 h2 h3
    refine Decidable.byContradiction fun hn => ?_
    have h4 : bef a y x := by
      rcases bef_total ha (x := x) (y := y) (by omega) (by omega) (by omega) with h5 | h5
      · exact absurd h5 hn
      · exact h5
    have h5 := h x y h1 (by omega) ((rev_bef ha (by omega) (by omega)).2 h4)
    exact bef_asymm h3 ((rev_bef hb (by omega) (by omega)).1 h5)
  · intro h x y h1 h2 h3
    rw [hr] at h2
    refine (rev_bef hb (by omega) (by omega)).2 (Decidable.byContradiction fun hn => ?_)
    have h4 : bef b x y := by
      rcases bef_total hb (x := x) (y := y) (by omega) (by omega) (by omega) with h5 | h5
      · exact h5
      · exact absurd h5 hn
    exact bef_asymm (h x y h1 (by omega) h4) ((rev_bef ha h2 (by omega)).1 h3)
/-- Meet -/
def meetO (a b : List Int) : List Int := (joinO a.reverse b.reverse).reverse
structure MeetIs (a b M : List Int) : Prop where
  ord : IsO M
  len : M.length = a.length
  left : Bel M a
  right : Bel M b
  great : ∀ c : List Int, IsO c → c.length = a.length → Bel c a → Bel c b → Bel c M
theorem meet_is {a b : List Int} (ha : IsO a) (hb : IsO b) (hl : b.length = a.length) : MeetIs a b (meetO a b) := by
  have hra : a.reverse.length = a.length := List.length_reverse
  have hrb : b.reverse.length = b.length := List.length_reverse
  have h := join_is (rev_ord ha) (rev_ord hb) (by omega)
  have hlen : (joinO a.reverse b.reverse).length = a.length := by rw [h.len, hra]
  have hmo := rev_ord h.ord
  have hml : (meetO a b).length = a.length := by rw [meetO, List.length_reverse, hlen]
  refine ⟨hmo, hml, ?_, ?_, fun c hcO hcl h1 h2 => ?_⟩
  · have := (rev_bel h.ord (rev_ord ha) (by omega)).2 h.left
    rwa [List.reverse_reverse] at this
  · have := (rev_bel h.ord (rev_ord hb) (by omega)).2 h.right
    rwa [List.reverse_reverse] at this
  · have hrc : c.reverse.length = c.length := List.length_reverse
    have g1 := (rev_bel ha hcO (by omega)).2 h1
    have g2 := (rev_bel hb hcO (by omega)).2 h2
    have g3 := h.least c.reverse (rev_ord hcO) (by omega) g1 g2
    have := (rev_bel (rev_ord hcO) h.ord (by omega)).2 g3
    rwa [List.reverse_reverse] at this
theorem MeetIs.uniq {a b M K : List Int} (h : MeetIs a b M) (h' : MeetIs a b K) : M = K :=
  Bel.eq h.ord h'.ord (by rw [h.len, h'.len]) (h'.great M h.ord h.len h.left h.right) (h.great K h'.ord h'.len h'.left h'.right)
end Grade03
namespace Grade03
theorem allO_all {n : Nat} {l : List Int} (h : IsO l) (hl : l.length = n) : ∀ m k, k + m = n → l ∈ allO n m (l.take k)
  | 0, k, hk => by rw [allO, List.take_of_length_le (by omega)]; simp
  | m + 1, k, hk => by
    have hb := h.lo k (by omega)
    rw [allO, List.mem_flatMap]
    refine ⟨(l.getD k 0).toNat, List.mem_range.2 (by omega), ?_⟩
    rw [show (((l.getD k 0).toNat : Nat) : Int) = l.getD k 0 by omega, if_neg]
    · rw [← take_succ_getD l k (by omega)]
      exact allO_all h hl m (k + 1) (by omega)
    · intro hm
      obtain ⟨i, hi, e⟩ := getD_of_mem hm
      simp at hi
      have e2 : (l.take k).getD i 0 = l.getD i 0 := by simp [List.getD, List.getElem?_take, show i < k by omega]
      rw [e2] at e
      have := h.inj i k (by omega) (by omega) e
      omega
theorem allO_mem {n : Nat} {l : List Int} : l ∈ allO n n [] ↔ IsO l ∧ l.length = n := by
  constructor
  · intro h
    exact allO_ord n [] l h (fun i hi => by simp at hi) List.nodup_nil (by simp)
  · rintro ⟨h1, h2⟩
    have := allO_all h1 h2 n 0 (by omega)
    simpa using this
theorem allO_nodup {n : Nat} : ∀ (m : Nat) (pre : List Int), (allO n m pre).Nodup
  | 0, pre => by simp [allO]
  | m + 1, pre => by
    rw [allO]
    have key : ∀ k, ((List.range k).flatMap fun x : Nat => if (x : Int) ∈ pre then [] else allO n m (pre ++ [(x : Int)])).Nodup ∧ ∀ l ∈ ((List.range k).flatMap fun x : Nat => if (x : Int) ∈ pre then [] else allO n m (pre ++ [(x : Int)])), l.getD pre.length 0 < k := by
      intro k
      induction k with
      | zero => simp
      | succ k ih =>
        rw [List.range_succ, List.flatMap_append]
        have hlast : ∀ l ∈ ([k].flatMap fun x : Nat => if (x : Int) ∈ pre then [] else allO n m (pre ++ [(x : Int)])), l.getD pre.length 0 = k := fun l hl => by
          simp only [List.flatMap_cons, List.flatMap_nil, List.append_nil] at hl
          split at hl
          · cases hl
          · obtain ⟨r, rfl, _⟩ := allO_pre m _ l hl
            simp [List.getD]
        refine ⟨List.nodup_append.2 ⟨ih.1, ?_, fun a ha b hb e => ?_⟩, fun l hl => ?_⟩
        · simp only [List.flatMap_cons, List.flatMap_nil, List.append_nil]
          split
          · exact List.nodup_nil
          · exact allO_nodup m _
        · have h1 := ih.2 a ha
          have h2 := hlast b hb
          rw [e] at h1
          omega
        · rcases List.mem_append.1 hl with hl | hl
          · have := ih.2 l hl; omega
          · have := hlast l hl; omega
    exact (key n).1
/-- the best of some: one that is less than all others -/
def ltO (t : List Int → Int) (l : List Int) : Option (List Int) → Bool
  | none => true
  | some x => decide (t l < t x)
def bestF (P : List Int → Bool) (t : List Int → Int) : List (List Int) → Option (List Int) → Option (List Int)
  | [], o => o
  | l :: L, o => bestF P t L (if (P l && ltO t l o) = true then some l else o)
theorem bestF_kept {P : List Int → Bool} {t : List Int → Int} {J : List Int} : ∀ (L : List (List Int)), (∀ l ∈ L, P l = true → t J ≤ t l) → bestF P t L (some J) = some J
  | [], _ => rfl
  | l :: L, h => by
    rw [bestF, if_neg]
    · exact bestF_kept L fun x hx => h x (by simp [hx])
    · intro hc
      rw [Bool.and_eq_true] at hc
      have := h l (by simp) hc.1
      have := of_decide_eq_true hc.2
      omega
theorem bestF_is {P : List Int → Bool} {t : List Int → Int} {J : List Int} (hP : P J = true) : ∀ (L : List (List Int)) (o : Option (List Int)), J ∈ L → (∀ l ∈ L, P l = true → t J ≤ t l ∧ (t l = t J → l = J)) → (∀ x, o = some x → t J ≤ t x ∧ (t x = t J → x = J)) → bestF P t L o = some J
  | l :: L, o, hm, h, ho => by
    have hk : ∀ x ∈ L, P x = true → t J ≤ t x ∧ (t x = t J → x = J) := fun x hx => h x (List.mem_cons_of_mem l hx)
    rw [bestF]
    by_cases e : l = J
    · subst e
      by_cases hc : ltO t l o = true
      · rw [if_pos (by rw [hP, hc]; rfl)]
        exact bestF_kept L fun x hx hp => (hk x hx hp).1
      · rw [if_neg (fun h => hc (by rw [Bool.and_eq_true] at h; exact h.2))]
        cases o with
        | none => exact absurd rfl hc
        | some x =>
          have h1 := ho x rfl
          have h2 : ¬ t l < t x := fun h => hc (decide_eq_true h)
          rw [h1.2 (by omega)]
          exact bestF_kept L fun x hx hp => (hk x hx hp).1
    · have hmL : J ∈ L := by
        rcases List.mem_cons.1 hm with h1 | h1
        · exact absurd h1.symm e
        · exact h1
      refine bestF_is hP L _ hmL hk fun x hx => ?_
      split at hx
      · rename_i hc
        cases hx
        rw [Bool.and_eq_true] at hc
        exact h l (by simp) hc.1
      · exact ho x hx
/-- how many pairs are turned -/
def trn (l : List Int) : Int := sm (fun x => sm (fun y => bI (x < y ∧ bef l y x)) l.length) l.length
theorem trn_le {a b : List Int} (hl : b.length = a.length) (h : Bel a b) : trn a ≤ trn b := by
  unfold trn
  rw [hl]
  exact sm_le _ fun x hx => sm_le _ fun y hy => bI_le fun h1 => ⟨h1.1, h y x h1.1 hy h1.2⟩
theorem trn_eq {a b : List Int} (ha : IsO a) (hb : IsO b) (hl : b.length = a.length) (h : Bel a b) (he : trn b = trn a) : b = a := by
  refine Bel.eq hb ha (by omega) (fun x y h1 h2 h3 => ?_) h
  unfold trn at he
  rw [hl] at he h2
  have hterm : ∀ x, x < a.length → ∀ y, y < a.length → bI (x < y ∧ bef a y x) ≤ bI (x < y ∧ bef b y x) := fun x hx y hy => bI_le fun h1 => ⟨h1.1, h y x h1.1 hy h1.2⟩
  have h4 := sm_eq_of_le (f := fun x => sm (fun y => bI (x < y ∧ bef a y x)) a.length) (g := fun x => sm (fun y => bI (x < y ∧ bef b y x)) a.length) a.length (fun x hx => sm_le _ (hterm x hx)) he.symm y (by omega)
  have h5 := sm_eq_of_le (f := fun x => bI (y < x ∧ bef a x y)) (g := fun x => bI (y < x ∧ bef b x y)) a.length (hterm y (by omega)) h4 x h2
  exact ((bI_eq h5).2 ⟨h1, h3⟩).2

instance (a b : List Int) : Decidable (Bel a b) := decidable_of_iff (∀ x, x < a.length → ∀ y, y < x → bef a x y → bef b x y) ⟨fun h x y h1 h2 => h x h2 y h1, fun h x h1 y h2 => h x y h2 h1⟩
def abvB (a b c : List Int) : Bool := decide (Bel a c) && decide (Bel b c)
def blwB (a b c : List Int) : Bool := decide (Bel c a) && decide (Bel c b)
/-- the reference's Join is ours -/
theorem best_join {a b : List Int} (ha : IsO a) (hb : IsO b) (hl : b.length = a.length) : bestF (abvB a b) trn (allO a.length a.length []) none = some (joinO a b) := by
  have h := join_is ha hb hl
  refine bestF_is (by simp [abvB, h.left, h.right]) _ _ (allO_mem.2 ⟨h.ord, h.len⟩) (fun l hm hp => ?_) (fun x hx => by cases hx)
  obtain ⟨h1, h2⟩ := allO_mem.1 hm
  simp only [abvB, Bool.and_eq_true, decide_eq_true_eq] at hp
  have h3 := h.least l h1 h2 hp.1 hp.2
  exact ⟨trn_le (by rw [h2, h.len]) h3, trn_eq h.ord h1 (by rw [h2, h.len]) h3⟩
theorem best_meet {a b : List Int} (ha : IsO a) (hb : IsO b) (hl : b.length = a.length) : bestF (blwB a b) (fun l => - trn l) (allO a.length a.length []) none = some (meetO a b) := by
  have h := meet_is ha hb hl
  refine bestF_is (by simp [blwB, h.left, h.right]) _ _ (allO_mem.2 ⟨h.ord, h.len⟩) (fun l hm hp => ?_) (fun x hx => by cases hx)
  obtain ⟨h1, h2⟩ := allO_mem.1 hm
  simp only [blwB, Bool.and_eq_true, decide_eq_true_eq] at hp
  have h3 := h.great l h1 h2 hp.1 hp.2
  have h4 := trn_le (by rw [h2, h.len]) h3
  exact ⟨by omega, fun e => (trn_eq h1 h.ord (by rw [h2, h.len]) h3 (by omega)).symm⟩
end Grade03
namespace Grade03
/-- which side of x -/
def cls (x y : Int) : Bool := decide (x < y)
/-- parts, of each of which the last one becomes the first one; some of a part have come -/
def mvR (g : Bool) (x : Int) : List Int → List Int → List Int
  | _, [] => []
  | part, y :: ys => if cls x y = g then y :: (part ++ mvR g x [] ys) else mvR g x (part ++ [y]) ys
def movedL (l : List Int) (x : Int) : List Int := mvR (cls x (l.getD (l.length - 1) 0)) x [] l
/-- parts, of each of which the first one becomes the last one; a part has begun -/
def umR (g : Bool) (x : Int) : Int → List Int → List Int
  | e, [] => [e]
  | e, y :: ys => if cls x y = g then e :: umR g x y ys else y :: umR g x e ys
def unmovedL (l : List Int) (x : Int) : List Int := match l with
  | [] => []
  | e :: ys => umR (cls x e) x e ys
theorem umR_part (g : Bool) (x e : Int) : ∀ (part ys : List Int), (∀ y ∈ part, cls x y ≠ g) → umR g x e (part ++ ys) = part ++ umR g x e ys
  | [], _, _ => rfl
  | y :: part, ys, h => by
    rw [List.cons_append, umR, if_neg (h y (by simp)), umR_part g x e part ys (fun z hz => h z (by simp [hz]))]
    rfl
theorem um_mv (g : Bool) (x : Int) : ∀ (ys part : List Int), (∀ y ∈ part, cls x y ≠ g) → ys ≠ [] → cls x (ys.getD (ys.length - 1) 0) = g → ∃ e rest, mvR g x part ys = e :: rest ∧ cls x e = g ∧ umR g x e rest = part ++ ys
  | [], _, _, h, _ => absurd rfl h
  | y :: ys, part, hp, _, hl => by
    by_cases hy : cls x y = g
    · rw [mvR, if_pos hy]
      refine ⟨y, _, rfl, hy, ?_⟩
      rw [umR_part g x y part _ hp]
      congr 1
      cases ys with
      | nil => rfl
      | cons z ys =>
        obtain ⟨e, rest, h1, h2, h3⟩ := um_mv g x (z :: ys) [] (fun _ h => by cases h) (by simp) (by simpa [List.getD] using hl)
        rw [h1, umR, if_pos h2, h3]
        rfl
    · rw [mvR, if_neg hy]
      cases ys with
      | nil => exact absurd (by simpa [List.getD] using hl) hy
      | cons z ys =>
        obtain ⟨e, rest, h1, h2, h3⟩ := um_mv g x (z :: ys) (part ++ [y]) (fun w hw => by
          rcases List.mem_append.1 hw with hw | hw
          · exact hp w hw
          · simp at hw; subst hw; exact hy) (by simp) (by simpa [List.getD] using hl)
        exact ⟨e, rest, h1, h2, by rw [h3]; simp⟩
theorem mv_um (g : Bool) (x : Int) : ∀ (rest part : List Int) (e : Int), cls x e = g → (∀ y ∈ part, cls x y ≠ g) → mvR g x part (umR g x e rest) = e :: (part ++ rest) ∧ cls x ((umR g x e rest).getD ((umR g x e rest).length - 1) 0) = g
  | [], part, e, he, _ => by rw [umR, mvR, if_pos he]; exact ⟨rfl, by simpa [List.getD] using he⟩
  | y :: ys, part, e, he, hp => by
    rw [umR]
    have hne : ∀ (f : Int) (zs : List Int), umR g x f zs ≠ [] := fun f zs => by
      cases zs with
      | nil => simp [umR]
      | cons z zs => rw [umR]; split <;> simp
    have hlast : ∀ (z : Int) (L : List Int), L ≠ [] → (z :: L).getD ((z :: L).length - 1) 0 = L.getD (L.length - 1) 0 := fun z L hL => by
      cases L with
      | nil => exact absurd rfl hL
      | cons a L => simp [List.getD]
    by_cases hy : cls x y = g
    · rw [if_pos hy]
      have ih := mv_um g x ys [] y hy (fun _ h => by cases h)
      refine ⟨by rw [mvR, if_pos he, ih.1]; rfl, ?_⟩
      rw [hlast _ _ (hne y ys)]; exact ih.2
    · rw [if_neg hy]
      have ih := mv_um g x ys (part ++ [y]) e he (fun w hw => by
        rcases List.mem_append.1 hw with hw | hw
        · exact hp w hw
        · simp at hw; subst hw; exact hy)
      refine ⟨by rw [mvR, if_neg hy, ih.1]; simp, ?_⟩
      rw [hlast _ _ (hne e ys)]; exact ih.2
theorem unmoved_moved (l : List Int) (x : Int) : unmovedL (movedL l x) x = l := by
  unfold movedL
  cases l with
  | nil => rfl
  | cons y ys =>
    obtain ⟨e, rest, h1, h2, h3⟩ := um_mv (cls x ((y :: ys).getD ((y :: ys).length - 1) 0)) x (y :: ys) [] (fun _ h => by cases h) (by simp) rfl
    rw [h1, unmovedL, h2, h3]
    rfl
theorem moved_unmoved (l : List Int) (x : Int) : movedL (unmovedL l x) x = l := by
  cases l with
  | nil => rfl
  | cons e ys =>
    obtain ⟨h1, h2⟩ := mv_um (cls x e) x ys [] e rfl (fun _ h => by cases h)
    rw [unmovedL, movedL, h2, h1]
    rfl
theorem umR_perm (g : Bool) (x : Int) : ∀ (ys : List Int) (e : Int), (umR g x e ys).Perm (e :: ys)
  | [], e => List.Perm.refl _
  | y :: ys, e => by
    rw [umR]
    split
    · exact (umR_perm g x ys y).cons e
    · exact ((umR_perm g x ys e).cons y).trans (List.Perm.swap e y ys)
theorem unmoved_perm (l : List Int) (x : Int) : (unmovedL l x).Perm l := by
  cases l with
  | nil => exact List.Perm.refl _
  | cons e ys => exact umR_perm _ x ys e
theorem moved_perm (l : List Int) (x : Int) : (movedL l x).Perm l := by
  have := unmoved_perm (movedL l x) x
  rw [unmoved_moved] at this
  exact this.symm
theorem moved_len (l : List Int) (x : Int) : (movedL l x).length = l.length := (moved_perm l x).length_eq
theorem unmoved_len (l : List Int) (x : Int) : (unmovedL l x).length = l.length := (unmoved_perm l x).length_eq
/-- the shifted order of the first k -/
def shK (l : List Int) : Nat → List Int
  | 0 => []
  | k + 1 => movedL (shK l k) (l.getD k 0) ++ [l.getD k 0]
def shiftL (l : List Int) : List Int := shK l l.length
/-- back, from n on -/
def bkN : Nat → List Int → List Int
  | 0, _ => []
  | n + 1, s => bkN n (unmovedL (s.take n) (s.getD n 0)) ++ [s.getD n 0]
def backL (l : List Int) : List Int := bkN l.length l
theorem shK_len (l : List Int) : ∀ k, (shK l k).length = k
  | 0 => rfl
  | k + 1 => by simp [shK, moved_len, shK_len l k]
theorem bk_sh (l : List Int) : ∀ k, k ≤ l.length → bkN k (shK l k) = l.take k
  | 0, _ => by simp [bkN]
  | k + 1, hk => by
    have hm : (movedL (shK l k) (l.getD k 0)).length = k := by rw [moved_len, shK_len]
    have h1 : (shK l (k + 1)).getD k 0 = l.getD k 0 := by
      have := app_last (movedL (shK l k) (l.getD k 0)) (l.getD k 0)
      rw [hm] at this
      exact this
    have h2 : (shK l (k + 1)).take k = movedL (shK l k) (l.getD k 0) := by
      rw [shK, List.take_append_of_le_length (by omega), List.take_of_length_le (by omega)]
    rw [bkN, h1, h2, unmoved_moved, bk_sh l k (by omega), take_succ_getD l k (by omega)]
theorem back_shift (l : List Int) : backL (shiftL l) = l := by
  rw [backL, shiftL, shK_len, bk_sh l l.length (Nat.le_refl _), List.take_length]
theorem bkN_len : ∀ n s, (bkN n s).length = n
  | 0, _ => rfl
  | n + 1, s => by simp [bkN, bkN_len n]
theorem bkN_perm : ∀ n s, s.length = n → (bkN n s).Perm s
  | 0, s, h => by rw [List.eq_nil_of_length_eq_zero h]; exact List.Perm.refl _
  | n + 1, s, h => by
    have h1 : s = s.take n ++ [s.getD n 0] := by
      rw [← take_succ_getD s n (by omega), List.take_of_length_le (by omega)]
    have h2 := (bkN_perm n (unmovedL (s.take n) (s.getD n 0)) (by rw [unmoved_len]; simp; omega)).trans (unmoved_perm _ _)
    rw [bkN]
    refine (h2.append_right _).trans ?_
    rw [← h1]
theorem shK_perm (l : List Int) : ∀ k, k ≤ l.length → (shK l k).Perm (l.take k)
  | 0, _ => by simp [shK]
  | k + 1, hk => by
    rw [shK, take_succ_getD l k (by omega)]
    exact ((moved_perm _ _).trans (shK_perm l k (by omega))).append_right _
theorem sh_bk : ∀ n s k, s.length = n → k ≤ n → shK (bkN n s) k = if k = n then s else shK (bkN n s) k
  | n, s, k, h, hk => by
    by_cases e : k = n
    · rw [if_pos e]
      subst e
      induction k generalizing s with
      | zero => rw [List.eq_nil_of_length_eq_zero h]; rfl
      | succ n ih =>
        have hl := bkN_len n (unmovedL (s.take n) (s.getD n 0))
        have hu : (unmovedL (s.take n) (s.getD n 0)).length = n := by rw [unmoved_len]; simp; omega
        have hpre : ∀ k, k ≤ n → shK (bkN (n + 1) s) k = shK (bkN n (unmovedL (s.take n) (s.getD n 0))) k := by
          intro k
          induction k with
          | zero => intro _; rfl
          | succ k ih2 =>
            intro hk
            have e1 : (bkN (n + 1) s).getD k 0 = (bkN n (unmovedL (s.take n) (s.getD n 0))).getD k 0 := by
              rw [bkN, app_getD _ _ _ (by omega)]
            rw [shK, shK, ih2 (by omega), e1]
        have h3 := hpre n (Nat.le_refl _)
        rw [ih _ hu (Nat.le_refl _)] at h3
        have e2 : (bkN (n + 1) s).getD n 0 = s.getD n 0 := by
          have := app_last (bkN n (unmovedL (s.take n) (s.getD n 0))) (s.getD n 0)
          rw [hl] at this
          rw [bkN]; exact this
        rw [shK, h3, e2, moved_unmoved, ← take_succ_getD s n (by omega), List.take_of_length_le (by omega)]
    · rw [if_neg e]
theorem shift_back (s : List Int) : shiftL (backL s) = s := by
  have := sh_bk s.length s s.length rfl (Nat.le_refl _)
  rw [if_pos rfl] at this
  rw [shiftL, backL, bkN_len]; exact this
theorem ord_perm {l l' : List Int} (h : IsO l) (hp : l'.Perm l) : IsO l' := by
  have hl := hp.length_eq
  refine ⟨fun i hi => ?_, fun i k hi hk e => ?_⟩
  · obtain ⟨j, hj, he⟩ := getD_of_mem (hp.mem_iff.1 (mem_getD l' i hi))
    rw [← he, hl]; exact h.lo j hj
  · have hnd : l'.Nodup := hp.nodup_iff.2 h.nodup
    rw [List.nodup_iff_pairwise_ne, List.pairwise_iff_getElem] at hnd
    rw [List.getD, List.getD, List.getElem?_eq_getElem hi, List.getElem?_eq_getElem hk] at e
    simp only [Option.getD_some] at e
    rcases Nat.lt_trichotomy i k with h4 | h4 | h4
    · exact absurd e (hnd i k hi hk h4)
    · exact h4
    · exact absurd e.symm (hnd k i hk hi h4)
theorem shift_ord {l : List Int} (h : IsO l) : IsO (shiftL l) ∧ (shiftL l).length = l.length :=
  ⟨ord_perm h (by have := shK_perm l l.length (Nat.le_refl _); rwa [List.take_length] at this), shK_len l _⟩
theorem back_ord {l : List Int} (h : IsO l) : IsO (backL l) ∧ (backL l).length = l.length := ⟨ord_perm h (bkN_perm _ l rfl), bkN_len _ l⟩
/-- how many of the later ones are smaller -/
def cdN (l : List Int) (i : Nat) : Int := sm (fun k => bI (i < k ∧ l.getD k 0 < l.getD i 0)) l.length
def codeL (l : List Int) : List Int := (List.range l.length).map fun i => cdN l i
def majK (l : List Int) : Nat → Int
  | 0 => 0
  | i + 1 => if l.getD (i + 1) 0 < l.getD i 0 then majK l i + ((i : Int) + 1) else majK l i
def majL (l : List Int) : Int := majK l (l.length - 1)
/-- turned pairs by places -/
def invG : List Int → Int
  | [] => 0
  | x :: l => (l.countP (fun y => decide (y < x)) : Int) + invG l
theorem cdN_app (l : List Int) (i : Nat) (hi : i < l.length) : cdN l i = ((l.drop (i + 1)).countP (fun y => decide (y < l.getD i 0)) : Int) := by
  have key : ∀ (d : List Int) (s : Nat), l.drop s = d → ∀ v : Int, sm (fun k => bI (s ≤ k ∧ l.getD k 0 < v)) l.length = (d.countP (fun y => decide (y < v)) : Int) := by
    intro d
    induction d with
    | nil =>
      intro s hs v
      have : l.length ≤ s := by
        have := congrArg List.length hs
        simp at this; omega
      exact sm_all0 _ fun k hk => by rw [bI, if_neg (by omega)]
    | cons y d ih =>
      intro s hs v
      have hlt : s < l.length := by
        have := congrArg List.length hs
        simp at this; omega
      have hy : l.getD s 0 = y ∧ l.drop (s + 1) = d := by
        rw [List.drop_eq_getElem_cons hlt] at hs
        injection hs with h1 h2
        exact ⟨by rw [List.getD, List.getElem?_eq_getElem hlt]; exact h1, h2⟩
      have h1 := ih (s + 1) hy.2 v
      have h2 : sm (fun k => if k = s then bI (y < v) else 0) l.length = bI (y < v) := by
        rw [sm_one _ s _ (fun k _ hk => by rw [if_neg hk]), if_pos hlt, if_pos rfl]
      have h3 : sm (fun k => bI (s ≤ k ∧ l.getD k 0 < v)) l.length = sm (fun k => if k = s then bI (y < v) else 0) l.length + sm (fun k => bI (s + 1 ≤ k ∧ l.getD k 0 < v)) l.length := by
        rw [← sm_add]
        refine sm_congr _ fun k _ => ?_
        by_cases e : k = s
        · subst e
          rw [if_pos rfl, hy.1, bI, bI, bI, if_neg (c := k + 1 ≤ k ∧ y < v) (by omega)]
          by_cases c : y < v
          · rw [if_pos ⟨Nat.le_refl _, c⟩, if_pos c]; rfl
          · rw [if_neg (fun h => c h.2), if_neg c]; rfl
        · rw [if_neg e, Int.zero_add]
          exact bI_congr ⟨fun h => ⟨by omega, h.2⟩, fun h => ⟨by omega, h.2⟩⟩
      rw [h3, h2, h1, List.countP_cons]
      unfold bI
      by_cases c : y < v
      · simp [c]; omega
      · simp [c]
  have := key _ (i + 1) rfl (l.getD i 0)
  rw [← this]
  exact sm_congr _ fun k _ => bI_congr ⟨fun h => ⟨h.1, h.2⟩, fun h => ⟨h.1, h.2⟩⟩
theorem invG_sum : ∀ (l : List Int), invG l = sm (fun i => ((l.drop (i + 1)).countP (fun y => decide (y < l.getD i 0)) : Int)) l.length
  | [] => rfl
  | x :: l => by
    have h1 : ∀ n (f : Nat → Int), sm f (n + 1) = f 0 + sm (fun i => f (i + 1)) n := by
      intro n
      induction n with
      | zero => intro f; simp [sm]
      | succ n ih => intro f; rw [sm, ih, sm]; omega
    rw [invG, invG_sum l, List.length_cons, h1]
    rfl
/-- turned pairs, by bales and by places -/
theorem trn_inv {l : List Int} (h : IsO l) : trn l = invG l := by
  rw [invG_sum]
  have e1 : trn l = sm (fun i => sm (fun k => bI (l.getD k 0 < l.getD i 0 ∧ i < k)) l.length) l.length := by
    have h1 : trn l = sm (fun y : Nat => sm (fun x : Nat => bI ((x : Int) < (y : Int) ∧ pos l (y : Int) < pos l (x : Int))) l.length) l.length := by
      unfold trn
      rw [sm_swap (fun x y => bI (x < y ∧ bef l y x))]
      exact sm_congr _ fun y _ => sm_congr _ fun x _ => bI_congr (by unfold bef; omega)
    rw [h1, ← sm_order h (fun y => sm (fun x : Nat => bI ((x : Int) < y ∧ pos l y < pos l (x : Int))) l.length)]
    refine sm_congr _ fun i hi => ?_
    rw [← sm_order h (fun x => bI (x < l.getD i 0 ∧ pos l (l.getD i 0) < pos l x)), h.pos_get i hi]
    exact sm_congr _ fun k hk => by rw [h.pos_get k hk]
  rw [e1]
  refine sm_congr _ fun i hi => ?_
  rw [← cdN_app l i hi, cdN]
  exact sm_congr _ fun k _ => bI_congr ⟨fun h => ⟨h.2, h.1⟩, fun h => ⟨h.2, h.1⟩⟩
theorem code_sum {l : List Int} (h : IsO l) : trn l = sm (fun i => cdN l i) l.length := by
  rw [trn_inv h, invG_sum]
  exact sm_congr _ fun i hi => (cdN_app l i hi).symm
end Grade03
namespace Grade03
def sizeE (n : Nat) : Int := if n = 0 then 4 else if 7 < n then 3 else 0
/-- what is wrong at a place -/
def badI (l : List Int) (i : Nat) : Int := if l.getD i 0 < 0 ∨ (l.length : Int) ≤ l.getD i 0 then 2 else if l.getD i 0 ∈ l.take i then 6 else 0
def chkF (l : List Int) : Nat → Nat → Int
  | 0, _ => 0
  | f + 1, i => if badI l i ≠ 0 then badI l i else chkF l f (i + 1)
def chkE (l : List Int) : Int := if sizeE l.length ≠ 0 then sizeE l.length else chkF l l.length 0
theorem chkF_hit (l : List Int) : ∀ f i k, i ≤ k → k < i + f → (∀ j, i ≤ j → j < k → badI l j = 0) → badI l k ≠ 0 → chkF l f i = badI l k
  | 0, i, k, h1, h2, _, _ => by omega
  | f + 1, i, k, h1, h2, h3, h4 => by
    rw [chkF]
    by_cases e : i = k
    · subst e; rw [if_pos h4]
    · rw [if_neg (fun h => h (h3 i (Nat.le_refl _) (by omega)))]
      exact chkF_hit l f (i + 1) k (by omega) (by omega) (fun j h5 h6 => h3 j (by omega) h6) h4
theorem chkF_ok (l : List Int) : ∀ f i, (∀ j, i ≤ j → j < i + f → badI l j = 0) → chkF l f i = 0
  | 0, _, _ => rfl
  | f + 1, i, h => by
    rw [chkF, if_neg (fun h2 => h2 (h i (Nat.le_refl _) (by omega)))]
    exact chkF_ok l f (i + 1) fun j h1 h2 => h j (by omega) (by omega)
theorem chkF_zero (l : List Int) : ∀ f i, chkF l f i = 0 → ∀ j, i ≤ j → j < i + f → badI l j = 0
  | 0, _, _, j, h1, h2 => by omega
  | f + 1, i, h, j, h1, h2 => by
    rw [chkF] at h
    split at h
    · rename_i h3; exact absurd h h3
    · rename_i h3
      by_cases e : j = i
      · subst e; exact Decidable.not_not.1 h3
      · exact chkF_zero l f (i + 1) h j (by omega) (by omega)
theorem chkE_size {l : List Int} (h : sizeE l.length ≠ 0) : chkE l = sizeE l.length := by rw [chkE, if_pos h]
theorem chkE_hit {l : List Int} (hs : sizeE l.length = 0) {k : Nat} (hk : k < l.length) (h : ∀ j, j < k → badI l j = 0) (hb : badI l k ≠ 0) : chkE l = badI l k := by
  rw [chkE, if_neg (fun h => h hs)]
  exact chkF_hit l _ 0 k (by omega) (by omega) (fun j _ h2 => h j h2) hb
theorem chkE_ok {l : List Int} (hs : sizeE l.length = 0) (h : ∀ j, j < l.length → badI l j = 0) : chkE l = 0 := by
  rw [chkE, if_neg (fun h => h hs)]
  exact chkF_ok l _ 0 fun j _ h2 => h j (by omega)
theorem sizeE_pos {n : Nat} (h : sizeE n = 0) : 1 ≤ n ∧ n ≤ 7 := by
  unfold sizeE at h
  split at h
  · cases h
  · split at h
    · cases h
    · omega
/-- an order without an error -/
theorem chkE_zero {l : List Int} : chkE l = 0 ↔ IsO l ∧ 1 ≤ l.length ∧ l.length ≤ 7 := by
  constructor
  · intro h
    by_cases hs : sizeE l.length = 0
    · rw [chkE, if_neg (fun h => h hs)] at h
      have hb := chkF_zero l _ 0 h
      have hbad : ∀ j, j < l.length → (0 ≤ l.getD j 0 ∧ l.getD j 0 < l.length) ∧ l.getD j 0 ∉ l.take j := fun j hj => by
        have := hb j (by omega) (by omega)
        unfold badI at this
        split at this
        · cases this
        · split at this
          · cases this
          · rename_i h1 h2; exact ⟨by omega, h2⟩
      have hne : ∀ i k, i < k → k < l.length → l.getD i 0 ≠ l.getD k 0 := fun i k hik hk e => (hbad k hk).2 (by
        rw [← e]
        have : (l.take k).getD i 0 = l.getD i 0 := by simp [List.getD, List.getElem?_take, hik]
        rw [← this]
        exact mem_getD _ _ (by simp; omega))
      refine ⟨⟨fun i hi => (hbad i hi).1, fun i k hi hk e => ?_⟩, sizeE_pos hs⟩
      rcases Nat.lt_trichotomy i k with h1 | h1 | h1
      · exact absurd e (hne i k h1 hk)
      · exact h1
      · exact absurd e.symm (hne k i h1 hi)
    · rw [chkE_size hs] at h; exact absurd h hs
  · rintro ⟨h, h1, h2⟩
    have hs : sizeE l.length = 0 := by unfold sizeE; rw [if_neg (by omega), if_neg (by omega)]
    refine chkE_ok hs fun j hj => ?_
    have hb := h.lo j hj
    unfold badI
    rw [if_neg (by omega), if_neg (fun hm => ?_)]
    obtain ⟨i, hi, e⟩ := getD_of_mem hm
    simp at hi
    have e2 : (l.take j).getD i 0 = l.getD i 0 := by simp [List.getD, List.getElem?_take, show i < j by omega]
    rw [e2] at e
    have := h.inj i j (by omega) hj e
    omega
/-- which bales have come -/
def metL (l : List Int) (i : Nat) : List Bool := (List.range 7).map fun k : Nat => decide ((k : Int) ∈ l.take i)
theorem metL_zero (l : List Int) : metL l 0 = List.replicate 7 false := by simp [metL]; rfl
theorem metL_len (l : List Int) (i : Nat) : (metL l i).length = 7 := by simp [metL]
theorem metL_get (l : List Int) (i k : Nat) (hk : k < 7) : (metL l i).getD k false = decide ((k : Int) ∈ l.take i) := by simp [metL, List.getD, hk]
theorem metL_set (l : List Int) (i x : Nat) (hi : i < l.length) (hx : l.getD i 0 = (x : Int)) : (metL l i).set x true = metL l (i + 1) := by
  refine List.ext_getElem (by simp [metL]) fun k h1 h2 => ?_
  simp [metL] at h2
  rw [List.getElem_set]
  simp only [metL, List.getElem_map, List.getElem_range]
  rw [take_succ_getD l i hi, hx]
  by_cases e : x = k
  · subst e; simp
  · rw [if_neg e]
    have : (k : Int) ≠ (x : Int) := by omega
    simp [this]
/-- places -/
def plK (l : List Int) : Nat → List Int
  | 0 => List.replicate 7 0
  | k + 1 => (plK l k).set (l.getD k 0).toNat (k : Int)
def plL (l : List Int) : List Int := plK l l.length
theorem plK_len (l : List Int) : ∀ k, (plK l k).length = 7
  | 0 => by simp [plK]
  | k + 1 => by rw [plK, List.length_set, plK_len l k]
theorem plK_get {l : List Int} (h : IsO l) (h7 : l.length ≤ 7) : ∀ k, k ≤ l.length → ∀ i, i < k → (plK l k).getD (l.getD i 0).toNat 0 = (i : Int)
  | k + 1, hk, i, hi => by
    have hb := h.lo k (by omega)
    have hbi := h.lo i (by omega)
    rw [plK, set_getD _ _ _ _ (by rw [plK_len]; omega)]
    by_cases e : i = k
    · subst e; rw [if_pos rfl]
    · rw [if_neg (fun e2 => e (h.inj i k (by omega) (by omega) (by omega)))]
      exact plK_get h h7 k (by omega) i (by omega)
theorem plL_pos {l : List Int} (h : IsO l) (h7 : l.length ≤ 7) (x : Nat) (hx : x < l.length) : (plL l).getD x 0 = (pos l (x : Int) : Int) := by
  obtain ⟨h1, h2⟩ := h.get_pos (x : Int) (by omega) (by omega)
  have := plK_get h h7 l.length (Nat.le_refl _) _ h1
  rw [h2] at this
  exact this
end Grade03
namespace Grade03
def difR (a b : List Int) (x : Nat) : Nat → List (Int × Int)
  | 0 => []
  | y + 1 => difR a b x y ++ (if bef a x y ∧ bef b y x then [((x : Int), (y : Int))] else [])
def difA (a b : List Int) : Nat → List (Int × Int)
  | 0 => []
  | x + 1 => difA a b x ++ difR a b x a.length
def difL (a b : List Int) : List (Int × Int) := difA a b a.length
theorem difR_len (a b : List Int) (x : Nat) : ∀ y, ((difR a b x y).length : Int) = sm (fun y => bI (bef a x y ∧ bef b y x)) y
  | 0 => rfl
  | y + 1 => by
    rw [difR, List.length_append, sm, ← difR_len a b x y]
    unfold bI
    split <;> simp
theorem difA_len (a b : List Int) : ∀ x, ((difA a b x).length : Int) = sm (fun x => sm (fun y => bI (bef a x y ∧ bef b y x)) a.length) x
  | 0 => rfl
  | x + 1 => by rw [difA, List.length_append, sm, ← difA_len a b x, ← difR_len a b x a.length]; simp
theorem difL_len (a b : List Int) : ((difL a b).length : Int) = dist a b := difA_len a b a.length
theorem difR_le (a b : List Int) (x : Nat) : ∀ y, (difR a b x y).length ≤ y
  | 0 => by simp [difR]
  | y + 1 => by
    have := difR_le a b x y
    rw [difR, List.length_append]
    split <;> simp <;> omega
theorem difA_le (a b : List Int) : ∀ x, (difA a b x).length ≤ x * a.length
  | 0 => by simp [difA]
  | x + 1 => by
    have := difA_le a b x
    have := difR_le a b x a.length
    rw [difA, List.length_append, Nat.succ_mul]; omega
theorem seven {l : List Int} (h : l.length = 7) : ∃ p0 p1 p2 p3 p4 p5 p6 : Int, l = [p0, p1, p2, p3, p4, p5, p6] := by
  match l, h with
  | [p0, p1, p2, p3, p4, p5, p6], _ => exact ⟨p0, p1, p2, p3, p4, p5, p6, rfl⟩
theorem plL_len (l : List Int) : (plL l).length = 7 := plK_len l _
theorem plL_bef {l : List Int} (h : IsO l) (h7 : l.length ≤ 7) {x y : Nat} (hx : x < l.length) (hy : y < l.length) : decide ((plL l).getD x 0 < (plL l).getD y 0) = decide (bef l x y) := by
  rw [plL_pos h h7 x hx, plL_pos h h7 y hy]
  refine decide_eq_decide.2 ?_
  unfold bef; omega
def revK (l : List Int) : Nat → List Int
  | 0 => l
  | i + 1 => ((revK l i).set i ((revK l i).getD (l.length - 1 - i) 0)).set (l.length - 1 - i) ((revK l i).getD i 0)
theorem revK_len (l : List Int) : ∀ i, (revK l i).length = l.length
  | 0 => rfl
  | i + 1 => by rw [revK, List.length_set, List.length_set, revK_len l i]
theorem revK_get (l : List Int) : ∀ i, 2 * i ≤ l.length + 1 → ∀ j, j < l.length → (revK l i).getD j 0 = if j < i ∨ l.length - 1 - j < i then l.getD (l.length - 1 - j) 0 else l.getD j 0
  | 0, _, j, _ => by rw [revK, if_neg (by omega)]
  | i + 1, hi, j, hj => by
    have ih := revK_get l i (by omega)
    have hl := revK_len l i
    rw [revK, set_getD _ _ _ _ (by rw [List.length_set, hl]; omega), set_getD _ _ _ _ (by rw [hl]; omega)]
    by_cases h1 : l.length - 1 - i = j
    · rw [if_pos h1, if_pos (by omega), ih i (by omega)]
      by_cases h2 : i < i ∨ l.length - 1 - i < i
      · exfalso; omega
      · rw [if_neg h2]; congr 1; omega
    · rw [if_neg h1]
      by_cases h2 : i = j
      · rw [if_pos h2, if_pos (by omega), ih _ (by omega)]
        by_cases h3 : l.length - 1 - i < i ∨ l.length - 1 - (l.length - 1 - i) < i
        · exfalso; omega
        · rw [if_neg h3, h2]
      · rw [if_neg h2, ih j hj]
        by_cases h3 : j < i ∨ l.length - 1 - j < i
        · rw [if_pos h3, if_pos (by omega)]
        · rw [if_neg h3, if_neg (by omega)]
theorem revK_rev (l : List Int) (i : Nat) (h1 : 2 * i ≤ l.length + 1) (h2 : l.length ≤ 2 * i + 1) : revK l i = l.reverse := by
  refine ext_getD (by rw [revK_len]; simp) fun j hj => ?_
  rw [revK_len] at hj
  rw [revK_get l i h1 j hj, rev_getD l j hj]
  by_cases h3 : j < i ∨ l.length - 1 - j < i
  · rw [if_pos h3]
  · rw [if_neg h3]; congr 1; omega
end Grade03
namespace Grade03
theorem dist_le {a b : List Int} (h : a.length ≤ 7) : dist a b ≤ 49 := by
  have h1 := difL_len a b
  have h2 := difA_le a b a.length
  have h3 : a.length * a.length ≤ 7 * 7 := Nat.mul_le_mul h h
  unfold difL at h1
  omega
/-- where the way stands: the order, the next place to look at, the exchanges so far -/
structure WayS (a b now out : List Int) (i : Nat) : Prop where
  ord : IsO now
  len : now.length = a.length
  way : out ++ wayR b now = wayR b a
  cnt : (out.length : Int) + dist now b = dist a b
  ok : ∀ j, j < i → okP b now j
theorem WayS.start {a b : List Int} (h : IsO a) : WayS a b a [] 0 := ⟨h, rfl, rfl, by simp, fun j hj => by omega⟩
theorem WayS.next {a b now out : List Int} {i : Nat} (h : WayS a b now out i) (ho : okP b now i) : WayS a b now out (i + 1) :=
  ⟨h.ord, h.len, h.way, h.cnt, fun j hj => by
    by_cases e : j = i
    · rw [e]; exact ho
    · exact h.ok j (by omega)⟩
theorem WayS.swap {a b now out : List Int} {i : Nat} (h : WayS a b now out i) (hb : IsO b) (hl : b.length = a.length) (hi : i + 1 < a.length) (hn : ¬ okP b now i) : WayS a b (swp now i) (out ++ [(i : Int)]) (i - 1) := by
  have hl2 := h.len
  have hfd := fd_is (b := b) (by rw [hl2]; exact hi) hn h.ok
  obtain ⟨h1, h2⟩ := wayR_some h.ord hb (by rw [hl2, hl]) hfd
  refine ⟨swp_ord h.ord i (by omega), by rw [swp_len, hl2], ?_, ?_, fun j hj => swp_ok (by omega) h.ok j (by omega)⟩
  · have := h.way
    rw [h2] at this
    rw [List.append_assoc]
    exact this
  · have := h.cnt
    rw [h1]; simp; omega
theorem WayS.swap' {a b now out : List Int} (h : WayS a b now out 0) (hb : IsO b) (hl : b.length = a.length) {i : Nat} (hi : i + 1 < a.length) (hn : ¬ okP b now i) (ho : ∀ j, j < i → okP b now j) : WayS a b (swp now i) (out ++ [(i : Int)]) 0 := by
  have h2 := WayS.swap (i := i) ⟨h.ord, h.len, h.way, h.cnt, ho⟩ hb hl hi hn
  exact ⟨h2.ord, h2.len, h2.way, h2.cnt, fun j hj => by omega⟩
theorem WayS.fin {a b now out : List Int} {i : Nat} (h : WayS a b now out i) (hb : IsO b) (hl : b.length = a.length) (hi : a.length ≤ i + 1) : out = wayR b a ∧ now = b := by
  have hl2 := h.len
  have hfd : fd b now = none := fd_no fun j hj => h.ok j (by omega)
  have h1 := h.way
  rw [wayR_none hfd, List.append_nil] at h1
  exact ⟨h1, (dist_zero h.ord hb (by rw [hl2, hl])).1 ((fd_dist h.ord hb (by rw [hl2, hl])).1 hfd)⟩
end Grade03
namespace Grade03
def runW : List Int → List Int → Option (List Int)
  | l, [] => some l
  | l, i :: w => if 0 ≤ i ∧ i + 2 ≤ (l.length : Int) then runW (swp l i.toNat) w else none
/-- what Leads answers to two orders that pass the check -/
def leadE (a b w : List Int) : Int := match runW a w with
  | none => 2
  | some l => if l = b then 0 else 12
theorem drop_cons (w : List Int) (i : Nat) (h : i < w.length) : w.drop i = w.getD i 0 :: w.drop (i + 1) := by
  rw [List.drop_eq_getElem_cons h]; simp [List.getD, h]
theorem runW_bad {l w : List Int} {i : Nat} (h : i < w.length) (hv : ¬ (0 ≤ w.getD i 0 ∧ w.getD i 0 + 2 ≤ (l.length : Int))) : runW l (w.drop i) = none := by
  rw [drop_cons w i h, runW, if_neg hv]
theorem runW_ok {l w : List Int} {i j : Nat} (h : i < w.length) (hv : w.getD i 0 = (j : Int)) (hj : j + 1 < l.length) : runW l (w.drop i) = runW (swp l j) (w.drop (i + 1)) := by
  rw [drop_cons w i h, runW, if_pos (by omega), hv]; rfl
theorem runW_end {l w : List Int} {i : Nat} (h : w.length ≤ i) : runW l (w.drop i) = some l := by
  rw [List.drop_eq_nil_of_le h, runW]
theorem leadE_bad {a b w : List Int} (h : runW a w = none) : leadE a b w = 2 := by unfold leadE; rw [h]
theorem leadE_end {a b w l : List Int} (h : runW a w = some l) : leadE a b w = if l = b then 0 else 12 := by unfold leadE; rw [h]
end Grade03
namespace Grade03
/-- how many of the first 7 bits are set -/
def popN (t : Nat) : Int := sm (fun y => bI (t.testBit y = true)) 7
theorem sm_tail {f : Nat → Int} {n : Nat} (h : ∀ i, n ≤ i → f i = 0) : ∀ m, n ≤ m → sm f m = sm f n
  | 0, hm => by rw [show n = 0 by omega]
  | m + 1, hm => by
    by_cases e : n = m + 1
    · rw [e]
    · rw [sm, h m (by omega), sm_tail h m (by omega)]; omega
/-- the bales from a place on, as bits -/
def LeftB (l : List Int) (i s : Nat) : Prop := ∀ y, s.testBit y = decide (y < l.length ∧ i ≤ pos l (y : Int))
theorem LeftB.start (l : List Int) : LeftB l 0 (2 ^ l.length - 1) := fun y => by
  rw [Nat.testBit_two_pow_sub_one]
  simp
theorem LeftB.lt {l : List Int} {i s : Nat} (h : LeftB l i s) (h7 : l.length ≤ 7) : s < 128 := by
  refine Nat.lt_of_not_le fun hs => ?_
  have : s ≠ 0 := by omega
  obtain ⟨y, hy, hb⟩ := Nat.exists_ge_and_testBit_of_ge_two_pow (n := 7) (x := s) hs
  rw [h y] at hb
  have := of_decide_eq_true hb
  omega
theorem bit_out (s v y : Nat) (hs : s < 128) (hv : v < 7) : (s &&& (18446744073709551615 - 2 ^ v)).testBit y = (s.testBit y && decide (y ≠ v)) := by
  rw [Nat.testBit_and]
  have h1 : (18446744073709551615 - 2 ^ v) = 2 ^ 64 - (2 ^ v + 1) := by
    have : (2 : Nat) ^ 64 = 18446744073709551616 := by decide
    omega
  have h2 : (2 : Nat) ^ v < 2 ^ 64 := Nat.pow_lt_pow_right (by omega) (by omega)
  rw [h1, Nat.testBit_two_pow_sub_succ h2, Nat.testBit_two_pow]
  by_cases hy : y < 64
  · simp [hy, eq_comm]
  · have : s.testBit y = false := Nat.testBit_lt_two_pow (Nat.lt_of_lt_of_le hs (by
      have : (2 : Nat) ^ 7 ≤ 2 ^ y := Nat.pow_le_pow_right (by omega) (by omega)
      omega))
    simp [this]
theorem LeftB.step {l : List Int} {i s v : Nat} (h : LeftB l i s) (hO : IsO l) (h7 : l.length ≤ 7) (hi : i < l.length) (hv : l.getD i 0 = (v : Int)) : LeftB l (i + 1) (s &&& (18446744073709551615 - 2 ^ v)) := fun y => by
  have hb := hO.lo i hi
  rw [bit_out s v y (h.lt h7) (by omega), h y, Bool.eq_iff_iff, Bool.and_eq_true, decide_eq_true_iff, decide_eq_true_iff, decide_eq_true_iff]
  constructor
  · rintro ⟨⟨h1, h2⟩, h3⟩
    refine ⟨h1, ?_⟩
    by_cases e : pos l (y : Int) = i
    · have := (hO.get_pos (y : Int) (by omega) (by omega)).2
      rw [e, hv] at this
      omega
    · omega
  · rintro ⟨h1, h2⟩
    refine ⟨⟨h1, by omega⟩, fun e => ?_⟩
    have := hO.pos_get i hi
    rw [hv, ← e] at this
    omega
theorem LeftB.count {l : List Int} {i s v : Nat} (h : LeftB l (i + 1) s) (hO : IsO l) (h7 : l.length ≤ 7) (hv : l.getD i 0 = (v : Int)) : popN (s &&& (2 ^ v - 1)) = cdN l i := by
  have e1 : cdN l i = sm (fun x : Nat => bI (i < pos l (x : Int) ∧ (x : Int) < (v : Int))) l.length := by
    have := sm_order hO (fun z => bI (i < pos l z ∧ z < (v : Int)))
    rw [← this]
    unfold cdN
    refine sm_congr _ fun k hk => ?_
    rw [hO.pos_get k hk, hv]
  rw [e1]
  unfold popN
  rw [sm_tail (n := l.length) (fun y hy => ?_) 7 h7]
  · refine sm_congr _ fun y hy => bI_congr ?_
    rw [Nat.testBit_and, h y, Nat.testBit_two_pow_sub_one, Bool.and_eq_true, decide_eq_true_iff, decide_eq_true_iff]
    constructor
    · rintro ⟨⟨_, h1⟩, h2⟩; exact ⟨by omega, by omega⟩
    · rintro ⟨h1, h2⟩; exact ⟨⟨hy, by omega⟩, by omega⟩
  · unfold bI
    rw [if_neg]
    rw [Nat.testBit_and, h y, Bool.and_eq_true, decide_eq_true_iff]
    rintro ⟨⟨h1, _⟩, _⟩
    omega
theorem codeL_take {l : List Int} {i : Nat} (hi : i < l.length) : (codeL l).take (i + 1) = (codeL l).take i ++ [cdN l i] := by
  have hl : (codeL l).length = l.length := by simp [codeL]
  rw [take_succ_getD _ _ (by omega)]
  congr 2
  simp [codeL, List.getD, hi]
end Grade03
namespace Grade03
/-- the numbers below n that are not in a list -/
def lefL (n : Nat) (out : List Int) : List Int := ((List.range n).filter fun y : Nat => decide ((y : Int) ∉ out)).map fun y : Nat => (y : Int)
def ninL (out : List Int) (x : Nat) : Nat := (List.range x).countP fun y : Nat => decide ((y : Int) ∉ out)
theorem lefL_nil (n : Nat) : lefL n [] = (List.range n).map fun y : Nat => (y : Int) := by
  rw [lefL, List.filter_eq_self.2 (fun y _ => by simp)]
theorem ninL_succ (out : List Int) (x : Nat) : ninL out (x + 1) = ninL out x + if (x : Int) ∈ out then 0 else 1 := by
  simp only [ninL, List.range_succ, List.countP_append, List.countP_singleton]
  by_cases h : (x : Int) ∈ out <;> simp [h]
theorem ninL_mono (out : List Int) {x y : Nat} (h : x ≤ y) : ninL out x ≤ ninL out y := by
  induction y with
  | zero => rw [show x = 0 by omega]; exact Nat.le_refl _
  | succ y ih =>
    by_cases e : x = y + 1
    · rw [e]; exact Nat.le_refl _
    · rw [ninL_succ]; exact Nat.le_trans (ih (by omega)) (Nat.le_add_right _ _)
theorem ninL_lt (out : List Int) {x y : Nat} (h : x < y) (hx : (x : Int) ∉ out) : ninL out x < ninL out y := by
  have h1 := ninL_mono out (show x + 1 ≤ y from h)
  rw [ninL_succ, if_neg hx] at h1
  omega
theorem ninL_inj (out : List Int) {x y : Nat} (hx : (x : Int) ∉ out) (hy : (y : Int) ∉ out) (h : ninL out x = ninL out y) : x = y := by
  rcases Nat.lt_trichotomy x y with h1 | h1 | h1
  · have := ninL_lt out h1 hx; omega
  · exact h1
  · have := ninL_lt out h1 hy; omega
theorem rng_get (out : List Int) (x : Nat) (hx : (x : Int) ∉ out) : ∀ n, x < n → ((List.range n).filter fun y : Nat => decide ((y : Int) ∉ out))[ninL out x]? = some x
  | n + 1, h => by
    rw [List.range_succ, List.filter_append]
    by_cases e : x = n
    · subst e
      have hl : ((List.range x).filter fun y : Nat => decide ((y : Int) ∉ out)).length = ninL out x := by rw [ninL, List.countP_eq_length_filter]
      rw [List.getElem?_append_right (by omega), hl]
      simp [hx]
    · have ih := rng_get out x hx n (by omega)
      rw [List.getElem?_append_left (List.getElem?_eq_some_iff.1 ih).1, ih]
theorem lef_get {n x : Nat} {out : List Int} (hx : x < n) (ho : (x : Int) ∉ out) : (lefL n out)[ninL out x]? = some (x : Int) := by
  rw [lefL, List.getElem?_map, rng_get out x ho n hx]; rfl
theorem lef_getD {n x : Nat} {out : List Int} (hx : x < n) (ho : (x : Int) ∉ out) : (lefL n out).getD (ninL out x) 0 = (x : Int) := by
  rw [List.getD, lef_get hx ho]; rfl
theorem lef_mem {n : Nat} {out : List Int} {z : Int} : z ∈ lefL n out ↔ ∃ x : Nat, x < n ∧ (x : Int) ∉ out ∧ z = (x : Int) := by
  simp only [lefL, List.mem_map, List.mem_filter, List.mem_range, decide_eq_true_iff]
  constructor
  · rintro ⟨x, ⟨h1, h2⟩, h3⟩; exact ⟨x, h1, h2, h3.symm⟩
  · rintro ⟨x, h1, h2, h3⟩; exact ⟨x, ⟨h1, h2⟩, h3.symm⟩
theorem lef_nodup (n : Nat) (out : List Int) : (lefL n out).Nodup := by
  have h1 : ((List.range n).filter fun y : Nat => decide ((y : Int) ∉ out)).Nodup := List.nodup_range.filter _
  rw [lefL, List.nodup_iff_pairwise_ne, List.pairwise_map]
  rw [List.nodup_iff_pairwise_ne] at h1
  exact h1.imp fun h e => h (by omega)
theorem lef_is {n c : Nat} {out : List Int} (hc : c < (lefL n out).length) : ∃ x : Nat, x < n ∧ (x : Int) ∉ out ∧ ninL out x = c ∧ (lefL n out).getD c 0 = (x : Int) := by
  have hm : (lefL n out).getD c 0 ∈ lefL n out := mem_getD _ _ hc
  obtain ⟨x, hx, ho, e⟩ := lef_mem.1 hm
  refine ⟨x, hx, ho, ?_, e⟩
  have h1 := lef_get (n := n) hx ho
  obtain ⟨h2, h3⟩ := List.getElem?_eq_some_iff.1 h1
  rw [List.getD, List.getElem?_eq_getElem hc] at e
  exact (List.getElem_inj (lef_nodup n out)).1 (h3.trans e.symm)
theorem lef_next {n c : Nat} {out : List Int} (hc : c < (lefL n out).length) : lefL n (out ++ [(lefL n out).getD c 0]) = (lefL n out).eraseIdx c := by
  obtain ⟨x, hx, ho, hn, e⟩ := lef_is hc
  have hi : (lefL n out).idxOf (x : Int) = c := by
    have h1 : (lefL n out)[c]? = some (x : Int) := by rw [← hn]; exact lef_get hx ho
    obtain ⟨h2, h3⟩ := List.getElem?_eq_some_iff.1 h1
    have h4 : (lefL n out).idxOf (x : Int) < (lefL n out).length := List.idxOf_lt_length_of_mem (lef_mem.2 ⟨x, hx, ho, rfl⟩)
    exact (List.getElem_inj (lef_nodup n out)).1 ((List.getElem_idxOf h4).trans h3.symm)
  rw [← hi, ← List.erase_eq_eraseIdx_of_idxOf (by rw [hi]) , (lef_nodup n out).erase_eq_filter, hi, e]
  unfold lefL
  rw [List.filter_map, List.filter_filter]
  congr 1
  refine List.filter_congr fun y _ => ?_
  rw [Bool.eq_iff_iff]
  simp [bne]
  constructor
  · rintro ⟨h1, h2⟩; exact ⟨h2, h1⟩
  · rintro ⟨h1, h2⟩; exact ⟨h2, h1⟩
/-- the order with a code, so far -/
def fromK (n : Nat) (cd : List Int) : Nat → List Int
  | 0 => []
  | i + 1 => fromK n cd i ++ [(lefL n (fromK n cd i)).getD (cd.getD i 0).toNat 0]
def okC (n : Nat) (cd : List Int) (i : Nat) : Prop := 0 ≤ cd.getD i 0 ∧ cd.getD i 0 < (n : Int) - i
instance (n : Nat) (cd : List Int) (i : Nat) : Decidable (okC n cd i) := inferInstanceAs (Decidable (_ ∧ _))
def fromL (cd : List Int) : List Int := fromK cd.length cd cd.length
theorem fromK_len (n : Nat) (cd : List Int) : ∀ i, (fromK n cd i).length = i
  | 0 => rfl
  | i + 1 => by simp [fromK, fromK_len n cd i]
theorem fromK_lef {n : Nat} {cd : List Int} : ∀ i, i ≤ n → (∀ j, j < i → okC n cd j) → (lefL n (fromK n cd i)).length = n - i
  | 0, _, _ => by simp [fromK, lefL_nil]
  | i + 1, hi, h => by
    have ih := fromK_lef i (by omega) (fun j hj => h j (by omega))
    have h1 := h i (by omega)
    unfold okC at h1
    rw [fromK, lef_next (by rw [ih]; omega), List.length_eraseIdx_of_lt (by rw [ih]; omega), ih]
    omega
theorem fromK_is {n : Nat} {cd : List Int} {i : Nat} (hi : i < n) (h : ∀ j, j < i + 1 → okC n cd j) : ∃ x : Nat, x < n ∧ (x : Int) ∉ fromK n cd i ∧ (ninL (fromK n cd i) x : Int) = cd.getD i 0 ∧ (lefL n (fromK n cd i)).getD (cd.getD i 0).toNat 0 = (x : Int) := by
  have h1 := h i (by omega)
  unfold okC at h1
  have hl := fromK_lef i (by omega) (fun j hj => h j (by omega))
  obtain ⟨x, h2, h3, h4, h5⟩ := lef_is (n := n) (c := (cd.getD i 0).toNat) (out := fromK n cd i) (by rw [hl]; omega)
  exact ⟨x, h2, h3, by rw [h4]; omega, h5⟩
theorem fromK_beg {n : Nat} {cd : List Int} : ∀ i, i ≤ n → (∀ j, j < i → okC n cd j) → (fromK n cd i).Nodup ∧ ∀ z ∈ fromK n cd i, 0 ≤ z ∧ z < n
  | 0, _, _ => ⟨List.nodup_nil, fun z h => by simp [fromK] at h⟩
  | i + 1, hi, h => by
    obtain ⟨h1, h2⟩ := fromK_beg i (by omega) (fun j hj => h j (by omega))
    obtain ⟨x, h3, h4, _, h5⟩ := fromK_is (i := i) (by omega) h
    rw [fromK, h5]
    refine ⟨?_, fun z hz => ?_⟩
    · rw [List.nodup_append]
      refine ⟨h1, by simp, fun a ha b hb e => ?_⟩
      simp at hb
      exact h4 (by rw [← hb, ← e]; exact ha)
    · rcases List.mem_append.1 hz with hz | hz
      · exact h2 z hz
      · simp at hz; omega
theorem from_ord {n : Nat} {cd : List Int} (h : ∀ j, j < n → okC n cd j) : IsO (fromK n cd n) ∧ (fromK n cd n).length = n := by
  obtain ⟨h1, h2⟩ := fromK_beg n (Nat.le_refl _) h
  have hl := fromK_len n cd n
  refine ⟨⟨fun i hi => ?_, fun i k hi hk e => ?_⟩, hl⟩
  · rw [hl]; exact h2 _ (mem_getD _ _ hi)
  · rw [List.getD, List.getD, List.getElem?_eq_getElem hi, List.getElem?_eq_getElem hk] at e
    exact (List.getElem_inj h1).1 e
/-- what is wrong with a code -/
def fromE (cd : List Int) : Int := if sizeE cd.length ≠ 0 then sizeE cd.length else if (∀ j, j < cd.length → okC cd.length cd j) then 0 else 1
theorem fromE_size {cd : List Int} (h : sizeE cd.length ≠ 0) : fromE cd = sizeE cd.length := by rw [fromE, if_pos h]
theorem fromE_bad {cd : List Int} (h : sizeE cd.length = 0) {i : Nat} (hi : i < cd.length) (hb : ¬ okC cd.length cd i) : fromE cd = 1 := by rw [fromE, if_neg (fun e => e h), if_neg (fun e => hb (e i hi))]
theorem fromE_ok {cd : List Int} (h : sizeE cd.length = 0) (hb : ∀ j, j < cd.length → okC cd.length cd j) : fromE cd = 0 := by rw [fromE, if_neg (fun e => e h), if_pos hb]
theorem fromE_zero {cd : List Int} (h : fromE cd = 0) : (∀ j, j < cd.length → okC cd.length cd j) ∧ 1 ≤ cd.length ∧ cd.length ≤ 7 := by
  unfold fromE at h
  split at h
  · rename_i h1; exact absurd h h1
  · rename_i h1
    split at h
    · rename_i h2; exact ⟨h2, sizeE_pos (Decidable.not_not.1 h1)⟩
    · cases h
theorem code_ok {l : List Int} (i : Nat) (hi : i < l.length) : okC (codeL l).length (codeL l) i := by
  have hl : (codeL l).length = l.length := by simp [codeL]
  have hg : (codeL l).getD i 0 = cdN l i := by simp [codeL, List.getD, hi]
  unfold okC
  rw [hl, hg]
  refine ⟨sm_nonneg _ fun _ _ => bI_nonneg _, ?_⟩
  rw [cdN_app l i hi]
  have h1 := List.countP_le_length (p := fun y => decide (y < l.getD i 0)) (l := l.drop (i + 1))
  rw [List.length_drop] at h1
  omega
theorem nin_take {l : List Int} (h : IsO l) {i v : Nat} (hi : i < l.length) (hv : l.getD i 0 = (v : Int)) : (ninL (l.take i) v : Int) = cdN l i := by
  have e1 : cdN l i = sm (fun x : Nat => bI (i < pos l (x : Int) ∧ (x : Int) < (v : Int))) l.length := by
    have := sm_order h (fun z => bI (i < pos l z ∧ z < (v : Int)))
    rw [← this]
    unfold cdN
    refine sm_congr _ fun k hk => ?_
    rw [h.pos_get k hk, hv]
  have hb := h.lo i hi
  have e2 : ∀ m, (ninL (l.take i) m : Int) = sm (fun x : Nat => bI ((x : Int) ∉ l.take i)) m := by
    intro m
    induction m with
    | zero => rfl
    | succ m ih =>
      rw [ninL_succ, sm, ← ih]
      unfold bI
      by_cases e : (m : Int) ∈ l.take i
      · rw [if_pos e, if_neg (fun h => h e)]; omega
      · rw [if_neg e, if_pos e]; omega
  rw [e1, e2]
  rw [sm_tail (n := v) (f := fun x : Nat => bI (i < pos l (x : Int) ∧ (x : Int) < (v : Int))) (fun x hx => by unfold bI; rw [if_neg (fun h => by omega)]) l.length (by omega)]
  refine sm_congr _ fun x hx => bI_congr ?_
  have hg := h.get_pos (x : Int) (by omega) (by omega)
  constructor
  · intro hm
    refine ⟨?_, by omega⟩
    have hne : pos l (x : Int) ≠ i := fun e => by rw [e, hv] at hg; omega
    refine Nat.lt_of_not_le fun hle => hm ?_
    have e3 : (l.take i).getD (pos l (x : Int)) 0 = l.getD (pos l (x : Int)) 0 := by simp [List.getD, List.getElem?_take, show pos l (x : Int) < i by omega]
    have e4 := mem_getD (l.take i) (pos l (x : Int)) (by simp; omega)
    rw [e3, hg.2] at e4
    exact e4
  · rintro ⟨h1, _⟩ hm
    obtain ⟨k, hk, e⟩ := getD_of_mem hm
    simp at hk
    have e2 : (l.take i).getD k 0 = l.getD k 0 := by simp [List.getD, List.getElem?_take, show k < i by omega]
    rw [e2] at e
    have := h.pos_get k (by omega)
    rw [e] at this
    omega
theorem from_code {l : List Int} (h : IsO l) : ∀ i, i ≤ l.length → fromK l.length (codeL l) i = l.take i
  | 0, _ => by simp [fromK]
  | i + 1, hi => by
    have hg : (codeL l).getD i 0 = cdN l i := by simp [codeL, List.getD, show i < l.length by omega]
    have hb := h.lo i (by omega)
    obtain ⟨v, hv⟩ : ∃ v : Nat, l.getD i 0 = (v : Int) := ⟨(l.getD i 0).toNat, by omega⟩
    have hn := nin_take h (show i < l.length by omega) hv
    have hm : (v : Int) ∉ l.take i := fun hm => by
      obtain ⟨k, hk, e⟩ := getD_of_mem hm
      simp at hk
      have e2 : (l.take i).getD k 0 = l.getD k 0 := by simp [List.getD, List.getElem?_take, show k < i by omega]
      rw [e2, ← hv] at e
      have := h.inj k i (by omega) (by omega) e
      omega
    rw [fromK, from_code h i (by omega), take_succ_getD l i (by omega), hg, ← hn, Int.toNat_natCast, lef_getD (by omega) hm, hv]
theorem fromL_code {l : List Int} (h : IsO l) : fromL (codeL l) = l := by
  have hl : (codeL l).length = l.length := by simp [codeL]
  rw [fromL, hl, from_code h l.length (Nat.le_refl _), List.take_length]
end Grade03
namespace Grade03
/-- what is moved so far: out, from parts that end before a place; the part from there to i is open -/
structure MvS (l : List Int) (x : Int) (out : List Int) (f i : Nat) : Prop where
  le : f ≤ i
  len : out.length = f
  is : movedL l x = out ++ mvR (cls x (l.getD (l.length - 1) 0)) x ((l.take i).drop f) (l.drop i)
theorem MvS.start (l : List Int) (x : Int) : MvS l x [] 0 0 := ⟨Nat.le_refl _, rfl, by simp [movedL]⟩
theorem part_next {l : List Int} {f i : Nat} (hf : f ≤ i) (hi : i < l.length) : (l.take (i + 1)).drop f = (l.take i).drop f ++ [l.getD i 0] := by
  rw [take_succ_getD l i hi, List.drop_append_of_le_length (by simp; omega)]
theorem MvS.hit {l : List Int} {x : Int} {out : List Int} {f i : Nat} (h : MvS l x out f i) (hi : i < l.length) (hc : cls x (l.getD i 0) = cls x (l.getD (l.length - 1) 0)) : MvS l x (out ++ [l.getD i 0] ++ (l.take i).drop f) (i + 1) (i + 1) := by
  have hle := h.le
  refine ⟨Nat.le_refl _, by have := h.len; simp; omega, ?_⟩
  rw [h.is, drop_cons l i hi, mvR, if_pos hc]
  have : (l.take (i + 1)).drop (i + 1) = [] := by simp
  rw [this]
  simp
theorem MvS.miss {l : List Int} {x : Int} {out : List Int} {f i : Nat} (h : MvS l x out f i) (hi : i < l.length) (hc : ¬ cls x (l.getD i 0) = cls x (l.getD (l.length - 1) 0)) : MvS l x out f (i + 1) := by
  have hle := h.le
  refine ⟨by omega, h.len, ?_⟩
  rw [h.is, drop_cons l i hi, mvR, if_neg hc, part_next hle hi]
theorem MvS.fin {l : List Int} {x : Int} {out : List Int} {f i : Nat} (h : MvS l x out f i) (hi : l.length ≤ i) : movedL l x = out := by
  rw [h.is, List.drop_eq_nil_of_le hi, mvR, List.append_nil]
end Grade03
namespace Grade03
structure UmS (l : List Int) (x : Int) (out : List Int) (e : Int) (i : Nat) : Prop where
  len : out.length = i
  is : unmovedL l x = out ++ umR (cls x (l.getD 0 0)) x e (l.drop (i + 1))
theorem UmS.start {l : List Int} {x : Int} (h : 0 < l.length) : UmS l x [] (l.getD 0 0) 0 := by
  cases l with
  | nil => simp at h
  | cons y ys => exact ⟨rfl, by simp [unmovedL, List.getD]⟩
theorem UmS.hit {l : List Int} {x : Int} {out : List Int} {e : Int} {i : Nat} (h : UmS l x out e i) (hi : i + 1 < l.length) (hc : cls x (l.getD (i + 1) 0) = cls x (l.getD 0 0)) : UmS l x (out ++ [e]) (l.getD (i + 1) 0) (i + 1) := by
  refine ⟨by simp [h.len], ?_⟩
  rw [h.is, drop_cons l (i + 1) hi, umR, if_pos hc]
  simp
theorem UmS.miss {l : List Int} {x : Int} {out : List Int} {e : Int} {i : Nat} (h : UmS l x out e i) (hi : i + 1 < l.length) (hc : ¬ cls x (l.getD (i + 1) 0) = cls x (l.getD 0 0)) : UmS l x (out ++ [l.getD (i + 1) 0]) e (i + 1) := by
  refine ⟨by simp [h.len], ?_⟩
  rw [h.is, drop_cons l (i + 1) hi, umR, if_neg hc]
  simp
theorem UmS.fin {l : List Int} {x : Int} {out : List Int} {e : Int} {i : Nat} (h : UmS l x out e i) (hi : l.length ≤ i + 1) : unmovedL l x = out ++ [e] := by
  rw [h.is, List.drop_eq_nil_of_le hi, umR]
/-- back so far: the last ones of out are there -/
structure BkS (l s out : List Int) (j : Nat) : Prop where
  ol : out.length = l.length
  sl : s.length = j
  is : backL l = bkN j s ++ out.drop j
theorem BkS.start (l : List Int) : BkS l l (List.replicate l.length 0) l.length := ⟨by simp, rfl, by simp [backL]⟩
theorem BkS.step {l s out : List Int} {k : Nat} (h : BkS l s out (k + 1)) (hk : k < l.length) : BkS l (unmovedL (s.take k) (s.getD k 0)) (out.set k (s.getD k 0)) k := by
  have h1 := h.ol
  have h2 := h.sl
  refine ⟨by simp [h1], by rw [unmoved_len]; simp; omega, ?_⟩
  rw [h.is, bkN, List.append_assoc]
  congr 1
  have h3 : k < (out.set k (s.getD k 0)).length := by simp; omega
  rw [drop_cons _ k h3, set_getD _ _ _ _ (by omega), if_pos rfl, List.drop_set_of_lt (by omega)]
  rfl
theorem BkS.fin {l s out : List Int} (h : BkS l s out 0) : backL l = out := by rw [h.is]; simp [bkN]
end Grade03
namespace Grade03
/-- those that go on with a bale below x -/
def allX (n m : Nat) (pre : List Int) (x : Nat) : List (List Int) := (List.range x).flatMap fun x : Nat => if (x : Int) ∈ pre then [] else allO n m (pre ++ [(x : Int)])
theorem allX_in {n m x : Nat} {pre : List Int} (h : (x : Int) ∈ pre) : allX n m pre (x + 1) = allX n m pre x := by
  simp [allX, List.range_succ, List.flatMap_append, h]
theorem allX_out {n m x : Nat} {pre : List Int} (h : (x : Int) ∉ pre) : allX n m pre (x + 1) = allX n m pre x ++ allO n m (pre ++ [(x : Int)]) := by
  simp [allX, List.range_succ, List.flatMap_append, h]
theorem allO_step (n m : Nat) (pre : List Int) : allO n (m + 1) pre = allX n m pre n := rfl
theorem allO_len (n : Nat) : ∀ m pre, (allO n m pre).length ≤ n ^ m
  | 0, pre => by simp [allO]
  | m + 1, pre => by
    have key : ∀ x, (allX n m pre x).length ≤ x * n ^ m := by
      intro x
      induction x with
      | zero => simp [allX]
      | succ x ih =>
        by_cases h : (x : Int) ∈ pre
        · rw [allX_in h, Nat.succ_mul]; omega
        · rw [allX_out h, List.length_append, Nat.succ_mul]
          have := allO_len n m (pre ++ [(x : Int)])
          omega
    rw [allO_step, Nat.pow_succ, Nat.mul_comm]
    exact key n
theorem allX_len {n m x : Nat} {pre : List Int} (hn : n ≤ 7) (hm : m + 1 ≤ 7) (hx : x ≤ n) : (allX n m pre x).length ≤ 823543 := by
  have key : ∀ x, (allX n m pre x).length ≤ x * n ^ m := by
    intro x
    induction x with
    | zero => simp [allX]
    | succ x ih =>
      by_cases h : (x : Int) ∈ pre
      · rw [allX_in h, Nat.succ_mul]; omega
      · rw [allX_out h, List.length_append, Nat.succ_mul]
        have := allO_len n m (pre ++ [(x : Int)])
        omega
  have h1 := key x
  have h2 : n ^ m ≤ 7 ^ m := Nat.pow_le_pow_left hn m
  have h3 : (7 : Nat) ^ m ≤ 7 ^ 6 := Nat.pow_le_pow_right (by omega) (by omega)
  have h4 : x * n ^ m ≤ 7 * 7 ^ 6 := Nat.mul_le_mul (by omega) (by omega)
  have h5 : (7 : Nat) * 7 ^ 6 = 823543 := by decide
  omega
end Grade03
namespace Grade03
variable {R : Nat → Nat → Prop} [DecidableRel R]
def nbK (R : Nat → Nat → Prop) [DecidableRel R] (y : Nat) : Nat → Nat
  | 0 => 0
  | x + 1 => if x ≠ y ∧ R x y then nbK R y x ||| 2 ^ x else nbK R y x
theorem nbK_bit (y x : Nat) : ∀ n, (nbK R y n).testBit x = decide (x < n ∧ x ≠ y ∧ R x y)
  | 0 => by simp [nbK]
  | n + 1 => by
    rw [nbK]
    have ih := nbK_bit y x n
    by_cases h : n ≠ y ∧ R n y
    · rw [if_pos h, or_bit, ih, Bool.eq_iff_iff, Bool.or_eq_true, decide_eq_true_iff, decide_eq_true_iff, decide_eq_true_iff]
      constructor
      · rintro (⟨h1, h2⟩ | rfl)
        · exact ⟨by omega, h2⟩
        · exact ⟨by omega, h⟩
      · rintro ⟨h1, h2⟩
        by_cases e : x = n
        · exact .inr e
        · exact .inl ⟨by omega, h2⟩
    · rw [if_neg h, ih]
      refine decide_eq_decide.2 ⟨fun ⟨h1, h2⟩ => ⟨by omega, h2⟩, fun ⟨h1, h2⟩ => ⟨?_, h2⟩⟩
      refine Nat.lt_of_le_of_ne (by omega) fun e => h ?_
      rw [← e]; exact h2
theorem nbK_lt (y : Nat) : ∀ n, nbK R y n < 2 ^ n
  | 0 => by simp [nbK]
  | n + 1 => by
    have ih := nbK_lt y n
    have h1 : (2 : Nat) ^ n < 2 ^ (n + 1) := Nat.pow_lt_pow_right (by omega) (by omega)
    rw [nbK]
    split
    · exact Nat.or_lt_two_pow (by omega) h1
    · omega
theorem nbK_lt7 (y : Nat) {n : Nat} (hn : n ≤ 7) : nbK R y n < 128 := by
  have h1 := nbK_lt (R := R) y n
  have h2 : (2 : Nat) ^ n ≤ 2 ^ 7 := Nat.pow_le_pow_right (by omega) hn
  omega
/-- so far: of all bales below y, and of y those below x -/
def needL (R : Nat → Nat → Prop) [DecidableRel R] (n y x : Nat) : List Nat := (List.range 7).map fun z => if z < y then nbK R z n else if z = y then nbK R y x else 0
theorem needL_len (n y x : Nat) : (needL R n y x).length = 7 := by simp [needL]
theorem needL_get (n y x z : Nat) (hz : z < 7) : (needL R n y x).getD z 0 = if z < y then nbK R z n else if z = y then nbK R y x else 0 := by simp [needL, List.getD, hz]
theorem needL_zero (n : Nat) : needL R n 0 0 = List.replicate 7 0 := by
  refine List.ext_getElem (by simp [needL]) fun i h1 h2 => ?_
  rw [List.getElem_replicate]
  simp [needL, nbK]
theorem needL_hit {n y x : Nat} (hy : y < 7) (h : x ≠ y ∧ R x y) : (needL R n y x).set y ((needL R n y x).getD y 0 ||| 2 ^ x) = needL R n y (x + 1) := by
  rw [needL_get n y x y hy, if_neg (by omega), if_pos rfl]
  refine List.ext_getElem (by simp [needL]) fun i h1 h2 => ?_
  rw [List.getElem_set]
  simp only [needL, List.getElem_map, List.getElem_range]
  by_cases e : y = i
  · subst e; rw [if_pos rfl, if_neg (by omega), if_pos rfl, nbK, if_pos h]
  · rw [if_neg e]
    by_cases h3 : i < y
    · rw [if_pos h3, if_pos h3]
    · rw [if_neg h3, if_neg h3, if_neg (fun h => e h.symm), if_neg (fun h => e h.symm)]
theorem needL_skip {n y x : Nat} (h : ¬ (x ≠ y ∧ R x y)) : needL R n y (x + 1) = needL R n y x := by
  unfold needL
  refine List.map_congr_left fun z _ => ?_
  rw [nbK, if_neg h]
theorem needL_next (n y : Nat) : needL R n y n = needL R n (y + 1) 0 := by
  unfold needL
  refine List.map_congr_left fun z _ => ?_
  by_cases h1 : z < y
  · rw [if_pos h1, if_pos (by omega)]
  · by_cases h2 : z = y
    · subst h2; rw [if_neg h1, if_pos rfl, if_pos (by omega)]
    · rw [if_neg h1, if_neg h2, if_neg (by omega)]; simp [nbK]
/-- all -/
def needF (R : Nat → Nat → Prop) [DecidableRel R] (n : Nat) : List Nat := needL R n n 0
theorem needF_len (n : Nat) : (needF R n).length = 7 := needL_len n n 0
theorem needF_get {n z : Nat} (hz : z < n) (hn : n ≤ 7) : (needF R n).getD z 0 = nbK R z n := by rw [needF, needL_get n n 0 z (by omega), if_pos hz]
/-- all that has to be there is there -/
theorem need_sub {n z t : Nat} (hz : z < n) (hn : n ≤ 7) (ht : t < 128) (hirr : ¬ R z z) : nbK R z n &&& (18446744073709551615 - t) = 0 ↔ ∀ x, x < n → R x z → t.testBit x = true := by
  have hs := nbK_lt7 (R := R) z hn
  have h1 : (18446744073709551615 - t) = 2 ^ 64 - (t + 1) := by
    have : (2 : Nat) ^ 64 = 18446744073709551616 := by decide
    omega
  have h2 : t < 2 ^ 64 := by
    have : (2 : Nat) ^ 64 = 18446744073709551616 := by decide
    omega
  have hb : ∀ y, (nbK R z n &&& (18446744073709551615 - t)).testBit y = (decide (y < n ∧ y ≠ z ∧ R y z) && !t.testBit y) := fun y => by
    rw [Nat.testBit_and, nbK_bit, h1, Nat.testBit_two_pow_sub_succ h2]
    by_cases hy : y < n
    · simp [show y < 64 by omega]
    · simp [hy]
  constructor
  · intro h x hx hr
    have := hb x
    rw [h] at this
    simp at this
    exact this hx (fun e => hirr (by rw [e] at hr; exact hr)) hr
  · intro h
    refine Nat.eq_of_testBit_eq fun y => ?_
    rw [hb y, Nat.zero_testBit]
    by_cases hy : y < n ∧ y ≠ z ∧ R y z
    · rw [h y hy.1 hy.2.2]; simp
    · simp [hy]
theorem need_sub_bool {n z t : Nat} (hz : z < n) (hn : n ≤ 7) (ht : t < 128) (hirr : ¬ R z z) : decide (nbK R z n &&& (18446744073709551615 - t) = 0) = decide (∀ x, x < n → R x z → t.testBit x = true) :=
  decide_eq_decide.2 (need_sub hz hn ht hirr)
end Grade03
namespace Grade03
variable {R : Nat → Nat → Prop} [DecidableRel R]
/-- so many have come: pre, as bits s -/
structure SoS (R : Nat → Nat → Prop) [DecidableRel R] (n : Nat) (pre : List Int) (s i : Nat) : Prop where
  beg : Beg n R pre
  len : pre.length = i
  lt : s < 128
  bits : ∀ x, x < n → (s.testBit x = true ↔ (x : Int) ∈ pre)
  is : sortF n R (n - i) pre = sortO n R
theorem SoS.start (n : Nat) : SoS R n [] 0 0 := ⟨Beg.nil, rfl, by omega, fun x _ => by simp, rfl⟩
theorem SoS.okN {n : Nat} {pre : List Int} {s i : Nat} (h : SoS R n pre s i) {y : Nat} (hy : y < n) : okN n R pre y ↔ (s.testBit y = false ∧ ∀ x, x < n → R x y → s.testBit x = true) := by
  unfold Grade03.okN
  constructor
  · rintro ⟨h1, h2⟩
    refine ⟨?_, fun x hx hr => (h.bits x hx).2 (h2 x hx hr)⟩
    cases e : s.testBit y with
    | false => rfl
    | true => exact absurd ((h.bits y hy).1 e) h1
  · rintro ⟨h1, h2⟩
    refine ⟨fun hm => ?_, fun x hx hr => (h.bits x hx).1 (h2 x hx hr)⟩
    rw [(h.bits y hy).2 hm] at h1
    cases h1
theorem SoS.found {n : Nat} {pre : List Int} {s i : Nat} (h : SoS R n pre s i) (hS : SPO n R) (hi : i < n) : ∃ y, y < n ∧ Grade03.okN n R pre y ∧ ∀ x, x < y → ¬ Grade03.okN n R pre x := by
  obtain ⟨y, _, h2, h3, h4⟩ := nxtO_is hS h.beg (by rw [h.len]; exact hi)
  exact ⟨y, h2, h3, h4⟩
theorem SoS.step {n : Nat} {pre : List Int} {s i : Nat} (h : SoS R n pre s i) (hS : SPO n R) (hn : n ≤ 7) (hi : i < n) {y : Nat} (hy : y < n) (ho : Grade03.okN n R pre y) (hno : ∀ x, x < y → ¬ Grade03.okN n R pre x) : SoS R n (pre ++ [(y : Int)]) (s ||| 2 ^ y) (i + 1) := by
  refine ⟨h.beg.snoc hy ho, by simp [h.len], ?_, fun x hx => ?_, ?_⟩
  · have h1 : (2 : Nat) ^ y < 2 ^ 7 := Nat.pow_lt_pow_right (by omega) (by omega)
    exact Nat.or_lt_two_pow (n := 7) h.lt h1
  · rw [or_bit, Bool.or_eq_true, h.bits x hx, List.mem_append, decide_eq_true_iff, List.mem_singleton]
    constructor
    · rintro (h1 | rfl)
      · exact .inl h1
      · exact .inr rfl
    · rintro (h1 | h1)
      · exact .inl h1
      · exact .inr (by omega)
  · have h1 := h.is
    obtain ⟨m, hm⟩ : ∃ m, n - i = m + 1 := ⟨n - i - 1, by omega⟩
    rw [hm, sortF] at h1
    have h2 : nxtO n R pre = some y := by
      obtain ⟨z, hz, hz2, hz3, hz4⟩ := nxtO_is hS h.beg (by rw [h.len]; exact hi)
      have : z = y := by
        rcases Nat.lt_trichotomy z y with h5 | h5 | h5
        · exact absurd hz3 (hno z h5)
        · exact h5
        · exact absurd ho (hz4 y h5)
      rw [hz, this]
    rw [h2] at h1
    rw [show n - (i + 1) = m by omega]
    exact h1
theorem SoS.fin {n : Nat} {pre : List Int} {s : Nat} (h : SoS R n pre s n) : pre = sortO n R := by
  have := h.is
  rw [Nat.sub_self, sortF] at this
  exact this
theorem bit_shr (s y : Nat) : (s / 2 ^ y) &&& 1 = if s.testBit y then 1 else 0 := by
  rw [Nat.and_one_is_mod]
  have h := Nat.testBit_eq_decide_div_mod_eq (x := s) (i := y)
  by_cases e : s / 2 ^ y % 2 = 1
  · rw [h, e]; simp
  · rw [h]
    have : s / 2 ^ y % 2 = 0 := by omega
    rw [this]; simp
end Grade03
namespace Grade03
theorem pos_take {l : List Int} (h : IsO l) {x j : Nat} (hx : x < l.length) (hj : j ≤ l.length) : (x : Int) ∈ l.take j ↔ pos l (x : Int) < j := by
  have hg := h.get_pos (x : Int) (by omega) (by omega)
  constructor
  · intro hm
    obtain ⟨k, hk, e⟩ := getD_of_mem hm
    simp at hk
    have e2 : (l.take j).getD k 0 = l.getD k 0 := by simp [List.getD, List.getElem?_take, show k < j by omega]
    rw [e2] at e
    have := h.pos_get k (by omega)
    rw [e] at this
    omega
  · intro hp
    have e3 : (l.take j).getD (pos l (x : Int)) 0 = l.getD (pos l (x : Int)) 0 := by simp [List.getD, List.getElem?_take, hp]
    have e4 := mem_getD (l.take j) (pos l (x : Int)) (by simp; omega)
    rw [e3, hg.2] at e4
    exact e4
/-- the bales at the first places, as bits, all with all that has to be before them -/
structure SeeS (R : Nat → Nat → Prop) (n : Nat) (l : List Int) (i t : Nat) : Prop where
  lt : t < 128
  bits : ∀ x, x < n → (t.testBit x = true ↔ (x : Int) ∈ l.take i)
  ok : ∀ j, j < i → ∀ x, x < n → ∀ y : Nat, l.getD j 0 = (y : Int) → R x y → (x : Int) ∈ l.take j
variable {R : Nat → Nat → Prop}
theorem SeeS.start (n : Nat) (l : List Int) : SeeS R n l 0 0 := ⟨by omega, fun x _ => by simp, fun j hj => by omega⟩
theorem SeeS.step {n : Nat} {l : List Int} {i t y : Nat} (h : SeeS R n l i t) (hl : l.length = n) (hn : n ≤ 7) (hi : i < n) (hy : l.getD i 0 = (y : Int)) (hyn : y < n) (hr : ∀ x, x < n → R x y → t.testBit x = true) : SeeS R n l (i + 1) (t ||| 2 ^ y) := by
  refine ⟨?_, fun x hx => ?_, fun j hj x hx z hz hxz => ?_⟩
  · have h1 : (2 : Nat) ^ y < 2 ^ 7 := Nat.pow_lt_pow_right (by omega) (by omega)
    exact Nat.or_lt_two_pow (n := 7) h.lt h1
  · rw [or_bit, Bool.or_eq_true, h.bits x hx, take_succ_getD l i (by omega), List.mem_append, decide_eq_true_iff, List.mem_singleton, hy]
    constructor
    · rintro (h1 | rfl)
      · exact .inl h1
      · exact .inr rfl
    · rintro (h1 | h1)
      · exact .inl h1
      · exact .inr (by omega)
  · by_cases e : j = i
    · subst e
      rw [hy] at hz
      obtain rfl : y = z := by omega
      exact (h.bits x hx).1 (hr x hx hxz)
    · exact h.ok j (by omega) x hx z hz hxz
theorem SeeS.bad {n : Nat} {l : List Int} {i t y : Nat} (h : SeeS R n l i t) (hO : IsO l) (hl : l.length = n) (hi : i < n) (hy : l.getD i 0 = (y : Int)) (hyn : y < n) (hr : ¬ ∀ x, x < n → R x y → t.testBit x = true) : ¬ Lin n R l := fun hL => hr fun x hx hxy => by
  rw [h.bits x hx, pos_take hO (by omega) (by omega)]
  have h1 := hL x hx y hyn hxy
  unfold bef at h1
  have h2 := hO.pos_get i (by omega)
  rw [hy] at h2
  omega
theorem SeeS.fin {n : Nat} {l : List Int} {t : Nat} (h : SeeS R n l n t) (hO : IsO l) (hl : l.length = n) : Lin n R l := fun x hx y hy hxy => by
  obtain ⟨h1, h2⟩ := hO.get_pos (y : Int) (by omega) (by omega)
  have h3 := h.ok (pos l (y : Int)) (by omega) x hx y h2 hxy
  rw [pos_take hO (by omega) (by omega)] at h3
  exact h3
theorem noR_spo (n : Nat) : SPO n noR := ⟨fun _ _ h => h, fun _ _ _ _ _ _ h _ => h⟩
theorem G_le {n : Nat} (hn : n ≤ 7) : G n noR 0 ≤ 823543 := by
  rw [← count_all (noR_spo n)]
  have h0 := List.countP_le_length (p := fun l => decide (Lin n noR l)) (l := allO n n [])
  have h1 := allO_len n n []
  have h2 : n ^ n ≤ 7 ^ n := Nat.pow_le_pow_left hn n
  have h3 : (7 : Nat) ^ n ≤ 7 ^ 7 := Nat.pow_le_pow_right (by omega) hn
  have h4 : (7 : Nat) ^ 7 = 823543 := by decide
  omega
end Grade03
namespace Grade03
def matB (f : Nat → Nat → Bool) : List Bool := (List.range 49).map fun k => f (k / 7) (k % 7)
theorem matB_len (f : Nat → Nat → Bool) : (matB f).length = 49 := by simp [matB]
theorem matB_get (f : Nat → Nat → Bool) {x y : Nat} (hx : x < 7) (hy : y < 7) : (matB f).getD (x * 7 + y) false = f x y := by
  have h1 : (x * 7 + y) / 7 = x := by omega
  have h2 : (x * 7 + y) % 7 = y := by omega
  simp [matB, List.getD, show x * 7 + y < 49 by omega, h1, h2]
theorem matB_congr {f g : Nat → Nat → Bool} (h : ∀ p q, p < 7 → q < 7 → f p q = g p q) : matB f = matB g := by
  unfold matB
  refine List.map_congr_left fun k hk => ?_
  have := List.mem_range.1 hk
  exact h _ _ (by omega) (by omega)
theorem matB_set (f : Nat → Nat → Bool) {x y : Nat} (hx : x < 7) (hy : y < 7) (v : Bool) : (matB f).set (x * 7 + y) v = matB (fun p q => if p = x ∧ q = y then v else f p q) := by
  refine List.ext_getElem (by simp [matB]) fun k h1 h2 => ?_
  simp only [List.length_set, matB_len] at h1
  rw [List.getElem_set]
  simp only [matB, List.getElem_map, List.getElem_range]
  by_cases e : x * 7 + y = k
  · rw [if_pos e, if_pos (by omega)]
  · rw [if_neg e, if_neg (by omega)]
theorem matB_zero : matB (fun _ _ => false) = List.replicate 49 false := by decide
/-- those pairs that have been looked at -/
def iniF (U : Nat → Nat → Bool) (x y : Nat) : Nat → Nat → Bool := fun p q => decide (p < x ∨ (p = x ∧ q < y)) && U p q
theorem iniF_zero (U : Nat → Nat → Bool) : matB (iniF U 0 0) = List.replicate 49 false := by
  rw [← matB_zero]
  exact matB_congr fun p q _ _ => by simp [iniF]
theorem iniF_step (U : Nat → Nat → Bool) {x y : Nat} (hx : x < 7) (hy : y < 7) : (matB (iniF U x y)).set (x * 7 + y) (U x y) = matB (iniF U x (y + 1)) := by
  rw [matB_set _ hx hy]
  refine matB_congr fun p q _ _ => ?_
  unfold iniF
  by_cases e : p = x ∧ q = y
  · rw [if_pos e, e.1, e.2]; simp
  · rw [if_neg e]
    congr 1
    exact decide_eq_decide.2 (by omega)
theorem iniF_next {U : Nat → Nat → Bool} (h : Str U) (x : Nat) : matB (iniF U x x) = matB (iniF U (x + 1) 0) := by
  refine matB_congr fun p q _ _ => ?_
  unfold iniF
  cases e : U p q with
  | false => simp
  | true =>
    have := h p q e
    congr 1
    exact decide_eq_decide.2 (by omega)
theorem iniF_fin {U : Nat → Nat → Bool} {n : Nat} (h : ∀ p q, U p q = true → p < n) : matB (iniF U n 0) = matB U := by
  refine matB_congr fun p q _ _ => ?_
  unfold iniF
  cases e : U p q with
  | false => simp
  | true =>
    have := h p q e
    simp [this]
/-- one bale more as a middle one, in place, so far -/
def cloF (M : Nat → Nat → Bool) (y x z : Nat) : Nat → Nat → Bool := fun p q => if p < x ∨ (p = x ∧ q < z) then wS M y p q else M p q
theorem cloF_zero (M : Nat → Nat → Bool) (y : Nat) : matB (cloF M y 0 0) = matB M := matB_congr fun p q _ _ => by simp [cloF]
theorem cloF_col {M : Nat → Nat → Bool} (h : Str M) (y x z : Nat) : cloF M y x z x y = M x y := by
  unfold cloF
  split
  · exact wS_col h y x
  · rfl
theorem cloF_row {M : Nat → Nat → Bool} (h : Str M) (y x z q : Nat) : cloF M y x z y q = M y q := by
  unfold cloF
  split
  · exact wS_row h y q
  · rfl
theorem cloF_here (M : Nat → Nat → Bool) (y x z : Nat) : cloF M y x z x z = M x z := by
  unfold cloF
  rw [if_neg (by omega)]
theorem cloF_hit {M : Nat → Nat → Bool} {y x z : Nat} (hx : x < 7) (hz : z < 7) (h : M x y = true ∧ M y z = true) : (matB (cloF M y x z)).set (x * 7 + z) true = matB (cloF M y x (z + 1)) := by
  rw [matB_set _ hx hz]
  refine matB_congr fun p q _ _ => ?_
  unfold cloF
  by_cases e : p = x ∧ q = z
  · rw [if_pos e, e.1, e.2, if_pos (by omega)]
    exact (wS_or.2 (.inr h)).symm
  · rw [if_neg e]
    by_cases e2 : p < x ∨ (p = x ∧ q < z)
    · rw [if_pos e2, if_pos (by omega)]
    · rw [if_neg e2, if_neg (by omega)]
theorem cloF_miss {M : Nat → Nat → Bool} {y x z : Nat} (h : ¬ (M x y = true ∧ M y z = true)) : matB (cloF M y x z) = matB (cloF M y x (z + 1)) := by
  refine matB_congr fun p q _ _ => ?_
  unfold cloF
  by_cases e : p = x ∧ q = z
  · rw [e.1, e.2, if_neg (by omega), if_pos (by omega), Bool.eq_iff_iff, wS_or]
    exact ⟨.inl, fun h2 => h2.elim id fun h3 => absurd h3 h⟩
  · by_cases e2 : p < x ∨ (p = x ∧ q < z)
    · rw [if_pos e2, if_pos (by omega)]
    · rw [if_neg e2, if_neg (by omega)]
/-- within the first n -/
def Bnd (n : Nat) (M : Nat → Nat → Bool) : Prop := ∀ p q, M p q = true → p < n ∧ q < n
theorem wS_bnd {n : Nat} {M : Nat → Nat → Bool} (h : Bnd n M) (y : Nat) : Bnd n (wS M y) := fun p q hpq => by
  rcases wS_or.1 hpq with h1 | ⟨h1, h2⟩
  · exact h p q h1
  · exact ⟨(h p y h1).1, (h y q h2).2⟩
theorem wK_bnd {n : Nat} {M : Nat → Nat → Bool} (h : Bnd n M) : ∀ y, Bnd n (wK M y)
  | 0 => h
  | y + 1 => wS_bnd (wK_bnd h y) y
theorem bnd_false {n : Nat} {M : Nat → Nat → Bool} (h : Bnd n M) {p q : Nat} (hpq : ¬ (p < n ∧ q < n)) : M p q = false := by
  cases e : M p q with
  | false => rfl
  | true => exact absurd (h p q e) hpq
theorem cloF_next {n : Nat} {M : Nat → Nat → Bool} (h : Bnd n M) (y x : Nat) : matB (cloF M y x n) = matB (cloF M y (x + 1) 0) := by
  refine matB_congr fun p q _ _ => ?_
  unfold cloF
  by_cases e : p < x ∨ (p = x ∧ q < n)
  · rw [if_pos e, if_pos (by omega)]
  · rw [if_neg e]
    by_cases e2 : p < x + 1 ∨ (p = x + 1 ∧ q < 0)
    · rw [if_pos e2, bnd_false h (by omega), bnd_false (wS_bnd h y) (by omega)]
    · rw [if_neg e2]
theorem cloF_fin {n : Nat} {M : Nat → Nat → Bool} (h : Bnd n M) (y : Nat) : matB (cloF M y n 0) = matB (wS M y) := by
  refine matB_congr fun p q _ _ => ?_
  unfold cloF
  by_cases e : p < n ∨ (p = n ∧ q < 0)
  · rw [if_pos e]
  · rw [if_neg e, bnd_false h (by omega), bnd_false (wS_bnd h y) (by omega)]
theorem U2_bnd (a b : List Int) : Bnd a.length (U2 a b) := fun p q h => by
  obtain ⟨h1, h2, _⟩ := of_decide_eq_true h
  omega
theorem join_spo {a b : List Int} (ha : IsO a) (hb : IsO b) (hl : b.length = a.length) : SPO a.length (relT (wK (U2 a b) a.length)) :=
  relT_spo (wK_str (U2_str a b) a.length) (fun p m q hm => wK_tr (U2_str a b) a.length p m q hm) (wK_coc (U2_str a b) (U2_coc ha hb hl) a.length)
end Grade03
