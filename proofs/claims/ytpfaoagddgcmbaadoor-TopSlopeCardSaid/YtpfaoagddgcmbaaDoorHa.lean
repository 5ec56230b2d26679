/- Plain facts of chapter 2: heaps that can be turned, one an hour. No program in sight. -/
import Init
namespace Heap02
abbrev Hp := Int × Int
/-- There are hours from h on, one for each heap, all different. -/
def Feas (h : Int) (L : List Hp) : Prop := ∃ Z : List (Hp × Int), (Z.map Prod.fst).Perm L ∧ (Z.map Prod.snd).Nodup ∧ ∀ z ∈ Z, h ≤ z.2 ∧ z.1.1 ≤ z.2 ∧ z.2 ≤ z.1.2
variable {h : Int} {L L' A B : List Hp} {x : Hp}
theorem Feas.perm (hf : Feas h L) (hp : L.Perm L') : Feas h L' := by
  obtain ⟨Z, h1, h2, h3⟩ := hf; exact ⟨Z, h1.trans hp, h2, h3⟩
theorem Feas.perm_iff (hp : L.Perm L') : Feas h L ↔ Feas h L' := ⟨fun hf => hf.perm hp, fun hf => hf.perm hp.symm⟩
theorem pick {Z : List (Hp × Int)} (hp : (Z.map Prod.fst).Perm (x :: L)) : ∃ (t : Int) (Z' : List (Hp × Int)), Z.Perm ((x, t) :: Z') ∧ (Z'.map Prod.fst).Perm L := by
  have hx : x ∈ Z.map Prod.fst := hp.symm.subset (by simp)
  obtain ⟨z, hz, rfl⟩ := List.mem_map.1 hx
  obtain ⟨s, t, rfl⟩ := List.append_of_mem hz
  refine ⟨z.2, s ++ t, List.perm_middle, ?_⟩
  have h2 : ((s ++ z :: t).map Prod.fst).Perm (z.1 :: (s ++ t).map Prod.fst) := (List.perm_middle (a := z)).map Prod.fst
  exact (h2.symm.trans hp).cons_inv
theorem reorder : ∀ (L : List Hp) (Z : List (Hp × Int)), (Z.map Prod.fst).Perm L → ∃ Z' : List (Hp × Int), Z'.Perm Z ∧ Z'.map Prod.fst = L
  | [], Z, hp => ⟨[], by
      have : Z = [] := by simpa using hp.eq_nil
      rw [this], rfl⟩
  | x :: L, Z, hp => by
    obtain ⟨t, Z1, h1, h2⟩ := pick hp
    obtain ⟨Z2, h3, h4⟩ := reorder L Z1 h2
    exact ⟨(x, t) :: Z2, (h3.cons _).trans h1.symm, by simp [h4]⟩
theorem Feas.order (hf : Feas h L) : ∃ Z : List (Hp × Int), Z.map Prod.fst = L ∧ (Z.map Prod.snd).Nodup ∧ ∀ z ∈ Z, h ≤ z.2 ∧ z.1.1 ≤ z.2 ∧ z.2 ≤ z.1.2 := by
  obtain ⟨Z, h1, h2, h3⟩ := hf
  obtain ⟨Z', h4, h5⟩ := reorder L Z h1
  exact ⟨Z', h5, ((h4.map Prod.snd).nodup_iff).2 h2, fun z hz => h3 z (h4.subset hz)⟩
theorem Feas.mono {h' : Int} (hh : h' ≤ h) (hf : Feas h L) : Feas h' L := by
  obtain ⟨Z, h1, h2, h3⟩ := hf
  exact ⟨Z, h1, h2, fun z hz => ⟨Int.le_trans hh (h3 z hz).1, (h3 z hz).2⟩⟩
theorem Feas.nil : Feas h [] := ⟨[], by simp, by simp, by simp⟩
theorem Feas.skip (hno : ∀ y ∈ L, h < y.1) : Feas h L ↔ Feas (h + 1) L := by
  refine ⟨fun hf => ?_, Feas.mono (by omega)⟩
  obtain ⟨Z, h1, h2, h3⟩ := hf
  refine ⟨Z, h1, h2, fun z hz => ?_⟩
  have h4 := h3 z hz
  have h5 := hno z.1 (h1.subset (List.mem_map_of_mem hz))
  exact ⟨by omega, h4.2⟩
theorem Feas.dead (hx : x ∈ L) (hd : x.2 < h) : ¬ Feas h L := by
  rintro ⟨Z, h1, h2, h3⟩
  obtain ⟨z, hz, rfl⟩ := List.mem_map.1 (h1.symm.subset hx)
  have := h3 z hz
  omega
theorem Feas.take (hlo : x.1 ≤ h) (hhi : h ≤ x.2) (hA : ∀ y ∈ A, h < y.1) (hB : ∀ y ∈ B, x.2 ≤ y.2) : Feas h (A ++ x :: B) ↔ Feas (h + 1) (A ++ B) := by
  constructor
  · intro hf
    obtain ⟨Z, h1, h2, h3⟩ := hf.perm List.perm_middle
    obtain ⟨t, Z1, h4, h5⟩ := pick h1
    have h6 : (t :: Z1.map Prod.snd).Nodup := ((h4.map Prod.snd).nodup_iff).1 h2
    rw [List.nodup_cons] at h6
    have hZ1 : ∀ z ∈ Z1, h ≤ z.2 ∧ z.1.1 ≤ z.2 ∧ z.2 ≤ z.1.2 := fun z hz => h3 z (h4.symm.subset (by simp [hz]))
    have ht := h3 (x, t) (h4.symm.subset (by simp))
    simp only [] at ht
    by_cases hz : ∃ z ∈ Z1, z.2 = h
    · obtain ⟨z, hz, hzh⟩ := hz
      obtain ⟨s, u, rfl⟩ := List.append_of_mem hz
      have hzx : z.1 ∈ A ++ B := h5.subset (List.mem_map_of_mem hz)
      have hz1 := hZ1 z hz
      have hzB : z.1 ∈ B := by
        rcases List.mem_append.1 hzx with h7 | h7
        · have := hA _ h7; omega
        · exact h7
      have hzt := hB _ hzB
      have htne : t ≠ h := fun e => h6.1 (by rw [e, ← hzh]; exact List.mem_map_of_mem hz)
      have hn := h6.2
      simp only [List.map_append, List.map_cons] at hn
      have hn2 : (z.2 :: (s.map Prod.snd ++ u.map Prod.snd)).Nodup := (List.perm_middle.nodup_iff).1 hn
      rw [List.nodup_cons] at hn2
      have hmem : t ∉ s.map Prod.snd ++ u.map Prod.snd := fun hm => h6.1 (by
        simp only [List.map_append, List.map_cons]
        exact List.perm_middle.symm.subset (List.mem_cons_of_mem _ hm))
      refine ⟨s ++ (z.1, t) :: u, ?_, ?_, ?_⟩
      · simpa using h5
      · simp only [List.map_append, List.map_cons]
        exact (List.perm_middle.nodup_iff).2 (List.nodup_cons.2 ⟨hmem, hn2.2⟩)
      · intro y hy
        rcases List.mem_cons.1 (List.perm_middle.subset hy) with rfl | hy
        · simp only []; omega
        · have hy1 := hZ1 y (List.perm_middle.symm.subset (List.mem_cons_of_mem _ hy))
          have hne : y.2 ≠ z.2 := fun e => hn2.1 (by rw [← e, ← List.map_append]; exact List.mem_map_of_mem hy)
          exact ⟨by omega, hy1.2⟩
    · refine ⟨Z1, h5, h6.2, fun z hz1 => ?_⟩
      have h7 := hZ1 z hz1
      have hne : z.2 ≠ h := fun e => hz ⟨z, hz1, e⟩
      exact ⟨by omega, h7.2⟩
  · rintro ⟨Z, h1, h2, h3⟩
    refine Feas.perm ⟨(x, h) :: Z, ?_, ?_, ?_⟩ List.perm_middle.symm
    · simpa using h1
    · rw [List.map_cons, List.nodup_cons]
      refine ⟨fun hm => ?_, h2⟩
      obtain ⟨z, hz, e⟩ := List.mem_map.1 hm
      have := (h3 z hz).1
      simp only [] at e
      omega
    · intro z hz
      rcases List.mem_cons.1 hz with rfl | hz
      · exact ⟨Int.le_refl _, hlo, hhi⟩
      · exact ⟨by have := (h3 z hz).1; omega, (h3 z hz).2⟩
/-- hours make it feasible -/
theorem feas_of {g : List Int} (hl : g.length = L.length) (hn : g.Nodup) (hb : ∀ i, i < L.length → h ≤ g.getD i 0 ∧ (L.getD i (0, 0)).1 ≤ g.getD i 0 ∧ g.getD i 0 ≤ (L.getD i (0, 0)).2) : Feas h L := by
  refine ⟨L.zip g, by rw [List.map_fst_zip (by omega)], by rw [List.map_snd_zip (by omega)]; exact hn, fun z hz => ?_⟩
  obtain ⟨i, hi, rfl⟩ := List.mem_iff_getElem.1 hz
  have hi2 : i < L.length := by simp at hi; omega
  have := hb i hi2
  simpa [List.getD, hi2, show i < g.length by omega] using this
theorem Feas.left (hf : Feas h (A ++ B)) : Feas h A := by
  obtain ⟨Z, h1, h2, h3⟩ := hf.order
  obtain ⟨Z1, Z2, rfl, h4, h5⟩ := List.map_eq_append_iff.1 h1
  refine ⟨Z1, by rw [h4], ?_, fun z hz => h3 z (by simp [hz])⟩
  rw [List.map_append] at h2
  exact (List.nodup_append.1 h2).1
theorem Feas.fix (hf : Feas h (A ++ x :: B)) : ∃ t, h ≤ t ∧ x.1 ≤ t ∧ t ≤ x.2 ∧ Feas h (A ++ (t, t) :: B) := by
  obtain ⟨Z, h1, h2, h3⟩ := hf.perm List.perm_middle
  obtain ⟨t, Z1, h4, h5⟩ := pick h1
  have ht := h3 (x, t) (h4.symm.subset (by simp))
  refine ⟨t, ht.1, ht.2.1, ht.2.2, Feas.perm ⟨((t, t), t) :: Z1, by simpa using h5, ?_, ?_⟩ List.perm_middle.symm⟩
  · exact ((h4.map Prod.snd).nodup_iff).1 h2
  · intro z hz
    rcases List.mem_cons.1 hz with rfl | hz
    · exact ⟨ht.1, Int.le_refl _, Int.le_refl _⟩
    · exact h3 z (h4.symm.subset (by simp [hz]))
theorem Feas.fixed {g : List Int} (hf : Feas h (g.map fun t => (t, t))) : g.Nodup := by
  obtain ⟨Z, h1, h2, h3⟩ := hf.order
  have e : Z.map Prod.snd = g := by
    have e1 : Z.map Prod.snd = (Z.map Prod.fst).map Prod.fst := by
      rw [List.map_map]
      refine List.map_congr_left fun z hz => ?_
      have hz2 : z.1 ∈ g.map fun t => (t, t) := by rw [← h1]; exact List.mem_map_of_mem hz
      obtain ⟨t, _, ht⟩ := List.mem_map.1 hz2
      have := h3 z hz
      rw [← ht] at this
      simp only [Function.comp, ← ht] at *
      omega
    rw [e1, h1, List.map_map]
    simp [Function.comp_def]
  rw [← e]; exact h2
end Heap02
