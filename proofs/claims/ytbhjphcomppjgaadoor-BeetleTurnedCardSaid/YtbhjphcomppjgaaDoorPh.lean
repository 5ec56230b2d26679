/- Plain facts of chapter 9: outlines by lists; whoever got beetles is asked about its neighbours. -/
import Derived.Test.YtbhjphcomppjgaaDoorPg
namespace Beetle09
set_option maxRecDepth 100000
/-- The outline of a list of bales of a set. -/
def outlL (R C s : Nat) (l : List Nat) : Int := (l.map fun n => 4 - (cnt R C s n : Int)).sum
theorem outlL_app (R C s : Nat) (a b : List Nat) : outlL R C s (a ++ b) = outlL R C s a + outlL R C s b := by
  unfold outlL; rw [List.map_append, List.sum_append]
theorem outlL_one (R C s n : Nat) : outlL R C s [n] = 4 - (cnt R C s n : Int) := by simp [outlL]
theorem outlL_bd (R C s : Nat) : ∀ l : List Nat, 0 ≤ outlL R C s l ∧ outlL R C s l ≤ 4 * l.length
  | [] => by simp [outlL]
  | n :: l => by
    have ih := outlL_bd R C s l
    have h := cnt_le4 R C s n
    have e : outlL R C s (n :: l) = (4 - (cnt R C s n : Int)) + outlL R C s l := rfl
    rw [e, List.length_cons]; omega
theorem els_succ (N s : Nat) : els (N + 1) s = els N s ++ if s.testBit N then [N] else [] := by
  unfold els
  rw [List.range_succ, List.filter_append]
  congr 1
  cases h : s.testBit N <;> simp [h]
theorem outlL_els (R C s : Nat) : ∀ N, outlL R C s (els N s) = sm (fun n => if s.testBit n then 4 - (cnt R C s n : Int) else 0) N
  | 0 => rfl
  | N + 1 => by
    rw [els_succ, outlL_app, sm, outlL_els R C s N]
    cases s.testBit N
    · simp [outlL]
    · simp [outlL]
theorem outl_els {R C s : Nat} (h25 : R * C ≤ 25) (hs : s < 2 ^ (R * C)) : outlL R C s (els 25 s) = outl R C s := by
  rw [els_top hs h25, outlL_els]; rfl
theorem outlL_take (R C s : Nat) (l : List Nat) (i : Nat) (hi : i < l.length) : outlL R C s (l.take (i + 1)) = outlL R C s (l.take i) + (4 - (cnt R C s (l.getD i 0) : Int)) := by
  rw [List.take_succ_eq_append_getElem hi, outlL_app, outlL_one]
  simp [List.getD, hi]
theorem outlL_perm {R C s : Nat} {a b : List Nat} (h : a.Perm b) : outlL R C s a = outlL R C s b := by
  induction h with
  | nil => rfl
  | cons x _ ih => simp only [outlL, List.map_cons, List.sum_cons] at *; rw [ih]
  | swap x y l => simp only [outlL, List.map_cons, List.sum_cons]; omega
  | trans _ _ ih1 ih2 => rw [ih1, ih2]

/-- What spread keeps: some are reached; all that could get beetles are beside one of a list. -/
structure SprS (R C z s r : Nat) (todo : List Nat) (rest : List Nat) : Prop where
  lt : r < 2 ^ (R * C)
  sub : Sub s r
  fin : Sub r (fin R C z s)
  mem : ∀ n ∈ todo, n < R * C
  cl : ∀ m, m < R * C → gets R C z r m = true → (∃ n ∈ todo, m ∈ nb R C n) ∨ m ∈ rest
  new : ∀ m ∈ rest, m < R * C ∧ r.testBit m = false ∧ z.testBit m = false
  nd : rest.Nodup
theorem gets_of {R C z r m : Nat} (h1 : r.testBit m = false) (h2 : z.testBit m = false) (h3 : 2 ≤ cnt R C r m) : gets R C z r m = true := by
  simp [gets, h1, h2, h3]
theorem SprS.start {R C z s : Nat} (hs : Sd R C) (h : s < 2 ^ (R * C)) : SprS R C z s s (els 25 s) [] where
  lt := h
  sub := Sub.refl s
  fin := sub_fin R C z s
  mem := fun n hn => bit_lt h (mem_els.1 hn).2
  cl := fun m hm hg => by
    have h3 := (gets_not hg).2.2
    have h4 : 0 < cnt R C s m := by omega
    obtain ⟨k, hk, hb⟩ := List.countP_pos_iff.1 h4
    have hkl := nb_lt hs hm hk
    exact Or.inl ⟨k, mem_els.2 ⟨by have := hs.n25; omega, hb⟩, (nb_sym hs hm hkl).1 hk⟩
  new := fun m hm => by simp at hm
  nd := List.nodup_nil
/-- One is taken from the list: its neighbours that can get beetles are asked. -/
theorem SprS.pop {R C z s r n : Nat} {todo : List Nat} (h : SprS R C z s r (todo ++ [n]) []) (hs : Sd R C) (hz : z < 4294967296) : SprS R C z s r todo (els 25 ((nbS R C n &&& (4294967295 - r)) &&& (4294967295 - z))) := by
  have hn := h.mem n (by simp)
  have nb32 : ∀ q m, q < 4294967296 → m < 32 → (4294967295 - q).testBit m = !q.testBit m := fun q m hq hm => by
    have e : 4294967295 - q = 2 ^ 32 - (q + 1) := by
      have : (2 : Nat) ^ 32 = 4294967296 := by decide
      omega
    rw [e, Nat.testBit_two_pow_sub_succ (by omega)]
    simp [hm]
  have hr32 : r < 4294967296 := Nat.lt_of_lt_of_le (lt25 h.lt hs.n25) (by decide)
  have key : ∀ m, m ∈ els 25 ((nbS R C n &&& (4294967295 - r)) &&& (4294967295 - z)) → m ∈ nb R C n ∧ (4294967295 - r).testBit m = true ∧ (4294967295 - z).testBit m = true := fun m hm => by
    have h2 := (mem_els.1 hm).2
    rw [Nat.testBit_and, Nat.testBit_and, Bool.and_eq_true, Bool.and_eq_true] at h2
    exact ⟨(nbS_bit hs hn).1 h2.1.1, h2.1.2, h2.2⟩
  refine ⟨h.lt, h.sub, h.fin, fun n hn => h.mem n (List.mem_append_left _ hn), fun m hm hg => ?_, fun m hm => ?_, els_nodup _ _⟩
  · rcases h.cl m hm hg with ⟨k, hk, hb⟩ | hk
    · rcases List.mem_append.1 hk with hk | hk
      · exact Or.inl ⟨k, hk, hb⟩
      · rw [List.mem_singleton] at hk
        subst hk
        obtain ⟨g1, g2, _⟩ := gets_not hg
        have hm25 : m < 25 := by have := hs.n25; omega
        refine Or.inr (mem_els.2 ⟨hm25, ?_⟩)
        rw [Nat.testBit_and, Nat.testBit_and, (nbS_bit hs hn).2 hb, nb32 r m hr32 (by omega), g1]
        rw [nb32 z m hz (by omega), g2]; rfl
    · simp at hk
  · obtain ⟨k1, k2, k3⟩ := key m hm
    have hmN := nb_lt hs hn k1
    have hm25 : m < 25 := by have := hs.n25; omega
    refine ⟨hmN, ?_, ?_⟩
    · rw [nb32 r m hr32 (by omega)] at k2; simpa using k2
    · rw [nb32 z m hz (by omega)] at k3; simpa using k3
/-- One of those that are asked gets beetles. -/
theorem SprS.hit {R C z s r m : Nat} {todo rest : List Nat} (h : SprS R C z s r todo (m :: rest)) (hs : Sd R C) (h2 : 2 ≤ cnt R C r m) : SprS R C z s (r ||| 2 ^ m) (todo ++ [m]) rest ∧ pcN 25 (r ||| 2 ^ m) = pcN 25 r + 1 := by
  obtain ⟨hm, g1, g2⟩ := h.new m List.mem_cons_self
  have hnd := List.nodup_cons.1 h.nd
  have hg := gets_of g1 g2 h2
  have h25 := hs.n25
  refine ⟨⟨ins_lt h.lt hm, fun i hi => by rw [bit_ins, h.sub i hi]; rfl, fun i hi => ?_, fun n hn => ?_, fun k hk hgk => ?_, fun k hk => ?_, hnd.2⟩, ?_⟩
  · rw [bit_ins, Bool.or_eq_true, decide_eq_true_eq] at hi
    rcases hi with hi | hi
    · exact h.fin i hi
    · subst hi
      have := stp_sub (R := R) (C := C) (Sub.refl z) h.fin
      rw [stp_fin] at this
      exact this m (by rw [stp_bit, hg]; simp [hm])
  · rcases List.mem_append.1 hn with hn | hn
    · exact h.mem n hn
    · rw [List.mem_singleton.1 hn]; exact hm
  · obtain ⟨k1, k2, k3⟩ := gets_not hgk
    rw [bit_ins, Bool.or_eq_false_iff] at k1
    by_cases hadj : m ∈ nb R C k
    · exact Or.inl ⟨m, by simp, (nb_sym hs hk hm).1 hadj⟩
    · have hc := cnt_ins hs hk hm g1
      rw [if_neg hadj] at hc
      rcases h.cl k hk (gets_of k1.1 k2 (by omega)) with ⟨n, hn, hb⟩ | hr
      · exact Or.inl ⟨n, List.mem_append_left _ hn, hb⟩
      · rcases List.mem_cons.1 hr with e | hr
        · subst e; simp at k1
        · exact Or.inr hr
  · obtain ⟨j1, j2, j3⟩ := h.new k (List.mem_cons_of_mem _ hk)
    refine ⟨j1, ?_, j3⟩
    rw [bit_ins, j2]
    exact decide_eq_false fun e => hnd.1 (e ▸ hk)
  · have key : ∀ N, (m < N → pcN N (r ||| 2 ^ m) = pcN N r + 1) ∧ (N ≤ m → pcN N (r ||| 2 ^ m) = pcN N r) := fun N => by
      induction N with
      | zero => exact ⟨fun h => by omega, fun _ => rfl⟩
      | succ N ih =>
        have e : ∀ t, pcN (N + 1) t = pcN N t + if t.testBit N then 1 else 0 := fun t => by
          unfold pcN; rw [List.range_succ, List.countP_append, List.countP_singleton]
        rw [e, e, bit_ins]
        constructor
        · intro h
          by_cases hN : m = N
          · subst hN; rw [ih.2 (Nat.le_refl _), g1]; simp
          · rw [ih.1 (by omega)]; simp [hN]; omega
        · intro h
          rw [ih.2 (by omega)]; simp [show ¬ m = N by omega]
    exact (key 25).1 (by omega)
theorem SprS.miss {R C z s r m : Nat} {todo rest : List Nat} (h : SprS R C z s r todo (m :: rest)) (h2 : ¬ 2 ≤ cnt R C r m) : SprS R C z s r todo rest :=
  ⟨h.lt, h.sub, h.fin, h.mem, fun k hk hg => by
    rcases h.cl k hk hg with hh | hh
    · exact Or.inl hh
    · rcases List.mem_cons.1 hh with e | hh
      · subst e; exact absurd (gets_not hg).2.2 h2
      · exact Or.inr hh, fun k hk => h.new k (List.mem_cons_of_mem _ hk), (List.nodup_cons.1 h.nd).2⟩
theorem SprS.done {R C z s r : Nat} (h : SprS R C z s r [] []) : r = Beetle09.fin R C z s :=
  Sub.antisymm h.fin (fin_least h.sub fun m hm => by
    cases hg : gets R C z r m with
    | false => rfl
    | true =>
      rcases h.cl m hm hg with ⟨n, hn, _⟩ | hn
      · simp at hn
      · simp at hn)
end Beetle09
