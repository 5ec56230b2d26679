/- Plain functions: Join and Meet among all divisions. -/
import Derived.Test.YtjedmiegcbdedaaPv
import Derived.Test.YtjedmiegcbdedaaPg
import Derived.Test.YtjedmiegcbdedaaPk
namespace Store11
/-- a is finer than b -/
def finP (a b : List Int) : Prop := ∀ i, i < a.length → ∀ k, k < i → a.getD i 0 = a.getD k 0 → b.getD i 0 = b.getD k 0
instance (a b : List Int) : Decidable (finP a b) := inferInstanceAs (Decidable (∀ i, i < a.length → ∀ k, k < i → _ → _))
def finB (a b : List Int) : Bool := decide (finP a b)
theorem finP_all {a b : List Int} (h : finP a b) (i k : Nat) (hi : i < a.length) (hk : k < a.length) (e : a.getD i 0 = a.getD k 0) : b.getD i 0 = b.getD k 0 := by
  rcases Nat.lt_trichotomy i k with h1 | h1 | h1
  · exact (h k hk i h1 e.symm).symm
  · rw [h1]
  · exact h i hi k h1 e
theorem finerB_fin {a b : List Int} (h : bothE a b = 0) : finerB a b = finB a b := by
  unfold finB
  by_cases hf : finP a b
  · rw [finer_true h (fun i k hi hk e => finP_all hf i k hi hk e)]; simp [hf]
  · have : ∃ i k, i < a.length ∧ k < a.length ∧ a.getD i 0 = a.getD k 0 ∧ b.getD i 0 ≠ b.getD k 0 := by
      refine Classical.byContradiction fun hn => hf fun i hi k hk e => Decidable.byContradiction fun hne => hn ⟨i, k, hi, by omega, e, hne⟩
    obtain ⟨i, k, h1, h2, h3, h4⟩ := this
    rw [finer_false h i k h1 h2 h3 h4]; simp [hf]
theorem nine_of {a b : List Int} (h : bothE a b = 0) : Nine a b a.length := by
  obtain ⟨h1, h2, h3⟩ := both_parts h
  exact ⟨fun k hk => div_bound h1 k hk, fun k hk => div_bound h2 k (by omega)⟩
structure JoinIs (a b J : List Int) : Prop where
  eq : joinL a b = J
  chk : chkL J = 0
  len : J.length = a.length
  iff : ∀ i k, i < a.length → k < a.length → (J.getD i 0 = J.getD k 0 ↔ RT a b a.length i = RT a b a.length k)
theorem join_is {a b : List Int} (h : bothE a b = 0) : JoinIs a b (joinR a b) := by
  obtain ⟨h1, h2, h3⟩ := both_parts h
  have hs := chkL_size h1
  have hK : (joinK a b).length = a.length := by simp [joinK]
  have hl : (joinR a b).length = a.length := by rw [joinR, divL_len _ 0, hK]
  have hg : ∀ i, i < a.length → (joinK a b).getD i 0 = ((RT a b a.length i : Nat) : Int) := fun i hi => by
    simp [joinK, RT, List.getD, hi]
  refine ⟨by rw [joinL, if_pos h], divI_chk _ (by omega) (by omega), hl, fun i k hi hk => ?_⟩
  rw [joinR, divL_iff _ 0 i k (by omega) (by omega), hg i hi, hg k hk]
  omega
theorem same_div {a b : List Int} (ha : chkL a = 0) (hb : chkL b = 0) (hl : a.length = b.length) (h : ∀ i k, i < a.length → k < a.length → (a.getD i 0 = a.getD k 0 ↔ b.getD i 0 = b.getD k 0)) : a = b := by
  rw [← divL_id ha, ← divL_id hb]
  exact divL_congr a b 0 0 hl h
structure Latt (a b J M : List Int) : Prop where
  jl : J.length = a.length
  ml : M.length = a.length
  jc : chkL J = 0
  mc : chkL M = 0
  aj : finB a J = true
  bj : finB b J = true
  ma : finB M a = true
  mb : finB M b = true
  up : ∀ l : List Int, l.length = a.length → finB a l = true → finB b l = true → finB J l = true
  down : ∀ l : List Int, l.length = a.length → finB l a = true → finB l b = true → finB l M = true
  isj : finB a b = true → J = b
  ism : finB a b = true → M = a
theorem latt {a b : List Int} (h : bothE a b = 0) : Latt a b (joinR a b) (meetR a b) := by
  obtain ⟨h1, h2, h3⟩ := both_parts h
  obtain ⟨_, jc, jl, ji⟩ := join_is h
  have hz := zip2_len a b h3
  have hs := chkL_size h1
  have ml : (meetR a b).length = a.length := by rw [meetR, divL_len _ [], hz]
  have mc : chkL (meetR a b) = 0 := divL_chk _ (by omega) (by omega) (by rw [← meetR, ml, hz])
  have mi : ∀ i k, i < a.length → k < a.length → ((meetR a b).getD i 0 = (meetR a b).getD k 0 ↔ a.getD i 0 = a.getD k 0 ∧ b.getD i 0 = b.getD k 0) := fun i k hi hk => by
    rw [meetR, divL_iff _ [] i k (by omega) (by omega), zip2_get a b i hi (by omega), zip2_get a b k hk (by omega)]
    simp
  have up : ∀ l : List Int, l.length = a.length → finB a l = true → finB b l = true → finB (joinR a b) l = true := fun l hl ha hb => by
    have ha := of_decide_eq_true ha
    have hb := of_decide_eq_true hb
    refine decide_eq_true fun i hi k hk e => ?_
    have e2 := (ji i k (by omega) (by omega)).1 e
    exact (RT_closed (nine_of h) (fun x => l.getD x 0 = l.getD i 0) (fun x y hx hy hp hE => by
      rcases hE with hE | hE
      · exact (finP_all ha x y hx hy hE).symm.trans hp
      · exact (finP_all hb x y (by omega) (by omega) hE).symm.trans hp) (by omega) (by omega) e2 rfl).symm
  have aj : finB a (joinR a b) = true := decide_eq_true fun i hi k hk e => (ji i k hi (by omega)).2 (RT_edge hi (by omega) (.inl e))
  have bj : finB b (joinR a b) = true := decide_eq_true fun i hi k hk e => (ji i k (by omega) (by omega)).2 (RT_edge (by omega) (by omega) (.inr e))
  refine ⟨jl, ml, jc, mc, aj, bj, decide_eq_true fun i hi k hk e => ((mi i k (by omega) (by omega)).1 e).1, decide_eq_true fun i hi k hk e => ((mi i k (by omega) (by omega)).1 e).2, up, fun l hl ha hb => ?_, fun hab => ?_, fun hab => ?_⟩
  · have ha := of_decide_eq_true ha
    have hb := of_decide_eq_true hb
    exact decide_eq_true fun i hi k hk e => (mi i k (by omega) (by omega)).2 ⟨ha i hi k hk e, hb i hi k hk e⟩
  · have hjb := of_decide_eq_true (up b (by omega) hab (decide_eq_true fun i hi k hk e => e))
    have hbj := of_decide_eq_true bj
    exact same_div jc h2 (by omega) fun i k hi hk => ⟨fun e => finP_all hjb i k (by omega) (by omega) e, fun e => finP_all hbj i k (by omega) (by omega) e⟩
  · have hab := of_decide_eq_true hab
    exact same_div mc h1 ml fun i k hi hk => ⟨fun e => ((mi i k (by omega) (by omega)).1 e).1, fun e => (mi i k (by omega) (by omega)).2 ⟨e, finP_all hab i k (by omega) (by omega) e⟩⟩
/-- all that the law asks -/
theorem latt_own {a b : List Int} (h : bothE a b = 0) : bothE (meetR a b) a = 0 ∧ bothE (joinR a b) b = 0 ∧ joinR (meetR a b) a = a ∧ meetR (joinR a b) b = b := by
  obtain ⟨h1, h2, h3⟩ := both_parts h
  have L := latt h
  have e1 := both_of L.mc h1 L.ml
  have e2 := both_of L.jc h2 (by rw [L.jl, h3])
  refine ⟨e1, e2, (latt e1).isj L.ma, ?_⟩
  have L2 := latt e2
  have hjm := of_decide_eq_true L2.mb
  have hd := of_decide_eq_true (L2.down b (by rw [L.jl, h3]) L.bj (decide_eq_true fun i hi k hk e => e))
  exact same_div L2.mc h2 (by rw [L2.ml, L.jl, h3]) fun i k hi hk => ⟨fun e => finP_all hjm i k hi hk e, fun e => finP_all hd i k (by rw [L2.ml, L.jl] at hi; omega) (by rw [L2.ml, L.jl] at hk; omega) e⟩
theorem goL_len : ∀ (m : Nat) (pre : List Int) (k : Nat) (l : List Int), l ∈ goL m pre k → l.length = pre.length + m
  | 0, pre, k, l, h => by simp [goL] at h; simp [h]
  | m + 1, pre, k, l, h => by
    rw [goL, List.mem_flatMap] at h
    obtain ⟨r, _, h⟩ := h
    have := goL_len m _ _ l h
    simp at this
    omega
theorem allL_len {n i : Nat} {l : List Int} (h : (allL n)[i]? = some l) : l.length = n := by
  have := goL_len n [] 0 l (List.mem_of_getElem? h)
  simpa using this
end Store11
