/- Plain laws of chapter 06: rollers counted one by one around the bench. -/
import Derived.Test.YthocenkedncoeaaPu
import Derived.Test.YthocenkedncoeaaSpecC
namespace Bench06

/-- the seats from the one behind a seat on, once around -/
def seatsN (n a : Nat) : List Nat := (List.range n).map fun d => (a + 1 + d) % n
def sitN (n : Nat) (G : List Bool) (a : Nat) : List Nat := (seatsN n a).filter fun x => !(G.getD x false)
/-- those who sit, from the one behind a seat on -/
def sits (n : Nat) (G : List Bool) (a : Nat) : List Int := (sitN n G a).map Int.ofNat

theorem seatsN_length (n a : Nat) : (seatsN n a).length = n := by simp [seatsN]
theorem seatsN_get (n a i : Nat) (hi : i < n) : (seatsN n a)[i]? = some ((a + 1 + i) % n) := by simp [seatsN, hi]
theorem seatsN_rot (n a d : Nat) (hd : d < n) : seatsN n ((a + 1 + d) % n) = (seatsN n a).drop (d + 1) ++ (seatsN n a).take (d + 1) := by
  apply List.ext_getElem?
  intro i
  by_cases hi : i < n
  · rw [seatsN_get n _ i hi]
    by_cases h : d + 1 + i < n
    · rw [List.getElem?_append_left (by simp [seatsN_length]; omega), List.getElem?_drop, seatsN_get n a _ h]
      congr 1
      rw [Nat.add_assoc, Nat.mod_add_mod]; congr 1; omega
    · rw [List.getElem?_append_right (by simp [seatsN_length]; omega), List.length_drop, seatsN_length, List.getElem?_take_of_lt (by omega), seatsN_get n a _ (by omega)]
      congr 1
      rw [Nat.add_assoc, Nat.mod_add_mod, show a + 1 + d + (1 + i) = a + 1 + (i - (n - (d + 1))) + n by omega, Nat.add_mod_right]
  · rw [List.getElem?_eq_none (by rw [seatsN_length]; omega), List.getElem?_eq_none (by simp [seatsN_length]; omega)]
theorem mem_seatsN (n a x : Nat) (hx : x ∈ seatsN n a) : x < n := by
  simp only [seatsN, List.mem_map, List.mem_range] at hx
  obtain ⟨d, hd, rfl⟩ := hx
  exact Nat.mod_lt _ (by omega)
theorem sits_start (n : Nat) (hn : 1 ≤ n) : sits n (List.replicate n false) (n - 1) = rng n := by
  have h1 : seatsN n (n - 1) = List.range n := by
    apply List.ext_getElem?
    intro i
    by_cases hi : i < n
    · rw [seatsN_get n _ i hi, List.getElem?_range hi, show n - 1 + 1 + i = i + n by omega, Nat.add_mod_right, Nat.mod_eq_of_lt hi]
    · rw [List.getElem?_eq_none (by rw [seatsN_length]; omega), List.getElem?_eq_none (by simp; omega)]
  have h2 : sitN n (List.replicate n false) (n - 1) = List.range n := by
    rw [sitN, h1, List.filter_eq_self]
    intro x hx
    simp only [List.mem_range] at hx
    simp [List.getD, hx]
  rw [sits, h2, rng]
/-- the next who sits -/
theorem sits_next (n : Nat) (G : List Bool) (a : Nat) (y : Int) (Bt : List Int) (h : sits n G a = y :: Bt) :
    ∃ d x : Nat, d < n ∧ x = (a + 1 + d) % n ∧ (x : Int) = y ∧ x < n ∧ G.getD x false = false ∧ (∀ d', d' < d → G.getD ((a + 1 + d') % n) false = true) ∧ sits n G x = Bt ++ [y] := by
  rw [sits, List.map_eq_cons_iff] at h
  obtain ⟨x, Bx, h, rfl, rfl⟩ := h
  have h0 := h
  rw [sitN, List.filter_eq_cons_iff] at h
  obtain ⟨L1, L2, hL, hn1, hp, hf⟩ := h
  have hlen := seatsN_length n a
  rw [hL] at hlen
  simp only [List.length_append, List.length_cons] at hlen
  have hd : L1.length < n := by omega
  have hx := seatsN_get n a L1.length hd
  rw [hL, List.getElem?_append_right (Nat.le_refl _), Nat.sub_self] at hx
  simp only [List.getElem?_cons_zero, Option.some.injEq] at hx
  have hrot := seatsN_rot n a L1.length hd
  rw [← hx] at hrot
  have e1 : (seatsN n a).drop (L1.length + 1) = L2 := by rw [hL]; simp
  have e2 : (seatsN n a).take (L1.length + 1) = L1 ++ [x] := by rw [hL, List.take_append, List.take_of_length_le (by omega)]; simp
  have hf1 : L1.filter (fun x => !(G.getD x false)) = [] := by
    rw [List.filter_eq_nil_iff]; exact hn1
  refine ⟨L1.length, x, hd, hx, rfl, by rw [hx]; exact Nat.mod_lt _ (by omega), by simpa using hp, ?_, ?_⟩
  · intro d' hd'
    have h1 := seatsN_get n a d' (by omega)
    rw [hL, List.getElem?_append_left hd'] at h1
    have h2 := hn1 _ (List.mem_of_getElem? h1)
    simpa using h2
  · rw [sits, sitN, hrot, e1, e2, List.filter_append, List.filter_append, hf1, hf]
    simp at hp
    simp [hp]
/-- one goes -/
theorem sits_gone (n : Nat) (G : List Bool) (x : Nat) (Bt : List Int) (hG : G.length = n) (hx : x < n) (h : sits n G x = Bt ++ [(x : Int)]) (hnd : (Bt ++ [(x : Int)]).Nodup) : sits n (G.set x true) x = Bt := by
  have hm : ∀ y : Nat, (G.set x true).getD y false = if x = y then true else G.getD y false := by
    intro y
    simp only [List.getD, List.getElem?_set]
    by_cases hy : x = y
    · subst hy; simp [hG, hx]
    · simp [hy]
  have e : sitN n (G.set x true) x = (sitN n G x).filter fun y => decide (y ≠ x) := by
    rw [sitN, sitN, List.filter_filter]
    apply List.filter_congr
    intro y _
    rw [hm]
    by_cases hy : x = y
    · simp [hy]
    · simp [hy, Ne.symm hy]
  have e2 : sits n (G.set x true) x = (sits n G x).filter fun y => decide (y ≠ (x : Int)) := by
    rw [sits, e, sits, List.filter_map]
    congr 1
    apply List.filter_congr
    intro y _
    simp only [Function.comp]
    by_cases hy : y = x
    · simp [hy]
    · have : (Int.ofNat y) ≠ (x : Int) := fun h => hy (Int.ofNat.inj h)
      rw [decide_eq_true hy, decide_eq_true this]
  rw [e2, h, List.filter_append]
  have hni : (x : Int) ∉ Bt := by
    rw [List.nodup_append] at hnd
    intro hx2
    exact hnd.2.2 _ hx2 _ (by simp) rfl
  rw [List.filter_eq_self.2 (fun y hy => by simp; rintro rfl; exact hni hy)]
  simp
theorem rotA_succ (B : List Int) (q : Nat) (hq : q < B.length) : rotA B q = B.getD q 0 :: (B.drop (q + 1) ++ B.take q) := by
  rw [rotA, drop_getD B q hq]; rfl
theorem rotA_up (B : List Int) (q : Nat) (hq : q < B.length) : (B.drop (q + 1) ++ B.take q) ++ [B.getD q 0] = rotA B (q + 1) := by
  rw [rotA, take_succ_getD B q hq, List.append_assoc]
theorem rotA_len (B : List Int) : rotA B B.length = B := by simp [rotA]
theorem rotA_mod (B : List Int) (j : Nat) (hm : 0 < B.length) : rotA B (j % B.length + 1) = rotA B ((j + 1) % B.length) := by
  have h := Nat.mod_lt j hm
  by_cases h1 : j % B.length + 1 = B.length
  · have hdm := Nat.div_add_mod j B.length
    have e1 : (j + 1) % B.length = 0 := by
      conv => lhs; rw [← hdm, Nat.add_assoc, h1, ← Nat.mul_succ, Nat.mul_mod_right]
    rw [h1, rotA_len, e1, rotA_zero]
  · have : (j + 1) % B.length = j % B.length + 1 := by
      have hdm := Nat.div_add_mod j B.length
      conv => lhs; rw [← hdm, Nat.add_assoc, Nat.mul_add_mod, Nat.mod_eq_of_lt (by omega)]
    rw [this]
/-- how often the one at the place i is counted, when j are counted of m -/
def ctr (m j : Nat) (i : Int) : Int := if i < 0 then 0 else ((j / m : Nat) : Int) + (if i < ((j % m : Nat) : Int) then 1 else 0)
theorem ctr_zero (m : Nat) (i : Int) : ctr m 0 i = 0 := by
  unfold ctr; simp; omega
theorem ctr_succ (m j : Nat) (i : Int) (hm : 0 < m) (hi : i < m) : ctr m (j + 1) i = ctr m j i + if i = ((j % m : Nat) : Int) then 1 else 0 := by
  have h := Nat.mod_lt j hm
  have hdm := Nat.div_add_mod j m
  unfold ctr
  by_cases h1 : j % m + 1 = m
  · have e1 : (j + 1) % m = 0 := by
      rw [show j + 1 = m * (j / m) + m by omega, ← Nat.mul_succ, Nat.mul_mod_right]
    have e2 : (j + 1) / m = j / m + 1 := by
      rw [show j + 1 = m * (j / m) + m by omega, ← Nat.mul_succ, Nat.mul_div_cancel_left _ hm]
    rw [e1, e2]
    by_cases h2 : i < 0
    · rw [if_pos h2, if_pos h2, if_neg (by omega)]; rfl
    · rw [if_neg h2, if_neg h2, if_neg (by omega)]
      by_cases h3 : i = ((j % m : Nat) : Int)
      · rw [if_pos h3, if_neg (by omega)]; push_cast; omega
      · rw [if_neg h3, if_pos (by omega)]; push_cast; omega
  · have e1 : (j + 1) % m = j % m + 1 := by
      conv => lhs; rw [← hdm, Nat.add_assoc, Nat.mul_add_mod, Nat.mod_eq_of_lt (by omega)]
    have e2 : (j + 1) / m = j / m := by
      have e0 : (j % m + 1) / m = 0 := Nat.div_eq_of_lt (by omega)
      conv => lhs; rw [← hdm, Nat.add_assoc, Nat.mul_add_div hm, e0, Nat.add_zero]
    rw [e1, e2]
    by_cases h2 : i < 0
    · rw [if_pos h2, if_pos h2, if_neg (by omega)]; rfl
    · rw [if_neg h2, if_neg h2]
      by_cases h3 : i = ((j % m : Nat) : Int)
      · rw [if_pos h3, if_pos (by omega), if_neg (by omega)]; omega
      · rw [if_neg h3]
        by_cases h4 : i < ((j % m : Nat) : Int)
        · rw [if_pos (by omega), if_pos h4]; omega
        · rw [if_neg (by omega), if_neg h4]; omega
theorem idxI_own (l : List Int) (h : l.Nodup) (k : Nat) (hk : k < l.length) : idxI l (l.getD k 0) = k := by
  have hm : l.getD k 0 ∈ l := by simp [List.getD, hk]
  have h1 := idxI_mem l _ hm
  have h2 := idxI_getD l _ hm
  have := getD_inj l h _ k (by omega) hk h2
  omega
theorem idxI_eq_iff (l : List Int) (h : l.Nodup) (k : Nat) (hk : k < l.length) (x : Int) : idxI l x = k ↔ x = l.getD k 0 := by
  constructor
  · intro he
    have hm : x ∈ l := by
      by_cases hx : x ∈ l
      · exact hx
      · rw [idxI_not l x hx] at he; omega
    have := idxI_getD l x hm
    rw [he] at this; simpa using this.symm
  · rintro rfl; exact idxI_own l h k hk
theorem cntG_not (c : Int) : ∀ (f : Nat) (l : List Int) (x : Int), x ∉ l → cntG c f l x = 0
  | 0, _, _, _ => rfl
  | f + 1, l, x, h => by rw [cntG, if_pos (by rw [idxI_not l x h]; omega)]
theorem mem_rotL_sub (l : List Int) (q : Nat) (x : Int) (h : x ∈ rotL l q) : x ∈ l := by
  rw [rotL, List.mem_append] at h
  rcases h with h | h
  · exact List.mem_of_mem_drop h
  · exact List.mem_of_mem_take h
theorem cntG_step (k m : Nat) (B : List Int) (x : Int) (hk : 1 ≤ k) (hm : 0 < m) :
    cntG k m B x = ctr m k (idxI B x) + cntG k (m - 1) (rotL B ((k - 1) % m)) x := by
  obtain ⟨f, rfl⟩ : ∃ f, m = f + 1 := ⟨m - 1, by omega⟩
  have e1 : (((k : Int) - 1) % ((f : Int) + 1)).toNat = (k - 1) % (f + 1) := by
    rw [show (k : Int) - 1 = ((k - 1 : Nat) : Int) by omega, show (f : Int) + 1 = ((f + 1 : Nat) : Int) by omega, ← Int.natCast_emod, Int.toNat_natCast]
  rw [cntG, e1, ctr]
  by_cases h : idxI B x < 0
  · have hx : x ∉ B := fun hx => by have := idxI_mem B x hx; omega
    rw [if_pos h, if_pos h, cntG_not _ _ _ _ (fun hx2 => hx (mem_rotL_sub _ _ _ hx2))]; rfl
  · rw [if_neg h, if_neg h]
    push_cast
    simp
end Bench06
