/- Plain laws of chapter 06: the states of counting one by one. -/
import Derived.Test.YthocenkedncoeaaPx
namespace Bench06

structure RoundSt (n k p a : Nat) (G : List Bool) (T out : List Int) : Prop where
  a_lt : a < n
  G_len : G.length = n
  T_len : T.length = n
  sit : (sits n G a).length = n - p
  nd : (sits n G a).Nodup
  ord : out ++ ordG k (n - p) (sits n G a) = ordL n k
  cnt : ∀ x : Nat, x < n → T.getD x 0 + cntG k (n - p) (sits n G a) x = cntG k n (rng n) x
structure InSt (n j : Nat) (B : List Int) (a' : Nat) (G : List Bool) (T T' : List Int) : Prop where
  a_lt : a' < n
  T_len : T'.length = n
  sit : sits n G a' = rotA B (j % B.length)
  cnt : ∀ x : Nat, x < n → T'.getD x 0 = T.getD x 0 + ctr B.length j (idxI B x)
  at_ : 0 < j → (a' : Int) = B.getD ((j - 1) % B.length) 0

theorem RoundSt.start (n k : Nat) (hn : 1 ≤ n) : RoundSt n k 0 (n - 1) (List.replicate n false) (List.replicate n 0) [] where
  a_lt := by omega
  G_len := by simp
  T_len := by simp
  sit := by rw [sits_start n hn, rng_length]; rfl
  nd := by rw [sits_start n hn]; exact rng_nodup n
  ord := by rw [sits_start n hn]; rfl
  cnt := fun x hx => by rw [sits_start n hn]; simp [List.getD, hx]
theorem InSt.start {n k p a : Nat} {G : List Bool} {T out : List Int} (h : RoundSt n k p a G T out) : InSt n 0 (sits n G a) a G T T where
  a_lt := h.a_lt
  T_len := h.T_len
  sit := by rw [Nat.zero_mod, rotA_zero]
  cnt := fun x _ => by rw [ctr_zero, Int.add_zero]
  at_ := fun h => by omega
theorem getD_set (T : List Int) (x : Nat) (v : Int) (i : Nat) (hx : x < T.length) : (T.set x v).getD i 0 = if x = i then v else T.getD i 0 := by
  simp only [List.getD, List.getElem?_set]
  by_cases h : x = i
  · subst h; simp [hx]
  · simp [h]
theorem InSt.step {n j a' : Nat} {B : List Int} {G : List Bool} {T T' : List Int} (h : InSt n j B a' G T T') (hB : 0 < B.length) (hnd : B.Nodup) :
    ∃ d x : Nat, d < n ∧ x = (a' + 1 + d) % n ∧ x < n ∧ G.getD x false = false ∧ (∀ d', d' < d → G.getD ((a' + 1 + d') % n) false = true) ∧ InSt n (j + 1) B x G T (T'.set x (T'.getD x 0 + 1)) := by
  have hq := Nat.mod_lt j hB
  have hs := h.sit
  rw [rotA_succ B _ hq] at hs
  obtain ⟨d, x, hd, hx, hxy, hxn, hG, hbef, hnext⟩ := sits_next n G a' _ _ hs
  refine ⟨d, x, hd, hx, hxn, hG, hbef, ⟨hxn, by simpa using h.T_len, ?_, ?_, ?_⟩⟩
  · rw [hnext, rotA_up B _ hq, rotA_mod B j hB]
  · intro i hi
    have hl := h.T_len
    have hib : idxI B i < B.length := by
      by_cases hm : (i : Int) ∈ B
      · exact (idxI_mem B _ hm).2
      · rw [idxI_not B _ hm]; omega
    rw [getD_set _ _ _ _ (by omega), ctr_succ _ _ _ hB hib]
    by_cases hxi : x = i
    · subst hxi
      rw [if_pos rfl, if_pos ((idxI_eq_iff B hnd _ hq _).2 hxy), h.cnt x hi]; omega
    · rw [if_neg hxi, if_neg (fun he => hxi (by have := (idxI_eq_iff B hnd _ hq _).1 he; omega)), h.cnt i hi]; omega
  · intro _
    rw [Nat.add_sub_cancel]; exact hxy
theorem InSt.done {n k p a a' : Nat} {G : List Bool} {T T' out : List Int} (hk : 1 ≤ k) (hp : p < n) (hr : RoundSt n k p a G T out) (h : InSt n k (sits n G a) a' G T T') :
    RoundSt n k (p + 1) a' (G.set a' true) T' (out ++ [(a' : Int)]) := by
  have hB := hr.sit
  have hnd := hr.nd
  have hord := hr.ord
  have hcnt := hr.cnt
  have hG := hr.G_len
  have h1 := h.sit
  have h2 := h.at_ (by omega)
  have h3 := h.cnt
  generalize sits n G a = B at *
  have hq : (k - 1) % B.length < B.length := Nat.mod_lt _ (by omega)
  have e1 : k % B.length = ((k - 1) + 1) % B.length := by rw [Nat.sub_add_cancel hk]
  rw [e1, ← rotA_mod B (k - 1) (by omega), ← rotA_up B _ hq, ← h2] at h1
  have hm : n - p = (n - (p + 1)) + 1 := by omega
  have hnd2 : (B.drop ((k - 1) % B.length + 1) ++ B.take ((k - 1) % B.length) ++ [(a' : Int)]).Nodup := by
    have e : B = B.take ((k - 1) % B.length) ++ B.getD ((k - 1) % B.length) 0 :: B.drop ((k - 1) % B.length + 1) := by rw [← drop_getD B _ hq, List.take_append_drop]
    have h4 : (B.getD ((k - 1) % B.length) 0 :: (B.drop ((k - 1) % B.length + 1) ++ B.take ((k - 1) % B.length))).Nodup := by
      have h5 : (B.take ((k - 1) % B.length) ++ B.getD ((k - 1) % B.length) 0 :: B.drop ((k - 1) % B.length + 1)).Nodup := by rw [← e]; exact hnd
      exact (List.Perm.cons _ List.perm_append_comm).nodup_iff.1 (List.perm_middle.nodup_iff.1 h5)
    rw [h2]
    exact (List.perm_append_comm (l₁ := [B.getD ((k - 1) % B.length) 0])).nodup_iff.1 h4
  have hs := sits_gone n G a' _ hG h.a_lt h1 hnd2
  have hs2 : sits n (G.set a' true) a' = rotL B ((k - 1) % B.length) := hs
  refine ⟨h.a_lt, by simpa using hG, h.T_len, ?_, ?_, ?_, ?_⟩
  · rw [hs2, rotL_length _ _ hq]; omega
  · rw [hs2]; exact rotL_nodup _ _ hnd
  · rw [hs2, ← hord, hm, ordG, ← h2]; simp
  · intro x hx
    rw [hs2, h3 x hx, ← hcnt x hx, cntG_step k (n - p) B x hk (by omega), hB, show n - p - 1 = n - (p + 1) by omega]
    omega
theorem RoundSt.last {n k a : Nat} {G : List Bool} {T out : List Int} (h : RoundSt n k n a G T out) : out = ordL n k ∧ ∀ x : Nat, x < n → T.getD x 0 = cntG k n (rng n) x := by
  refine ⟨?_, fun x hx => ?_⟩
  · have := h.ord; rw [Nat.sub_self] at this; simpa [ordG] using this
  · have := h.cnt x hx; rw [Nat.sub_self] at this; simpa [cntG] using this
theorem ctr_le (m j : Nat) (i : Int) : ctr m j i ≤ j + 1 := by
  unfold ctr
  have h : ((j / m : Nat) : Int) ≤ j := by exact_mod_cast Nat.div_le_self j m
  generalize ((j / m : Nat) : Int) = z at *
  split
  · omega
  · split <;> omega
theorem cntG_le (k : Nat) (hk : 1 ≤ k) : ∀ (m : Nat) (B : List Int) (x : Int), cntG k m B x ≤ (m : Int) * (k + 1)
  | 0, _, _ => by simp [cntG]
  | m + 1, B, x => by
    rw [cntG_step k (m + 1) B x hk (by omega)]
    have h1 := ctr_le (m + 1) k (idxI B x)
    have h2 := cntG_le k hk m (rotL B ((k - 1) % (m + 1))) x
    simp only [Nat.add_sub_cancel]
    push_cast
    rw [Int.add_mul]
    omega
theorem InSt.bound {n k p j a a' : Nat} {G : List Bool} {T T' out : List Int} (hr : RoundSt n k p a G T out) (h : InSt n j (sits n G a) a' G T T') (hk : 1 ≤ k) (hk1 : k ≤ 1000) (hn : n ≤ 20) (hj : j ≤ k) (hT : ∀ x : Nat, x < n → 0 ≤ T.getD x 0) (x : Nat) (hx : x < n) : 0 ≤ T'.getD x 0 ∧ T'.getD x 0 ≤ 30000 := by
  have h1 := hr.cnt x hx
  have h2 := h.cnt x hx
  have h3 := cntG_le k hk n (rng n) x
  have h4 := cntG_nonneg k hk (n - p) (sits n G a) x
  have h5 := ctr_nonneg (sits n G a).length j (idxI (sits n G a) x)
  have h6 := ctr_le (sits n G a).length j (idxI (sits n G a) x)
  have h7 := hT x hx
  have h8 : (n : Int) * (k + 1) ≤ 20 * 1001 := Int.mul_le_mul (by omega) (by omega) (by omega) (by omega)
  omega
end Bench06
