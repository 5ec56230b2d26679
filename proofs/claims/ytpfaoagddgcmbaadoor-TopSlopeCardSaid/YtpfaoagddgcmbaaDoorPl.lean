/- Plain laws of chapter 06: who goes when. -/
import Derived.Test.YtpfaoagddgcmbaaDoorSpec
namespace Bench06

theorem getD_append_left (a b : List Int) (i : Nat) (h : i < a.length) : (a ++ b).getD i 0 = a.getD i 0 := by
  simp [List.getD, List.getElem?_append_left h]
theorem getD_append_right (a b : List Int) (i : Nat) (h : a.length ≤ i) : (a ++ b).getD i 0 = b.getD (i - a.length) 0 := by
  simp [List.getD, List.getElem?_append_right h]
theorem getD_drop (a : List Int) (k i : Nat) : (a.drop k).getD i 0 = a.getD (k + i) 0 := by simp [List.getD]
theorem getD_take (a : List Int) (k i : Nat) (h : i < k) : (a.take k).getD i 0 = a.getD i 0 := by simp [List.getD, h]

/-- where one sits after a round -/
theorem rotL_getD (l : List Int) (k q : Nat) (hk : k < l.length) (hq : q < l.length - 1) :
    (rotL l k).getD q 0 = l.getD ((q + k + 1) % l.length) 0 := by
  unfold rotL
  by_cases h : q < l.length - (k + 1)
  · rw [getD_append_left _ _ _ (by simpa using h), getD_drop, Nat.mod_eq_of_lt (by omega)]
    congr 1; omega
  · rw [getD_append_right _ _ _ (by simp; omega), getD_take _ _ _ (by simp; omega)]
    simp only [List.length_drop]
    congr 1
    rw [Nat.mod_eq_sub_mod (by omega), Nat.mod_eq_of_lt (by omega)]
    omega

theorem rotL_nodup (l : List Int) (k : Nat) (h : l.Nodup) : (rotL l k).Nodup := by
  unfold rotL
  have h1 : (l.take k ++ l.drop (k + 1)).Nodup := by
    have := List.Nodup.sublist (l₂ := l) (l₁ := l.take k ++ l.drop (k + 1)) ?_ h
    · exact this
    · conv => rhs; rw [← List.take_append_drop k l]
      exact (List.Sublist.refl _).append (by rw [show l.drop (k + 1) = (l.drop k).drop 1 by simp]; exact List.drop_sublist _ _)
  rw [List.nodup_append] at h1 ⊢
  exact ⟨h1.2.1, h1.1, fun a ha b hb => (h1.2.2 b hb a ha).symm⟩

theorem who_gen (c : Nat) (hc : 1 ≤ c) : ∀ (p m : Nat) (l : List Int), l.length = m → p < m → (ordG c m l).getD p 0 = l.getD (whoG c (m - p) p).toNat 0
  | 0, m, l, hl, hm => by
    obtain ⟨f, rfl⟩ : ∃ f, m = f + 1 := ⟨m - 1, by omega⟩
    have : ((c : Int) - 1) % ((f + 1 - 0 : Nat) : Int) = (((c - 1) % (f + 1) : Nat) : Int) := by
      rw [show ((c : Int) - 1) = ((c - 1 : Nat) : Int) by omega]; simp
    rw [whoG, this, Int.toNat_natCast, ordG, List.getD_cons_zero, hl]
  | p + 1, m, l, hl, hm => by
    obtain ⟨f, rfl⟩ : ∃ f, m = f + 1 := ⟨m - 1, by omega⟩
    have hat : (c - 1) % l.length < l.length := Nat.mod_lt _ (by omega)
    have hrl := rotL_length l _ hat
    have ih := who_gen c hc p f (rotL l ((c - 1) % l.length)) (by omega) (by omega)
    have hb := whoG_bd c (f - p) (by omega) p
    simp only [ordG, List.getD_cons_succ]
    rw [ih, rotL_getD l _ _ hat (by omega)]
    congr 1
    rw [show f + 1 - (p + 1) = f - p by omega]
    simp only [whoG]
    have e : ((f - p : Nat) : Int) + p + 1 = ((f + 1 : Nat) : Int) := by omega
    rw [e, hl]
    have e2 : whoG c (f - p) p + c = (((whoG c (f - p) p).toNat + c : Nat) : Int) := by omega
    rw [e2, ← Int.natCast_emod, Int.toNat_natCast]
    have e3 : (whoG c (f - p) p).toNat + (c - 1) % (f + 1) + 1 = ((whoG c (f - p) p).toNat + 1) + (c - 1) % (f + 1) := by omega
    rw [e3, Nat.add_mod_mod]
    congr 1; omega

theorem getD_rng (m i : Nat) (h : i < m) : (rng m).getD i 0 = i := by simp [rng, List.getD, h]

theorem who_eq (r c p : Nat) (hc : 1 ≤ c) (hp : p < r) : whoG c (r - p) p = (ordL r c).getD p 0 := by
  have hb := whoG_bd c (r - p) (by omega) p
  rw [ordL, who_gen c hc p r _ (rng_length r) hp, getD_rng _ _ (by omega)]
  omega

theorem lastTo_who (c : Int) : ∀ n, lastTo c n = whoG c 1 n
  | 0 => by simp [lastTo, whoG, Int.emod_one]
  | n + 1 => by
    simp only [lastTo, whoG, lastTo_who c n]
    congr 1; omega
theorem last_eq (r c : Nat) (hc : 1 ≤ c) (hr : 1 ≤ r) : lastTo c (r - 1) = (ordL r c).getD (r - 1) 0 := by
  rw [lastTo_who, ← who_eq r c (r - 1) hc (by omega)]
  congr 1; omega

theorem getD_inj (l : List Int) (h : l.Nodup) (i j : Nat) (hi : i < l.length) (hj : j < l.length) (he : l.getD i 0 = l.getD j 0) : i = j := by
  have e1 : l[i] = l[j] := by simpa [List.getD, hi, hj] using he
  have hp := List.pairwise_iff_getElem.1 h
  rcases Nat.lt_trichotomy i j with hij | hij | hij
  · exact absurd e1 (hp i j hi hj hij)
  · exact hij
  · exact absurd e1.symm (hp j i hj hi hij)

theorem when_gen (c : Nat) (hc : 1 ≤ c) : ∀ (f : Nat) (l : List Int) (r : Nat) (p : Int), l.length = f → l.Nodup → r < f → whenG c f r p = p + idxI (ordG c f l) (l.getD r 0) ∧ 0 ≤ idxI (ordG c f l) (l.getD r 0)
  | 0, _, _, _, _, _, h => by omega
  | f + 1, l, r, p, hl, hn, hr => by
    have hat : (c - 1) % l.length < l.length := Nat.mod_lt _ (by omega)
    have hca : ((c : Int) - 1) % ((f : Int) + 1) = (((c - 1) % l.length : Nat) : Int) := by
      rw [hl, show ((c : Int) - 1) = ((c - 1 : Nat) : Int) by omega]; simp
    have hsb := stepR_bd c r ((f : Int) + 1) (by omega) (by omega)
    simp only [whenG, ordG, idxI]
    by_cases h : r = (c - 1) % l.length
    · rw [if_pos (by rw [hca, h]), if_pos (by rw [← h])]
      simp
    · rw [if_neg (by rw [hca]; omega), if_neg (fun he => h (getD_inj l hn _ _ (by omega) hat he))]
      have hlt := hsb.2.2.1 (by rw [hca]; omega)
      obtain ⟨q, hq⟩ := Int.eq_ofNat_of_zero_le hsb.1
      have ih := when_gen c hc f (rotL l ((c - 1) % l.length)) q (p + 1) (by rw [rotL_length l _ hat]; omega) (rotL_nodup _ _ hn) (by omega)
      have hval : (rotL l ((c - 1) % l.length)).getD q 0 = l.getD r 0 := by
        rw [rotL_getD l _ q hat (by omega)]
        congr 1
        have hq2 : (q : Int) = (r - (((c - 1) % l.length : Nat) : Int) - 1 + ((f : Int) + 1)) % ((f : Int) + 1) := by rw [← hca, ← hq]; rfl
        generalize (c - 1) % l.length = k at *
        rcases Nat.lt_or_gt_of_ne h with h | h
        · rw [Int.emod_eq_of_lt (by omega) (by omega)] at hq2
          rw [Nat.mod_eq_sub_mod (by omega), Nat.mod_eq_of_lt (by omega)]; omega
        · rw [Int.add_emod_right, Int.emod_eq_of_lt (by omega) (by omega)] at hq2
          rw [Nat.mod_eq_of_lt (by omega)]; omega
      rw [hval] at ih
      rw [hq, ih.1, if_neg (by omega)]
      omega

theorem rng_nodup (m : Nat) : (rng m).Nodup := by
  unfold rng List.Nodup
  rw [List.pairwise_map]
  exact List.nodup_range.imp (fun h e => h (Int.ofNat.inj e))
theorem when_eq (r c n : Nat) (hc : 1 ≤ c) (hn : n < r) : whenG c r n 0 = idxI (ordL r c) n := by
  have := (when_gen c hc r (rng r) n 0 (rng_length r) (rng_nodup r) hn).1
  rw [getD_rng _ _ hn] at this
  rw [this, ordL]; omega
end Bench06
