/- Plain functions of chapter 06: the reference's, and laws that tie them to the bench's. -/
import Derived.Test.YtpfaoagddgcmbaaDoorSpecB
import Derived.Test.YtpfaoagddgcmbaaDoorPl
namespace Bench06

/-- how often a roller is counted, as the reference says -/
def cntG (c : Int) : Nat → List Int → Int → Int
  | 0, _, _ => 0
  | f + 1, l, x => if idxI l x < 0 then 0 else c / ((f : Int) + 1) + (if idxI l x < c % ((f : Int) + 1) then 1 else 0) + cntG c f (rotL l ((c - 1) % ((f : Int) + 1)).toNat) x

theorem lcmTo_succ (n : Nat) : lcmTo (n + 1) = lcmTo n * ((n + 1) / Nat.gcd (lcmTo n) (n + 1)) := by
  rw [lcmTo, Nat.div_mul_right_comm (Nat.gcd_dvd_left _ _), Nat.mul_div_assoc _ (Nat.gcd_dvd_right _ _)]

theorem inner_dvd (st m j : Nat) (hm : 0 < m) (h : (j * st) % m = 0) : m / Nat.gcd st m ∣ j := by
  have hg : 0 < Nat.gcd st m := Nat.gcd_pos_of_pos_right _ hm
  obtain ⟨q, hq⟩ := Nat.dvd_of_mod_eq_zero h
  have hc : Nat.Coprime (m / Nat.gcd st m) (st / Nat.gcd st m) := (Nat.coprime_div_gcd_div_gcd hg).symm
  refine hc.dvd_of_dvd_mul_right ⟨q, ?_⟩
  have e1 : st = Nat.gcd st m * (st / Nat.gcd st m) := (Nat.mul_div_cancel' (Nat.gcd_dvd_left _ _)).symm
  have e2 : m = Nat.gcd st m * (m / Nat.gcd st m) := (Nat.mul_div_cancel' (Nat.gcd_dvd_right _ _)).symm
  have : Nat.gcd st m * (j * (st / Nat.gcd st m)) = Nat.gcd st m * (m / Nat.gcd st m * q) := by
    calc Nat.gcd st m * (j * (st / Nat.gcd st m)) = j * (Nat.gcd st m * (st / Nat.gcd st m)) := by rw [Nat.mul_left_comm]
      _ = j * st := by rw [← e1]
      _ = m * q := hq
      _ = Nat.gcd st m * (m / Nat.gcd st m) * q := by rw [← e2]
      _ = _ := by rw [Nat.mul_assoc]
  exact Nat.eq_of_mul_eq_mul_left hg this
theorem inner_zero (st m : Nat) : ((m / Nat.gcd st m) * st) % m = 0 := by
  have : m / Nat.gcd st m * st = m * (st / Nat.gcd st m) := by
    rw [Nat.mul_comm, ← Nat.mul_div_assoc _ (Nat.gcd_dvd_right st m), Nat.mul_comm st m, Nat.mul_div_assoc _ (Nat.gcd_dvd_left st m)]
  rw [this]; exact Nat.mul_mod_right _ _

theorem quo_eq (c r m : Int) (h0 : 0 ≤ r) (h1 : r < m) (_hc : 1 ≤ c) : (c - r - 1 + m) / m = c / m + (if r < c % m then 1 else 0) := by
  have hm : 0 < m := by omega
  have e := Int.mul_ediv_add_emod c m
  have b0 := Int.emod_nonneg c (show m ≠ 0 by omega)
  have b1 := Int.emod_lt_of_pos c hm
  by_cases h : r < c % m
  · rw [if_pos h]
    have : c - r - 1 + m = (c % m - r - 1) + m * (c / m + 1) := by rw [Int.mul_add]; omega
    rw [this, Int.add_mul_ediv_left _ _ (by omega), Int.ediv_eq_zero_of_lt (by omega) (by omega)]; omega
  · rw [if_neg h]
    have : c - r - 1 + m = (c % m - r - 1 + m) + m * (c / m) := by omega
    rw [this, Int.add_mul_ediv_left _ _ (by omega), Int.ediv_eq_zero_of_lt (by omega) (by omega)]; omega

theorem idxI_nodup : ∀ (l : List Int) (r : Nat), l.Nodup → r < l.length → idxI l (l.getD r 0) = r
  | [], _, _, h => by simp at h
  | y :: l, 0, _, _ => by simp [idxI]
  | y :: l, r + 1, hn, h => by
    rw [List.nodup_cons] at hn
    have hr : r < l.length := by simpa using h
    have ih := idxI_nodup l r hn.2 hr
    have hmem : l.getD r 0 ∈ l := by simp [List.getD, hr]
    have hne : l.getD r 0 ≠ y := fun e => hn.1 (e ▸ hmem)
    simp only [List.getD_cons_succ, idxI]
    rw [if_neg hne, ih, if_neg (by omega)]; omega

theorem mem_rotL_iff (l : List Int) (k : Nat) (hk : k < l.length) (hn : l.Nodup) (x : Int) : x ∈ rotL l k ↔ x ∈ l ∧ x ≠ l.getD k 0 := by
  constructor
  · intro h
    have hsub : x ∈ l := by
      unfold rotL at h
      rcases List.mem_append.1 h with h | h
      · exact List.mem_of_mem_drop h
      · exact List.mem_of_mem_take h
    refine ⟨hsub, fun e => ?_⟩
    have hn2 : (l.take k ++ l.drop k).Nodup := by rw [List.take_append_drop]; exact hn
    rw [drop_getD l k hk, List.nodup_append, List.nodup_cons] at hn2
    unfold rotL at h
    rcases List.mem_append.1 h with h | h
    · exact hn2.2.1.1 (e ▸ h)
    · exact hn2.2.2 x h _ (by simp) e
  · rintro ⟨h, hne⟩; exact mem_rotL l k x h hne

theorem cnt_out (c : Int) : ∀ (f : Nat) (l : List Int) (x : Int), x ∉ l → cntG c f l x = 0
  | 0, _, _, _ => rfl
  | f + 1, l, x, h => by rw [cntG, if_pos (by rw [idxI_not l x h]; omega)]

theorem counted_gen (c : Int) (hc : 1 ≤ c) : ∀ (f : Nat) (l : List Int) (r : Nat) (n : Int), l.length = f → l.Nodup → r < f → countedG c f r n = n + cntG c f l (l.getD r 0)
  | 0, _, _, _, _, _, h => by omega
  | f + 1, l, r, n, hl, hn, hr => by
    have hsb := stepR_bd c r ((f : Int) + 1) (by omega) (by omega)
    obtain ⟨k, hk⟩ := Int.eq_ofNat_of_zero_le hsb.2.2.2.1
    have hkl : k < l.length := by omega
    rw [countedG, cntG, idxI_nodup l r hn (by omega), if_neg (show ¬ ((r : Int) < 0) by omega), quo_eq c r _ (by omega) (by omega) hc]
    have hrn := rotL_nodup l k hn
    rw [hk, Int.toNat_natCast]
    by_cases h : (r : Int) = (k : Int)
    · have hrk : r = k := by omega
      rw [if_pos h, cnt_out c f _ _ (by rw [mem_rotL_iff l k hkl hn]; rw [hrk]; simp)]
      omega
    · rw [if_neg h]
      have hlt := hsb.2.2.1 (by rw [hk]; exact h)
      obtain ⟨q, hq⟩ := Int.eq_ofNat_of_zero_le hsb.1
      have hval : (rotL l k).getD q 0 = l.getD r 0 := by
        rw [rotL_getD l k q hkl (by omega)]
        congr 1
        have hq2 : (q : Int) = (r - (k : Int) - 1 + ((f : Int) + 1)) % ((f : Int) + 1) := by rw [← hk, ← hq]; rfl
        rcases Nat.lt_or_gt_of_ne (show r ≠ k by omega) with h | h
        · rw [Int.emod_eq_of_lt (by omega) (by omega)] at hq2
          rw [Nat.mod_eq_sub_mod (by omega), Nat.mod_eq_of_lt (by omega)]; omega
        · rw [Int.add_emod_right, Int.emod_eq_of_lt (by omega) (by omega)] at hq2
          rw [Nat.mod_eq_of_lt (by omega)]; omega
      rw [hq, counted_gen c hc f (rotL l k) q _ (by rw [rotL_length l k hkl]; omega) hrn (by omega), hval]
      omega
theorem counted_eq (r n : Nat) (c : Int) (hc : 1 ≤ c) (hn : n < r) : countedG c r n 0 = cntG c r (rng r) n := by
  rw [counted_gen c hc r (rng r) n 0 (rng_length r) (rng_nodup r) hn, getD_rng _ _ hn]; omega
theorem first_gen (home : List Int) (c : Nat) : ∀ (f m : Nat) (b : List Int), b.length = m → f ≤ m → firstG home c f b = ((ordG c m b).take f).all (fun x => decide (x ∈ home))
  | 0, _, _, _, _ => by simp [firstG]
  | f + 1, m, b, hb, hf => by
    obtain ⟨m', rfl⟩ : ∃ m', m = m' + 1 := ⟨m - 1, by omega⟩
    have hat : (c - 1) % b.length < b.length := Nat.mod_lt _ (by omega)
    have ih := first_gen home c f m' (rotL b ((c - 1) % b.length)) (by rw [rotL_length b _ hat]; omega) (by omega)
    rw [firstG, ordG, List.take_succ_cons, List.all_cons, ih]
    by_cases h : b.getD ((c - 1) % b.length) 0 ∈ home
    · rw [if_pos h, decide_eq_true h, Bool.true_and]
    · rw [if_neg h, decide_eq_false h, Bool.false_and]
theorem first_ord (r : Int) (home : List Int) (k : Nat) (h : home.length ≤ r.toNat) : firstP r home k = ((ordL r.toNat k).take home.length).all (fun x => decide (x ∈ home)) :=
  first_gen home k _ _ _ (rng_length _) h
theorem ordG_length (c : Nat) : ∀ (f : Nat) (l : List Int), (ordG c f l).length = f
  | 0, _ => rfl
  | f + 1, l => by simp [ordG, ordG_length c f]
theorem all_succ (l home : List Int) (i : Nat) (h : i < l.length) : (l.take (i + 1)).all (fun x => decide (x ∈ home)) = ((l.take i).all (fun x => decide (x ∈ home)) && decide (l.getD i 0 ∈ home)) := by
  rw [take_succ_getD l i h, List.all_append]; simp
end Bench06
