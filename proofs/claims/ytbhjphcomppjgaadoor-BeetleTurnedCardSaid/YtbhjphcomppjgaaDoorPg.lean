/- Plain facts of chapter 9: the calendar. -/
import Derived.Test.YtbhjphcomppjgaaDoorPf
namespace Beetle09
set_option maxRecDepth 100000
/-- The calendar after some days, 25 places. -/
def calA (R C z s d : Nat) : List Int := (List.range 25).map (cal R C z s d)
/-- The calendar while a day goes on. -/
def calM (R C z s d n : Nat) : List Int := (List.range 25).map fun j => if j < n then cal R C z s (d + 1) j else cal R C z s d j
/-- The calendar while it is begun. -/
def calB (s n : Nat) : List Int := (List.range 25).map fun j => if j < n then (if s.testBit j then 0 else -1) else 0
theorem map_get (f : Nat → Int) (N i : Nat) : ((List.range N).map f).getD i 0 = if i < N then f i else 0 := by
  simp only [List.getD, List.getElem?_map]
  by_cases h : i < N
  · rw [if_pos h, List.getElem?_range h]; rfl
  · rw [if_neg h, List.getElem?_eq_none (by simpa using h)]; rfl
theorem map_set (f : Nat → Int) (N i : Nat) (v : Int) : ((List.range N).map f).set i v = (List.range N).map fun j => if j = i then v else f j := by
  apply List.ext_getElem?
  intro j
  rw [List.getElem?_set]
  by_cases hij : i = j
  · subst hij
    rw [if_pos rfl, List.length_map, List.length_range]
    by_cases h : i < N
    · rw [if_pos h, List.getElem?_map, List.getElem?_range h]; simp
    · rw [if_neg h, List.getElem?_eq_none (by simpa using h)]
  · rw [if_neg hij, List.getElem?_map, List.getElem?_map]
    by_cases h : j < N
    · rw [List.getElem?_range h]; simp [show ¬ j = i from fun e => hij e.symm]
    · rw [List.getElem?_eq_none (by simpa using h)]; rfl
theorem map_cong {f g : Nat → Int} {N : Nat} (h : ∀ i, i < N → f i = g i) : (List.range N).map f = (List.range N).map g :=
  List.map_congr_left fun i hi => h i (List.mem_range.1 hi)
theorem calA_len (R C z s d : Nat) : (calA R C z s d).length = 25 := by simp [calA]
theorem calM_len (R C z s d n : Nat) : (calM R C z s d n).length = 25 := by simp [calM]
theorem calB_len (s n : Nat) : (calB s n).length = 25 := by simp [calB]
theorem calM_zero (R C z s d : Nat) : calM R C z s d 0 = calA R C z s d := map_cong fun i _ => by simp
theorem cal_out {R C z s d j : Nat} (h : ¬ j < R * C) : cal R C z s (d + 1) j = cal R C z s d j := by simp [cal, h]
theorem calM_fin (R C z s d : Nat) : calM R C z s d (R * C) = calA R C z s (d + 1) := map_cong fun i _ => by
  by_cases h : i < R * C
  · simp [h]
  · simp [h, cal_out h]
theorem calM_hit {R C z s d n : Nat} (hn : n < R * C) (h : gets R C z (itr R C z s d) n = true) : (calM R C z s d n).set n ((d : Int) + 1) = calM R C z s d (n + 1) := by
  unfold calM
  rw [map_set]
  refine map_cong fun i _ => ?_
  by_cases hi : i = n
  · subst hi; simp [cal, hn, h]
  · by_cases h2 : i < n
    · simp [hi, h2, show i < n + 1 by omega]
    · simp [hi, h2, show ¬ i < n + 1 by omega]
theorem calM_miss {R C z s d n : Nat} (h : gets R C z (itr R C z s d) n = false) : calM R C z s d (n + 1) = calM R C z s d n := by
  refine map_cong fun i _ => ?_
  by_cases hi : i = n
  · subst hi; simp [cal, h]
  · by_cases h2 : i < n
    · simp [h2, show i < n + 1 by omega]
    · simp [h2, show ¬ i < n + 1 by omega]
theorem calB_zero (s : Nat) : calB s 0 = List.replicate 25 0 := by unfold calB; rfl
theorem calB_hit {s n : Nat} (h : s.testBit n = true) : ((calB s n).set n (-1)).set n 0 = calB s (n + 1) := by
  unfold calB
  rw [map_set, map_set]
  refine map_cong fun i _ => ?_
  by_cases hi : i = n
  · subst hi; simp [h]
  · by_cases h2 : i < n
    · simp [hi, h2, show i < n + 1 by omega]
    · simp [hi, h2, show ¬ i < n + 1 by omega]
theorem calB_miss {s n : Nat} (h : s.testBit n = false) : (calB s n).set n (-1) = calB s (n + 1) := by
  unfold calB
  rw [map_set]
  refine map_cong fun i _ => ?_
  by_cases hi : i = n
  · subst hi; simp [h]
  · by_cases h2 : i < n
    · simp [hi, h2, show i < n + 1 by omega]
    · simp [hi, h2, show ¬ i < n + 1 by omega]
theorem calB_fin (R C z s : Nat) : calB s 25 = calA R C z s 0 := map_cong fun i hi => by simp [hi, cal]
theorem calA_eq {R C z s d : Nat} (h25 : R * C ≤ 25) : calA R C z s (d + 1) = calA R C z s d ↔ itr R C z s (d + 1) = itr R C z s d := by
  constructor
  · intro h
    rcases eq_or_gets (R := R) (C := C) (z := z) (s := itr R C z s d) with h' | ⟨n, hn, hg⟩
    · exact h'
    · have h1 := congrArg (fun l => l.getD n 0) h
      simp only [calA, map_get] at h1
      rw [if_pos (by omega), if_pos (by omega)] at h1
      have h2 := (cal_nonneg (R := R) (C := C) (z := z) (s := s) d n).2.1
      simp [cal, hn, hg] at h1
      omega
  · intro h
    have hc : Cl R C z (itr R C z s d) := cl_iff.2 h
    refine map_cong fun i _ => ?_
    by_cases hi : i < R * C
    · simp [cal, hi, hc i hi]
    · exact cal_out hi
theorem pc_grows {R C z s d : Nat} (h25 : R * C ≤ 25) (h : itr R C z s (d + 1) ≠ itr R C z s d) : pcN 25 (itr R C z s d) < pcN 25 (itr R C z s (d + 1)) := by
  rcases eq_or_gets (R := R) (C := C) (z := z) (s := itr R C z s d) with h' | ⟨n, hn, hg⟩
  · exact absurd h' h
  · exact pcN_lt (sub_stp R C z _) (by omega) (gets_not hg).1 (by rw [show itr R C z s (d + 1) = stp R C z (itr R C z s d) from rfl, stp_bit, hg]; simp [hn])
/-- The days of all bales. -/
def daysL (R C z s : Nat) : List Int := (List.range (R * C)).map (cal R C z s (R * C))
theorem calA_days {R C z s d : Nat} (h : itr R C z s (d + 1) = itr R C z s d) : calA R C z s d = calA R C z s (R * C) := map_cong fun i _ => cal_fin h i
theorem calA_take {R C z s : Nat} (h25 : R * C ≤ 25) : (calA R C z s (R * C)).take (R * C) = daysL R C z s := by
  unfold calA daysL
  rw [← List.map_take, List.take_range]
  congr 2
  omega
/-- A set while a day goes on. -/
def nxt (R C z s d n : Nat) : Nat := itr R C z s d ||| ofP (gets R C z (itr R C z s d)) n
theorem nxt_zero (R C z s d : Nat) : nxt R C z s d 0 = itr R C z s d := by simp [nxt, ofP]
theorem nxt_hit {R C z s d n : Nat} (h : gets R C z (itr R C z s d) n = true) : nxt R C z s d n ||| 2 ^ n = nxt R C z s d (n + 1) := by
  unfold nxt; rw [ofP, if_pos h, Nat.or_assoc]
theorem nxt_miss {R C z s d n : Nat} (h : gets R C z (itr R C z s d) n = false) : nxt R C z s d (n + 1) = nxt R C z s d n := by
  unfold nxt; rw [ofP, if_neg (by rw [h]; simp)]
theorem nxt_fin (R C z s d : Nat) : nxt R C z s d (R * C) = itr R C z s (d + 1) := rfl
theorem nxt_lt {R C z s d n : Nat} (hs : s < 2 ^ (R * C)) (h25 : R * C ≤ 25) (hn : n ≤ R * C) : nxt R C z s d n < 2 ^ 25 := by
  refine Nat.or_lt_two_pow (Nat.lt_of_lt_of_le (itr_lt hs d) (Nat.pow_le_pow_right (by omega) h25)) ?_
  exact Nat.lt_of_lt_of_le (ofP_lt _ _) (Nat.pow_le_pow_right (by omega) (by omega))
theorem lt25 {s N : Nat} (hs : s < 2 ^ N) (h : N ≤ 25) : s < 2 ^ 25 := Nat.lt_of_lt_of_le hs (Nat.pow_le_pow_right (by omega) h)
end Beetle09
