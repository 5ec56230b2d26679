/- Plain facts of chapter 9: the calendar, as the reference keeps it. -/
import Derived.Test.YtbhjphcomppjgaaDoorPi
namespace Beetle09
set_option maxRecDepth 100000
/-- A list has the bales of a set. -/
structure Mm (N : Nat) (S : List Int) (s : Nat) : Prop where
  lt : s < 2 ^ N
  mem : ∀ k : Nat, k < N → (s.testBit k = true ↔ (k : Int) ∈ S)
theorem Rd.mm {N : Nat} {S : List Int} {s : Nat} (h : Rd N S s) : Mm N S s := ⟨h.lt, fun k _ => h.mem k⟩
theorem Mm.bit {N : Nat} {S : List Int} {s k : Nat} (h : Mm N S s) (hk : k < N) : decide ((k : Int) ∈ S) = s.testBit k := by
  rw [Bool.eq_iff_iff, h.mem k hk, decide_eq_true_eq]
theorem calM_get (R C z s d n j : Nat) (hj : j < 25) : (calM R C z s d n).getD j 0 = if j < n then cal R C z s (d + 1) j else cal R C z s d j := by
  unfold calM; rw [map_get, if_pos hj]
/-- What the reference asks of a neighbour. -/
theorem calM_ask (R C z s d n j : Nat) (hj : j < 25) : (0 ≤ (calM R C z s d n).getD j 0 ∧ (calM R C z s d n).getD j 0 < (d : Int) + 1) ↔ (itr R C z s d).testBit j = true := by
  rw [calM_get R C z s d n j hj]
  split
  · rw [cal]
    split
    · rename_i _ h
      rw [Bool.and_eq_true] at h
      have := (gets_not h.2).1
      rw [this]; simp
    · exact cal_before d j
  · exact cal_before d j
theorem calM_own (R C z s d n : Nat) (hn : n < 25) : 0 ≤ (calM R C z s d n).getD n 0 ↔ (itr R C z s d).testBit n = true := by
  rw [calM_get R C z s d n n hn, if_neg (by omega)]
  exact (cal_nonneg d n).1
theorem take_get (l : List Int) (N i : Nat) (h : i < N) : (l.take N).getD i 0 = l.getD i 0 := by
  simp [List.getD, h]
theorem take_set (l : List Int) (N i : Nat) (v : Int) : (l.set i v).take N = (l.take N).set i v := List.take_set ..
theorem calB_take (s N : Nat) (hN : N ≤ 25) : (calB s 0).take N = List.replicate N 0 := by
  rw [calB_zero, List.take_replicate, Nat.min_eq_left hN]
/-- How many of the first neighbours are of a set. -/
def cntK (R C s n i : Nat) : Nat := ((nb R C n).take i).countP fun m => s.testBit m
theorem cntK_zero (R C s n : Nat) : cntK R C s n 0 = 0 := by simp [cntK]
theorem cntK_fin (R C s n : Nat) : cntK R C s n (nb R C n).length = cnt R C s n := by unfold cntK; rw [List.take_length]; rfl
theorem cntK_succ {R C s n i : Nat} (hi : i < (nb R C n).length) : cntK R C s n (i + 1) = cntK R C s n i + if s.testBit ((nb R C n).getD i 0) then 1 else 0 := by
  unfold cntK
  rw [List.take_succ_eq_append_getElem hi, List.countP_append, List.countP_singleton]
  simp [List.getD, hi]
theorem cntK_le (R C s n i : Nat) : cntK R C s n i ≤ i := by
  have := List.countP_le_length (p := fun m => s.testBit m) (l := (nb R C n).take i)
  rw [List.length_take] at this
  unfold cntK; omega
theorem nb_len (R C n : Nat) : (nb R C n).length ≤ 4 := by
  unfold nb
  rw [List.length_append, List.length_append, List.length_append]
  split <;> split <;> split <;> split <;> simp
theorem nb_get {R C n i : Nat} (hs : Sd R C) (hn : n < R * C) (hi : i < (nb R C n).length) : (nb R C n).getD i 0 < R * C := by
  refine nb_lt hs hn (n := n) ?_
  rw [List.getD, List.getElem?_eq_getElem hi]; exact List.getElem_mem hi
theorem Rd.li_nat {N : Nat} {S : List Int} {s : Nat} (h : Rd N S s) : li (S.map Int.toNat) = S := by
  unfold li
  rw [List.map_map]
  have : S.map ((fun (n : Nat) => (n : Int)) ∘ Int.toNat) = S.map id := List.map_congr_left fun x hx => by
    have := h.rng x hx
    simp only [Function.comp, id]; omega
  rw [this, List.map_id]
theorem Rd.nat_lt {N : Nat} {S : List Int} {s : Nat} (h : Rd N S s) : ∀ i ∈ S.map Int.toNat, i < N := fun i hi => by
  obtain ⟨x, hx, rfl⟩ := List.mem_map.1 hi
  have := h.rng x hx
  omega
theorem Rd.len_le {N : Nat} {S : List Int} {s : Nat} (h : Rd N S s) : S.length ≤ N := by
  have := h.perm.length_eq
  rw [List.length_map, els_len] at this
  have := pcN_le N s
  omega
theorem Rd.perm_nat {N : Nat} {S : List Int} {s : Nat} (h : Rd N S s) : (S.map Int.toNat).Perm (els N s) := by
  have := h.perm.map Int.toNat
  rw [List.map_map] at this
  have e : (els N s).map (Int.toNat ∘ fun (n : Nat) => (n : Int)) = els N s := by
    have : (els N s).map (Int.toNat ∘ fun (n : Nat) => (n : Int)) = (els N s).map id := List.map_congr_left fun x _ => by simp
    rw [this, List.map_id]
  rwa [e] at this
theorem Opn.outl_nat {r c : Int} {S F : List Int} {R C s z : Nat} (h : Opn r c S F R C s z) : outlL R C s (S.map Int.toNat) = outl R C s := by
  rw [outlL_perm h.rs.perm_nat, outlL_els]; rfl
theorem fin_mm {R C s : Nat} (h : s < 2 ^ (R * C)) : Mm (R * C) (li (els (R * C) s)) s := ⟨h, fun k hk => by
  unfold li
  rw [List.mem_map]
  exact ⟨fun h => ⟨k, mem_els.2 ⟨hk, h⟩, rfl⟩, fun ⟨n, h1, h2⟩ => by rw [← Int.ofNat.inj h2]; exact (mem_els.1 h1).2⟩⟩
end Beetle09
