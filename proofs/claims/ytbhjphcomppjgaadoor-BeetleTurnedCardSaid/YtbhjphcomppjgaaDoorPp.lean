/- Plain facts of chapter 9: floors by numbers. -/
import Derived.Test.YtbhjphcomppjgaaDoorPm
namespace Beetle09
set_option maxRecDepth 100000
theorem or_swap (a b c : Nat) : a ||| b ||| c = a ||| (c ||| b) := by rw [Nat.or_assoc, Nat.or_comm b c]
/-- Bales, each once. -/
structure Gd (N : Nat) (l : List Nat) : Prop where
  lt : ∀ i ∈ l, i < N
  nd : l.Nodup
theorem sick_ok {N : Nat} : ∀ (l : List Nat) (s : Nat), Gd N l → (∀ i ∈ l, s.testBit i = false) → sickE N (li l) s = (0, s ||| setL l)
  | [], s, _, _ => by simp [li, sickE, setL]
  | n :: l, s, h, h3 => by
    obtain ⟨h2, h4⟩ := List.nodup_cons.1 h.nd
    rw [show li (n :: l) = (n : Int) :: li l from rfl, sickE_ok (h.lt n List.mem_cons_self) (h3 n List.mem_cons_self),
      sick_ok l (s ||| 2 ^ n) ⟨fun i hi => h.lt i (List.mem_cons_of_mem _ hi), h4⟩ (fun i hi => by
        rw [bit_ins, h3 i (List.mem_cons_of_mem _ hi), Bool.false_or]
        exact decide_eq_false fun e => h2 (e ▸ hi)), setL, or_swap]
theorem cold_ok {N t : Nat} : ∀ (l : List Nat) (s : Nat), Gd N l → (∀ i ∈ l, s.testBit i = false) → (∀ i ∈ l, t.testBit i = false) → coldE N t (li l) s = (0, s ||| setL l)
  | [], s, _, _, _ => by simp [li, coldE, setL]
  | n :: l, s, h, h3, h5 => by
    obtain ⟨h2, h4⟩ := List.nodup_cons.1 h.nd
    rw [show li (n :: l) = (n : Int) :: li l from rfl, coldE_ok (h.lt n List.mem_cons_self) (h3 n List.mem_cons_self) (h5 n List.mem_cons_self),
      cold_ok l (s ||| 2 ^ n) ⟨fun i hi => h.lt i (List.mem_cons_of_mem _ hi), h4⟩ (fun i hi => by
        rw [bit_ins, h3 i (List.mem_cons_of_mem _ hi), Bool.false_or]
        exact decide_eq_false fun e => h2 (e ▸ hi)) (fun i hi => h5 i (List.mem_cons_of_mem _ hi)), setL, or_swap]
theorem li_nodup {l : List Nat} (h : l.Nodup) : (li l).Nodup := by
  unfold li List.Nodup
  rw [List.pairwise_map]
  exact h.imp fun hne e => hne (Int.ofNat.inj e)
theorem mem_li {l : List Nat} {k : Nat} : ((k : Nat) : Int) ∈ li l ↔ k ∈ l := by
  unfold li
  rw [List.mem_map]
  exact ⟨fun ⟨a, h, e⟩ => Int.ofNat.inj e ▸ h, fun h => ⟨k, h, rfl⟩⟩
theorem Gd.rd {N : Nat} {l : List Nat} (h : Gd N l) : Rd N (li l) (setL l) where
  lt := setL_lt h.lt
  rng x hx := by
    obtain ⟨a, ha, rfl⟩ := List.mem_map.1 hx
    have := h.lt a ha
    omega
  nd := li_nodup h.nd
  mem k := by rw [setL_bit, decide_eq_true_eq, mem_li]
/-- A store of such bales is opened. -/
theorem open_mk {R C : Nat} {l m : List Nat} (hs : Sd R C) (hl : Gd (R * C) l) (hm : Gd (R * C) m) (hd : ∀ i ∈ m, i ∉ l) : openE (R : Int) (C : Int) (li l) (li m) = 0 ∧ Opn (R : Int) (C : Int) (li l) (li m) R C (setL l) (setL m) := by
  refine ⟨?_, rfl, rfl, hs, hl.rd, hm.rd, fun k hk => ?_⟩
  · have e : ((R : Int) * (C : Int)).toNat = R * C := by rw [← Int.natCast_mul]; rfl
    unfold openE
    rw [if_neg (by rw [sd_sdB hs]; simp), e, sick_ok l 0 hl (fun i _ => Nat.zero_testBit i), if_pos rfl,
      cold_ok m 0 hm (fun i _ => Nat.zero_testBit i) (fun i hi => by
        rw [Nat.zero_or, setL_bit]; exact decide_eq_false (hd i hi))]
  · rw [setL_bit, decide_eq_true_eq] at hk
    rw [setL_bit]; exact decide_eq_false (hd k hk)
theorem els_gd (N s : Nat) : Gd N (els N s) := ⟨fun i hi => (mem_els.1 hi).1, els_nodup N s⟩
theorem Gd.rev {N : Nat} {l : List Nat} (h : Gd N l) : Gd N l.reverse := ⟨fun i hi => h.lt i (List.mem_reverse.1 hi), by unfold List.Nodup; rw [List.pairwise_reverse]; exact h.nd.imp fun h e => h e.symm⟩
theorem setL_rev (l : List Nat) : setL l.reverse = setL l := Nat.eq_of_testBit_eq fun i => by rw [setL_bit, setL_bit]; simp
theorem li_rev (l : List Nat) : li l.reverse = (li l).reverse := List.map_reverse
/-- A floor by numbers is opened. -/
theorem open_made {R C s z : Nat} (hs : Sd R C) (h1 : s < 2 ^ (R * C)) (h2 : z < 2 ^ (R * C)) (hd : ∀ k, z.testBit k = true → s.testBit k = false) :
    openE (R : Int) (C : Int) (li (els 25 s).reverse) (li (els 25 z)) = 0 ∧ Opn (R : Int) (C : Int) (li (els 25 s).reverse) (li (els 25 z)) R C s z := by
  have := open_mk hs (els_gd (R * C) s).rev (els_gd (R * C) z) (fun i hi hi2 => by
    have a := (mem_els.1 hi).2
    have b := (mem_els.1 (List.mem_reverse.1 hi2)).2
    rw [hd i a] at b; cases b)
  rwa [setL_rev, setL_els h1, setL_els h2, ← els_top h1 hs.n25, ← els_top h2 hs.n25] at this
/-- The days of all bales while a day goes on. -/
theorem daysL_at {R C z s d : Nat} (h25 : R * C ≤ 25) (h : itr R C z s (d + 1) = itr R C z s d) : (calM R C z s d (R * C)).take (R * C) = daysL R C z s := by
  rw [calM_fin, ← calA_take h25]
  congr 1
  have e2 : itr R C z s (d + 1 + 1) = itr R C z s (d + 1) := by
    show stp R C z (itr R C z s (d + 1)) = _
    rw [h]
    exact h
  exact calA_days e2
theorem daysL_len (R C z s : Nat) : (daysL R C z s).length = R * C := by simp [daysL]
theorem daysL_get {R C z s i : Nat} (h : i < R * C) : (daysL R C z s).getD i 0 = cal R C z s (R * C) i := by
  unfold daysL; rw [map_get, if_pos h]
/-- The bales that some day gets, as a set. -/
theorem fin_days {R C z s : Nat} (hs : s < 2 ^ (R * C)) : ofP (fun n => decide (0 ≤ cal R C z s (R * C) n)) (R * C) = fin R C z s := Nat.eq_of_testBit_eq fun i => by
  rw [ofP_bit]
  by_cases h : i < R * C
  · rw [decide_eq_true h, Bool.true_and, Bool.eq_iff_iff, decide_eq_true_eq]
    exact (cal_nonneg (R * C) i).1
  · rw [decide_eq_false h, Bool.false_and]
    cases hb : (fin R C z s).testBit i with
    | false => rfl
    | true => exact absurd (bit_lt (fin_lt hs) hb) h
theorem ofP_succ (p : Nat → Bool) (k : Nat) : ofP p (k + 1) = if p k then ofP p k ||| 2 ^ k else ofP p k := rfl
/-- What the numbers of a floor leave of a set. -/
theorem mask_lt (x N : Nat) : x &&& (2 ^ N - 1) < 2 ^ N := by
  have := Nat.two_pow_pos N
  exact Nat.lt_of_le_of_lt Nat.and_le_right (by omega)
end Beetle09
