/- Plain facts of chapter 9: neighbours as bits, outlines. -/
import Derived.Test.YtbhjphcomppjgaaDoorPb
namespace Beetle09
set_option maxRecDepth 100000

/-- The neighbours of a bale, as a set. -/
def nbS (R C n : Nat) : Nat := ofP (fun m => decide (m ∈ nb R C n)) 25
/-- Sides that there can be. -/
structure Sd (R C : Nat) : Prop where
  r1 : 1 ≤ R
  r5 : R ≤ 5
  c1 : 1 ≤ C
  c5 : C ≤ 5
theorem Sd.n25 {R C : Nat} (h : Sd R C) : R * C ≤ 25 := Nat.le_trans (Nat.mul_le_mul h.r5 h.c5) (by decide)
theorem Sd.n1 {R C : Nat} (h : Sd R C) : 1 ≤ R * C := Nat.mul_le_mul h.r1 h.c1
theorem sd_cases {p : Nat → Nat → Prop} (h : ∀ R, R < 5 → ∀ C, C < 5 → p (R + 1) (C + 1)) {R C : Nat} (hs : Sd R C) : p R C := by
  obtain ⟨h1, h2, h3, h4⟩ := hs
  obtain ⟨r, rfl⟩ : ∃ r, R = r + 1 := ⟨R - 1, by omega⟩
  obtain ⟨c, rfl⟩ : ∃ c, C = c + 1 := ⟨C - 1, by omega⟩
  exact h r (by omega) c (by omega)
theorem nb_els_d : ∀ R, R < 5 → ∀ C, C < 5 → ∀ n, n < (R + 1) * (C + 1) → els ((R + 1) * (C + 1)) (nbS (R + 1) (C + 1) n) = nb (R + 1) (C + 1) n := by decide +kernel
theorem nb_sym_d : ∀ R, R < 5 → ∀ C, C < 5 → ∀ n, n < (R + 1) * (C + 1) → ∀ k, k < (R + 1) * (C + 1) → decide (k ∈ nb (R + 1) (C + 1) n) = decide (n ∈ nb (R + 1) (C + 1) k) := by decide +kernel
theorem nb_self_d : ∀ R, R < 5 → ∀ C, C < 5 → ∀ n, n < (R + 1) * (C + 1) → decide (n ∈ nb (R + 1) (C + 1) n) = false := by decide +kernel
theorem nbS_lt_d : ∀ R, R < 5 → ∀ C, C < 5 → ∀ n, n < (R + 1) * (C + 1) → nbS (R + 1) (C + 1) n < 2 ^ ((R + 1) * (C + 1)) := by decide +kernel
theorem nb_els {R C n : Nat} (hs : Sd R C) (hn : n < R * C) : els (R * C) (nbS R C n) = nb R C n :=
  sd_cases (p := fun R C => ∀ n, n < R * C → els (R * C) (nbS R C n) = nb R C n) nb_els_d hs n hn
theorem nb_sym {R C n k : Nat} (hs : Sd R C) (hn : n < R * C) (hk : k < R * C) : k ∈ nb R C n ↔ n ∈ nb R C k :=
  decide_eq_decide.1 (sd_cases (p := fun R C => ∀ n, n < R * C → ∀ k, k < R * C → decide (k ∈ nb R C n) = decide (n ∈ nb R C k)) nb_sym_d hs n hn k hk)
theorem nb_self {R C n : Nat} (hs : Sd R C) (hn : n < R * C) : n ∉ nb R C n :=
  of_decide_eq_false (sd_cases (p := fun R C => ∀ n, n < R * C → decide (n ∈ nb R C n) = false) nb_self_d hs n hn)
theorem nbS_lt {R C n : Nat} (hs : Sd R C) (hn : n < R * C) : nbS R C n < 2 ^ (R * C) :=
  sd_cases (p := fun R C => ∀ n, n < R * C → nbS R C n < 2 ^ (R * C)) nbS_lt_d hs n hn
theorem nbS_bit {R C n k : Nat} (hs : Sd R C) (hn : n < R * C) : (nbS R C n).testBit k = true ↔ k ∈ nb R C n := by
  rw [← nb_els hs hn, mem_els]
  exact ⟨fun h => ⟨bit_lt (nbS_lt hs hn) h, h⟩, fun h => h.2⟩
theorem nb_lt {R C n k : Nat} (hs : Sd R C) (hn : n < R * C) (h : k ∈ nb R C n) : k < R * C := by
  rw [← nb_els hs hn, mem_els] at h; exact h.1
/-- How many neighbours of a set: by bits. -/
theorem cnt_pc {R C n : Nat} (hs : Sd R C) (hn : n < R * C) (s : Nat) : pcN 32 (nbS R C n &&& s) = cnt R C s n := by
  have hl : nbS R C n &&& s < 2 ^ (R * C) := Nat.lt_of_le_of_lt Nat.and_le_left (nbS_lt hs hn)
  rw [pcN_top hl (by have := hs.n25; omega), cnt, ← nb_els hs hn, els, List.countP_filter, pcN]
  refine List.countP_congr fun i _ => ?_
  rw [Nat.testBit_and, Bool.and_comm]
theorem cnt_le4 (R C s n : Nat) : cnt R C s n ≤ 4 := by
  refine Nat.le_trans List.countP_le_length ?_
  unfold nb
  rw [List.length_append, List.length_append, List.length_append]
  split <;> split <;> split <;> split <;> simp

def sm (f : Nat → Int) : Nat → Int
  | 0 => 0
  | n + 1 => sm f n + f n
theorem sm_congr {f g : Nat → Int} : ∀ n, (∀ i, i < n → f i = g i) → sm f n = sm g n
  | 0, _ => rfl
  | n + 1, h => by rw [sm, sm, sm_congr n fun i hi => h i (by omega), h n (by omega)]
theorem sm_add (f g : Nat → Int) : ∀ n, sm (fun i => f i + g i) n = sm f n + sm g n
  | 0 => rfl
  | n + 1 => by rw [sm, sm, sm, sm_add f g n]; omega
theorem sm_sub (f g : Nat → Int) : ∀ n, sm (fun i => f i - g i) n = sm f n - sm g n
  | 0 => rfl
  | n + 1 => by rw [sm, sm, sm, sm_sub f g n]; omega
theorem sm_delta (f : Nat → Int) (m : Nat) : ∀ n, sm (fun i => if i = m then f i else 0) n = if m < n then f m else 0
  | 0 => rfl
  | n + 1 => by
    rw [sm, sm_delta f m n]
    by_cases h : n = m
    · subst h; rw [if_neg (by omega), if_pos rfl, if_pos (by omega)]; omega
    · rw [if_neg h]
      by_cases h2 : m < n
      · rw [if_pos h2, if_pos (by omega)]; omega
      · rw [if_neg h2, if_neg (by omega)]; rfl
theorem sm_le {f g : Nat → Int} : ∀ n, (∀ i, i < n → f i ≤ g i) → sm f n ≤ sm g n
  | 0, _ => Int.le_refl _
  | n + 1, h => by
    rw [sm, sm]
    have := sm_le n fun i hi => h i (by omega)
    have := h n (by omega)
    omega
theorem countP_sm (p : Nat → Bool) : ∀ N, ((List.range N).countP p : Int) = sm (fun i => if p i then 1 else 0) N
  | 0 => rfl
  | N + 1 => by
    rw [List.range_succ, List.countP_append, sm, ← countP_sm p N, List.countP_singleton]
    split <;> simp
theorem cnt_sm {R C n : Nat} (hs : Sd R C) (hn : n < R * C) (s : Nat) : (cnt R C s n : Int) = sm (fun k => if k ∈ nb R C n ∧ s.testBit k = true then 1 else 0) (R * C) := by
  rw [cnt, ← nb_els hs hn, els, List.countP_filter, countP_sm]
  refine sm_congr _ fun k _ => ?_
  simp only [Bool.and_eq_true, nbS_bit hs hn]
  have e : k ∈ List.filter (nbS R C n).testBit (List.range (R * C)) ↔ k ∈ nb R C n := by rw [← nb_els hs hn, els]
  by_cases h1 : s.testBit k = true
  · by_cases h2 : k ∈ nb R C n
    · rw [if_pos ⟨h1, h2⟩, if_pos ⟨e.2 h2, h1⟩]
    · rw [if_neg fun h => h2 h.2, if_neg fun h => h2 (e.1 h.1)]
  · rw [if_neg fun h => h1 h.1, if_neg fun h => h1 h.2]
/-- The outline of a set. -/
def outl (R C s : Nat) : Int := sm (fun n => if s.testBit n then 4 - (cnt R C s n : Int) else 0) (R * C)
theorem bit_ins (s m i : Nat) : (s ||| 2 ^ m).testBit i = (s.testBit i || decide (m = i)) := by rw [Nat.testBit_or, two_bit]
theorem cnt_ins {R C n s m : Nat} (hs : Sd R C) (hn : n < R * C) (hm : m < R * C) (h : s.testBit m = false) : (cnt R C (s ||| 2 ^ m) n : Int) = cnt R C s n + if m ∈ nb R C n then 1 else 0 := by
  rw [cnt_sm hs hn, cnt_sm hs hn]
  have e : (if m ∈ nb R C n then (1 : Int) else 0) = sm (fun k => if k = m then (if k ∈ nb R C n then 1 else 0) else 0) (R * C) := by
    rw [sm_delta, if_pos hm]
  rw [e, ← sm_add]
  refine sm_congr _ fun k _ => ?_
  rw [bit_ins]
  by_cases hk : k = m
  · subst hk
    rw [h]
    by_cases hb : k ∈ nb R C n <;> simp [hb]
  · have : ¬ m = k := fun e => hk e.symm
    simp [hk, this]
theorem outl_ins {R C s m : Nat} (hs : Sd R C) (hm : m < R * C) (h : s.testBit m = false) : outl R C (s ||| 2 ^ m) = outl R C s + 4 - 2 * cnt R C s m := by
  have e1 : (cnt R C s m : Int) = sm (fun n => if n ∈ nb R C m ∧ s.testBit n = true then 1 else 0) (R * C) := cnt_sm hs hm s
  have e2 : (4 : Int) - cnt R C s m = sm (fun n => if n = m then 4 - (cnt R C s n : Int) else 0) (R * C) := by rw [sm_delta (fun n => 4 - (cnt R C s n : Int)), if_pos hm]
  have e3 : outl R C (s ||| 2 ^ m) = outl R C s - cnt R C s m + (4 - cnt R C s m) := by
    rw [e2, e1]
    unfold outl
    rw [← sm_sub, ← sm_add]
    refine sm_congr _ fun n hn => ?_
    rw [bit_ins, cnt_ins hs hn hm h]
    have hsym := nb_sym hs hn hm (R := R) (C := C)
    by_cases hnm : n = m
    · subst hnm
      have := nb_self hs hm
      simp [h, this]
    · have h2 : ¬ m = n := fun e => hnm e.symm
      by_cases hsn : s.testBit n = true
      · by_cases hb : m ∈ nb R C n
        · simp [hsn, hb, hsym.1 hb, hnm]; omega
        · have hb2 : n ∉ nb R C m := fun e => hb (hsym.2 e)
          simp [hsn, hb, hb2, hnm]
      · simp [hsn, hnm, h2]
  omega
theorem outl_some {R C z s : Nat} (hs : Sd R C) (p : Nat → Bool) (hp : ∀ n, n < R * C → p n = true → gets R C z s n = true) : ∀ k, k ≤ R * C → outl R C (s ||| ofP p k) ≤ outl R C s
  | 0, _ => by simp [ofP]
  | k + 1, hk => by
    have ih := outl_some hs p hp k (by omega)
    rw [ofP]
    by_cases h : p k = true
    · rw [if_pos h, ← Nat.or_assoc]
      obtain ⟨g1, _, g3⟩ := gets_not (hp k (by omega) h)
      have hb : (s ||| ofP p k).testBit k = false := by rw [Nat.testBit_or, ofP_bit, g1]; simp
      rw [outl_ins hs (by omega) hb]
      have := cnt_mono (R := R) (C := C) (n := k) (s := s) (t := s ||| ofP p k) (fun i hi => by rw [Nat.testBit_or, hi]; rfl)
      omega
    · rw [if_neg h]; exact ih
theorem outl_stp {R C z s : Nat} (hs : Sd R C) : outl R C (stp R C z s) ≤ outl R C s := outl_some hs _ (fun _ _ h => h) _ (Nat.le_refl _)
theorem outl_itr {R C z s : Nat} (hs : Sd R C) : ∀ d, outl R C (itr R C z s d) ≤ outl R C s
  | 0 => Int.le_refl _
  | d + 1 => Int.le_trans (outl_stp hs) (outl_itr hs d)
theorem outl_fin {R C z s : Nat} (hs : Sd R C) : outl R C (fin R C z s) ≤ outl R C s := outl_itr hs _
theorem outl_nonneg (R C s : Nat) : 0 ≤ outl R C s := by
  have : sm (fun _ => 0) (R * C) ≤ outl R C s := sm_le _ fun i _ => by
    have := cnt_le4 R C s i
    split <;> omega
  have h0 : ∀ n, sm (fun _ => 0) n = 0 := fun n => by
    induction n with
    | zero => rfl
    | succ n ih => rw [sm, ih]; rfl
  rw [h0] at this; exact this
/-- The whole store. -/
def allS (R C : Nat) : Nat := 2 ^ (R * C) - 1
theorem outl_all_d : ∀ R, R < 5 → ∀ C, C < 5 → outl (R + 1) (C + 1) (allS (R + 1) (C + 1)) = 2 * ((R + 1 : Int) + (C + 1)) := by decide +kernel
theorem outl_all {R C : Nat} (hs : Sd R C) : outl R C (allS R C) = 2 * ((R : Int) + C) :=
  sd_cases (p := fun R C => outl R C (allS R C) = 2 * ((R : Int) + C)) outl_all_d hs
/-- The set of a list. -/
def setL : List Nat → Nat
  | [] => 0
  | n :: l => setL l ||| 2 ^ n
theorem setL_bit (l : List Nat) (i : Nat) : (setL l).testBit i = decide (i ∈ l) := by
  induction l with
  | nil => simp [setL]
  | cons n l ih =>
    rw [setL, bit_ins, ih]
    by_cases h : n = i
    · subst h; simp
    · have : ¬ i = n := fun e => h e.symm
      simp [h, this]
theorem setL_lt {l : List Nat} {N : Nat} (h : ∀ i ∈ l, i < N) : setL l < 2 ^ N :=
  Nat.lt_pow_two_of_testBit _ fun i hi => by
    rw [setL_bit]
    exact decide_eq_false fun hm => by have := h i hm; omega
theorem setL_app (a b : List Nat) : setL (a ++ b) = setL a ||| setL b := Nat.eq_of_testBit_eq fun i => by
  rw [Nat.testBit_or, setL_bit, setL_bit, setL_bit]; simp
/-- With some bales more, an outline grows by at most four for each. -/
theorem outl_more {R C s : Nat} (hs : Sd R C) : ∀ t : List Nat, (∀ i ∈ t, i < R * C) → outl R C (s ||| setL t) ≤ outl R C s + 4 * t.length
  | [], _ => by simp [setL]
  | n :: t, h => by
    have ih := outl_more (s := s) hs t fun i hi => h i (List.mem_cons_of_mem _ hi)
    rw [setL, ← Nat.or_assoc, List.length_cons]
    cases hb : (s ||| setL t).testBit n with
    | true =>
      have : s ||| setL t ||| 2 ^ n = s ||| setL t := Nat.eq_of_testBit_eq fun i => by
        rw [bit_ins]
        by_cases e : n = i
        · subst e; rw [hb]; rfl
        · simp [e]
      rw [this]; omega
    | false =>
      rw [outl_ins hs (h n List.mem_cons_self) hb]; omega
theorem setL_els {N s : Nat} (hs : s < 2 ^ N) : setL (els N s) = s := Nat.eq_of_testBit_eq fun i => by
  rw [setL_bit]
  cases h : s.testBit i with
  | true => exact decide_eq_true (mem_els.2 ⟨bit_lt hs h, h⟩)
  | false => exact decide_eq_false fun hm => by rw [(mem_els.1 hm).2] at h; cases h
end Beetle09
