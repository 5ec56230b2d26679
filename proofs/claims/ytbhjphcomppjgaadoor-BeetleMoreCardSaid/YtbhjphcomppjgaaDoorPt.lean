/- Plain facts of chapter 9: a bale more, and a frozen one less. -/
import Derived.Test.YtbhjphcomppjgaaDoorPq
namespace Beetle09
set_option maxRecDepth 100000
/-- A store with as many bales or more, and as many frozen ones or fewer. -/
structure Mor (N : Nat) (sk zk : Nat) (l m : List Nat) : Prop where
  gl : Gd N l
  gm : Gd N m
  dj : ∀ i ∈ m, i ∉ l
  sl : Sub sk (setL l)
  sm : Sub (setL m) zk
theorem Mor.start {N s z : Nat} (h1 : s < 2 ^ N) (hN : N ≤ 25) (h2 : z < 2 ^ N) (hd : ∀ k, z.testBit k = true → s.testBit k = false) : Mor N s z (els 25 s).reverse (els 25 z) where
  gl := by rw [els_top h1 hN]; exact (els_gd N s).rev
  gm := by rw [els_top h2 hN]; exact els_gd N z
  dj i hi hi2 := by
    have a := (mem_els.1 hi).2
    have b := (mem_els.1 (List.mem_reverse.1 hi2)).2
    rw [hd i a] at b; cases b
  sl i hi := by
    rw [setL_bit, decide_eq_true_eq, List.mem_reverse, mem_els]
    exact ⟨Nat.lt_of_lt_of_le (bit_lt h1 hi) hN, hi⟩
  sm i hi := by
    rw [setL_bit, decide_eq_true_eq] at hi
    exact (mem_els.1 hi).2
theorem Mor.cons {N sk zk n : Nat} {l m : List Nat} (h : Mor N sk zk l m) (hn : n < N) (h1 : n ∉ l) (h2 : n ∉ m) : Mor N sk zk (n :: l) m where
  gl := ⟨fun i hi => by rcases List.mem_cons.1 hi with rfl | hi; exact hn; exact h.gl.lt i hi, List.nodup_cons.2 ⟨h1, h.gl.nd⟩⟩
  gm := h.gm
  dj i hi hi2 := by
    rcases List.mem_cons.1 hi2 with rfl | hi2
    · exact h2 hi
    · exact h.dj i hi hi2
  sl i hi := by
    have := h.sl i hi
    rw [setL_bit, decide_eq_true_eq] at this ⊢
    exact List.mem_cons_of_mem _ this
  sm := h.sm
theorem Mor.erase {N sk zk : Nat} {l m : List Nat} (h : Mor N sk zk l m) (i : Nat) : Mor N sk zk l (m.eraseIdx i) where
  gl := h.gl
  gm := ⟨fun k hk => h.gm.lt k (List.mem_of_mem_eraseIdx hk), List.Pairwise.sublist (List.eraseIdx_sublist m i) h.gm.nd⟩
  dj k hk := h.dj k (List.mem_of_mem_eraseIdx hk)
  sl := h.sl
  sm k hk := by
    rw [setL_bit, decide_eq_true_eq] at hk
    refine h.sm k ?_
    rw [setL_bit, decide_eq_true_eq]
    exact List.mem_of_mem_eraseIdx hk
theorem li_erase (m : List Nat) (i : Nat) : (li m).eraseIdx i = li (m.eraseIdx i) := by
  induction m generalizing i with
  | nil => simp [li]
  | cons x m ih =>
    cases i with
    | zero => rfl
    | succ i =>
      rw [show li (x :: m) = (x : Int) :: li m from rfl, List.eraseIdx_cons_succ, ih, List.eraseIdx_cons_succ]
      rfl
/-- Its days: none gets some later. -/
theorem Mor.days {R C sk zk : Nat} {l m : List Nat} (h : Mor (R * C) sk zk l m) (hs : Sd R C) : openE (R : Int) (C : Int) (li l) (li m) = 0 ∧ ∃ b : List Int, daysE (R : Int) (C : Int) (li l) (li m) = b ∧ b.length = R * C ∧ ∀ n, n < R * C → 0 ≤ (daysL R C zk sk).getD n 0 → 0 ≤ b.getD n 0 ∧ b.getD n 0 ≤ (daysL R C zk sk).getD n 0 := by
  obtain ⟨h0, hop⟩ := open_mk hs h.gl h.gm h.dj
  refine ⟨h0, _, rfl, ?_, fun n hn hp => ?_⟩
  · rw [hop.days h0, daysL_len]
  · rw [hop.days h0, daysL_get hn]
    rw [daysL_get hn] at hp ⊢
    exact cal_more h.sm h.sl hp
end Beetle09
