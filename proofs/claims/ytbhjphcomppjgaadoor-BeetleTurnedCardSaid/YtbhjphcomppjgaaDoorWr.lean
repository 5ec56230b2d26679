/- Walks of chapter 9: lists and blocks are compared; the examples' stores; contracts with their results written out. -/
import Derived.Test.YtbhjphcomppjgaaDoorWq
namespace Go.Proofs.YtbhjphcomppjgaaDoor
open Go.RowKit Beetle09

set_option maxHeartbeats 400000 in
theorem same_yes (a b : Option Addr) (n c n' c' : Nat) (l l' : List Int) (w : World) (h : IsL w a n c l) (h' : IsL w b n' c' l') (he : l = l') :
    Calls Tryd.prog 23 #[.slice a n c, .slice b n' c'] w fun e w' => e = .returned (.bool true) ∧ Below w.heap.size w w' := by
  subst he
  obtain rfl : n' = n := by rw [← h.len, ← h'.len]
  have hcap := h.cap
  have hle := h.le
  have hcap' := h'.cap
  have hle' := h'.le
  have hr : ((n' : Int) != (n' : Int)) = false := by simp
  go_enter Tryd.func23, Tryd.ntmps23
  go_wp2
  go_loopw [5] (fun vi wr => ∃ k : Nat, k ≤ n' ∧ vi = .int .i64 k ∧ Below w.heap.size w wr) (fun vi _ => n' - (intOf vi).toNat)
  case atStart => exact ⟨0, by omega, rfl, Below.refl _ _⟩
  case round =>
    obtain ⟨k, hk, rfl, hb⟩ := hrel
    by_cases hlt : k < n'
    · obtain ⟨b1, o1, rfl, hb1, hc1⟩ := h.cells (by omega)
      obtain ⟨b2, o2, rfl, hb2, hc2⟩ := h'.cells (by omega)
      have x1 := (hb.cell (p := ⟨b1, o1 + k, none⟩) hb1).trans (hc1 k hlt)
      have x2 := (hb.cell (p := ⟨b2, o2 + k, none⟩) hb2).trans (hc2 k hlt)
      clear hc1 hc2
      generalize l.getD k 0 = x at *
      have q1 : (k : Int) < (n' : Int) := by omega
      have hx : (x != x) = false := by simp
      go_wp2
      go_quiet (fail)
      go_wp2
      go_roundw
      case rel => exact ⟨k + 1, by omega, by go_num, belowN hb _⟩
      case measure => simp [intOf]; omega
    · go_wp2
      go_ret
      exact ⟨rfl, hb⟩
set_option maxRecDepth 100000 in
theorem eq_quad (u v x y : Int) (w : World) : (Op.equalIn 10000 55 (.agg #[.int .i64 u, .int .i64 v, .int .i64 x, .int .i64 y]) (.agg #[.int .i64 u, .int .i64 v, .int .i64 x, .int .i64 y])).run Tryd.prog w = .ok true w := by
  obtain ⟨i, hi, _⟩ := info_parts elem3
  rw [show 10000 = 9999 + 1 from rfl, run_equalIn_array w 9999 _ _ Tryd.underlying55 hi, cells3]
  have := eq_items [u, v, x, y] [u, v, x, y] w (List.range 4) (fun i hi => by rw [List.mem_range] at hi; simp; omega)
  simpa using this
set_option maxHeartbeats 1000000 in
theorem blocks_yes (a b : Option Addr) (n m c c' B B' : Nat) (A A' : List Q4) (w : World) (h : OwnQ w B a n c A) (h' : OwnQ w B' b m c' A') (he : A = A') :
    Calls Tryd.prog 22 #[.slice a n c, .slice b m c'] w fun e w' => e = .returned (.bool true) ∧ Below w.heap.size w w' := by
  subst he
  obtain rfl : m = n := by rw [← h.len, ← h'.len]
  have hcap := h.caps
  have hcap' := h'.caps
  have hr : ((m : Int) != (m : Int)) = false := by simp
  go_enter Tryd.func22, Tryd.ntmps22
  go_wp2
  go_loopw [5] (fun vi wr => ∃ k : Nat, k ≤ m ∧ vi = .int .i64 k ∧ Below w.heap.size w wr) (fun vi _ => m - (intOf vi).toNat)
  case atStart => exact ⟨0, by omega, rfl, Below.refl _ _⟩
  case round =>
    obtain ⟨k, hk, rfl, hb⟩ := hrel
    by_cases hlt : k < m
    · obtain ⟨g1, rfl, _, _⟩ := h.addr (by omega)
      obtain ⟨g2, rfl, _, _⟩ := h'.addr (by omega)
      obtain ⟨x1, x2, x3, x4⟩ := (h.below hb).cell k hlt
      obtain ⟨y1, y2, y3, y4⟩ := (h'.below hb).cell k hlt
      generalize A.getD k (0, 0, 0, 0) = p at *
      obtain ⟨p1, p2, p3, p4⟩ := p
      simp only [iN] at x1 x2 x3 x4 y1 y2 y3 y4
      have q1 : (k : Int) < (m : Int) := by omega
      have hq := eq_quad (p1 : Int) (p2 : Int) (p3 : Int) (p4 : Int)
      go_wp2
      go_quiet (fail)
      go_wp2
      go_roundw
      case rel => exact ⟨k + 1, by omega, by go_num, belowN hb _⟩
      case measure => simp [intOf]; omega
    · go_wp2
      go_ret
      exact ⟨rfl, hb⟩
theorem A_any (w : World) : Calls Tryd.prog 41 #[] w fun e w' => ∃ a n c, e = .returned (stV 3 3 a none n c 0 0) ∧ IsL w' a n c [0, 4, 8] ∧ Below w.heap.size w w' := by
  go_enter Tryd.func41, Tryd.ntmps41
  go_wp2_with fail
  go_wp2_with fail
  refine (list_any _ _ _ _).mono ?_
  rintro e w' ⟨rfl, rfl⟩
  go_wp2_with fail
  have hI := isL_lit (w.alloc (.cells #[.int .i64 3, .int .i64 3, .slice (some ⟨w.heap.size + 1, 0, none⟩) 3 3, .slice none 0 0] 24)) ([0, 4, 8] : List Int) #[.int .i64 0, .int .i64 4, .int .i64 8] 3 3 rfl rfl (by decide)
  have hs : (w.alloc (.cells #[.int .i64 3, .int .i64 3, .slice (some ⟨w.heap.size + 1, 0, none⟩) 3 3, .slice none 0 0] 24)).heap.size = w.heap.size + 1 := by simp
  rw [hs] at hI
  have hB := ((Below.refl w.heap.size w).alloc (Nat.le_refl _) (.cells #[.int .i64 3, .int .i64 3, .slice (some ⟨w.heap.size + 1, 0, none⟩) 3 3, .slice none 0 0] 24)).alloc (by rw [hs]; omega) (.cells #[.int .i64 0, .int .i64 4, .int .i64 8] 3)
  refine bodyPost_ret (v := stV 3 3 (some ⟨w.heap.size + 1, 0, none⟩) none 3 3 0 0) (by simp [results, Tryd.results41, go_sem]) rfl ⟨_, _, _, rfl, hI, hB⟩
theorem B_any (w : World) : Calls Tryd.prog 40 #[] w fun e w' => ∃ a n c, e = .returned (stV 3 3 a none n c 0 0) ∧ IsL w' a n c [0, 1] ∧ Below w.heap.size w w' := by
  go_enter Tryd.func40, Tryd.ntmps40
  go_wp2_with fail
  go_wp2_with fail
  refine (list_any _ _ _ _).mono ?_
  rintro e w' ⟨rfl, rfl⟩
  go_wp2_with fail
  have hI := isL_lit (w.alloc (.cells #[.int .i64 3, .int .i64 3, .slice (some ⟨w.heap.size + 1, 0, none⟩) 2 2, .slice none 0 0] 24)) ([0, 1] : List Int) #[.int .i64 0, .int .i64 1] 3 2 rfl rfl (by decide)
  have hs : (w.alloc (.cells #[.int .i64 3, .int .i64 3, .slice (some ⟨w.heap.size + 1, 0, none⟩) 2 2, .slice none 0 0] 24)).heap.size = w.heap.size + 1 := by simp
  rw [hs] at hI
  have hB := ((Below.refl w.heap.size w).alloc (Nat.le_refl _) (.cells #[.int .i64 3, .int .i64 3, .slice (some ⟨w.heap.size + 1, 0, none⟩) 2 2, .slice none 0 0] 24)).alloc (by rw [hs]; omega) (.cells #[.int .i64 0, .int .i64 1] 3)
  refine bodyPost_ret (v := stV 3 3 (some ⟨w.heap.size + 1, 0, none⟩) none 2 2 0 0) (by simp [results, Tryd.results40, go_sem]) rfl ⟨_, _, _, rfl, hI, hB⟩
section
variable {f : Nat} {args : Array Value} {w : World} {E x X Y u v : Int} {L l : List Int} {Q q : List Q4}
theorem lp_c (h : Calls Tryd.prog f args w (LP E L w)) (hx : E = x) (hr : L = l) : Calls Tryd.prog f args w (LP x l w) := by subst hx hr; exact h
theorem nnp_c (h : Calls Tryd.prog f args w (NNP E X Y w)) (hx : E = x) (hu : X = u) (hv : Y = v) : Calls Tryd.prog f args w (NNP x u v w) := by subst hx hu hv; exact h
theorem ep_c (h : Calls Tryd.prog f args w (EP E w)) (hx : E = x) : Calls Tryd.prog f args w (EP x w) := by subst hx; exact h
theorem bp_c (h : Calls Tryd.prog f args w (BP E Q w)) (hx : E = x) (hq : Q = q) : Calls Tryd.prog f args w (BP x q w) := by subst hx hq; exact h
end
end Go.Proofs.YtbhjphcomppjgaaDoor
