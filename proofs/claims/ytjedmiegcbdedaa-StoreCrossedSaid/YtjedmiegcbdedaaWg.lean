/- Walks of chapter 11: both, Meet, Finer. -/
import Derived.Test.YtjedmiegcbdedaaWf
namespace Go.Proofs.Ytjedmiegcbdedaa
open Go.RowKit Store11

set_option maxHeartbeats 1000000 in
theorem both_any (a b : Option Addr) (n c m d : Nat) (l l' : List Int) (w : World) (h : IsL w a n c l) (h' : IsL w b m d l') :
    Calls Try.prog 70 #[.slice a n c, .slice b m d] w fun e w' => e = .returned (.int .i64 (bothE l l')) ∧ w = w' := by
  have i0 : ∀ w, (Instr.index 89 (.agg #[.slice a n c, .slice b m d]) (.int .i64 0)).run Try.prog w = .ok (.slice a n c) w := fun _ => by kernel_rfl
  have i1 : ∀ w, (Instr.index 89 (.agg #[.slice a n c, .slice b m d]) (.int .i64 1)).run Try.prog w = .ok (.slice b m d) w := fun _ => by kernel_rfl
  have hl := h.len
  have hl' := h'.len
  have hca : (n : Int) ≤ 9223372036854775807 := by have := h.cap; have := h.le; omega
  have hcb : (m : Int) ≤ 9223372036854775807 := by have := h'.cap; have := h'.le; omega
  by_cases ha : chkL l = 0
  · by_cases hb : chkL l' = 0
    · have hx : bothE l l' = if n = m then 0 else 5 := by unfold bothE; rw [ha, hb, hl, hl']; simp
      have HX := Lib.hid hx
      have HA := Lib.hid ha
      have HB := Lib.hid hb
      clear hx ha hb hl hl'
      go_enter Try.func70, Try.ntmps70
      go_wp2
      go_loop [11] (fun vi => ∃ k : Nat, k ≤ 2 ∧ vi = .int .i64 k) (fun vi => 2 - (intOf vi).toNat)
      case atStart => exact ⟨0, by omega, rfl⟩
      case round =>
        obtain ⟨k, hk, rfl⟩ := hrel
        rcases (by omega : k = 0 ∨ k = 1 ∨ k = 2) with rfl | rfl | rfl
        · go_wp2_with (go_at_call 21; refine (Check_any a n c l _ h).mono ?_; rintro e w' ⟨rfl, rfl⟩; rw [HA.out])
          go_round
          case rel => exact ⟨1, by omega, rfl⟩
          case measure => simp [intOf]
        · go_wp2_with (go_at_call 21; refine (Check_any b m d l' _ h').mono ?_; rintro e w' ⟨rfl, rfl⟩; rw [HB.out])
          go_round
          case rel => exact ⟨2, by omega, rfl⟩
          case measure => simp [intOf]
        · by_cases hnm : n = m
          · subst hnm
            have he : ((n : Int) != (n : Int)) = false := by simp
            have HX2 : Hid ((0 : Int) = bothE l l') := Lib.hid (by rw [HX.out, if_pos rfl])
            go_wp2
            go_ret
            exact ⟨ret_i HX2.out, rfl⟩
          · have he : ((n : Int) != (m : Int)) = true := by simp; omega
            have HX2 : Hid ((5 : Int) = bothE l l') := Lib.hid (by rw [HX.out, if_neg hnm])
            clear hnm
            go_wp2
            go_ret
            exact ⟨ret_i HX2.out, rfl⟩
    · have HX : Hid (chkL l' = bothE l l') := Lib.hid (by unfold bothE; rw [ha]; simp [hb])
      have HA := Lib.hid ha
      have HB := Lib.hid hb
      have hq : (chkL l' != 0) = true := by simpa using hb
      clear ha hb
      go_enter Try.func70, Try.ntmps70
      go_wp2
      go_loop [11] (fun vi => ∃ k : Nat, k ≤ 1 ∧ vi = .int .i64 k) (fun vi => 2 - (intOf vi).toNat)
      case atStart => exact ⟨0, by omega, rfl⟩
      case round =>
        obtain ⟨k, hk, rfl⟩ := hrel
        rcases (by omega : k = 0 ∨ k = 1) with rfl | rfl
        · go_wp2_with (go_at_call 21; refine (Check_any a n c l _ h).mono ?_; rintro e w' ⟨rfl, rfl⟩; rw [HA.out])
          go_round
          case rel => exact ⟨1, by omega, rfl⟩
          case measure => simp [intOf]
        · go_wp2_with (go_at_call 21; refine (Check_any b m d l' _ h').mono ?_; rintro e w' ⟨rfl, rfl⟩)
          go_ret
          exact ⟨ret_i HX.out, rfl⟩
  · have HX : Hid (chkL l = bothE l l') := Lib.hid (by unfold bothE; simp [ha])
    have hq : (chkL l != 0) = true := by simpa using ha
    clear ha
    go_enter Try.func70, Try.ntmps70
    go_wp2
    go_loop [11] (fun vi => vi = .int .i64 0) (fun vi => 2 - (intOf vi).toNat)
    case atStart => rfl
    case round =>
      subst hrel
      go_wp2_with (go_at_call 21; refine (Check_any a n c l _ h).mono ?_; rintro e w' ⟨rfl, rfl⟩)
      go_ret
      exact ⟨ret_i HX.out, rfl⟩

set_option maxHeartbeats 1000000 in
set_option maxRecDepth 100000 in
theorem meet1_any (p q k : Nat) (a b : Option Addr) (n c m d : Nat) (l l' : List Int) (w : World) (h : IsL w a n c l) (h' : IsL w b m d l') (hp : w.cell? ⟨p, 0, none⟩ = some (.slice a n c)) (hq : w.cell? ⟨q, 0, none⟩ = some (.slice b m d)) (hk : k < n) (hk' : k < m) :
    Calls Try.prog 92 #[.int .i64 k, .pointer (some ⟨p, 0, none⟩), .pointer (some ⟨q, 0, none⟩)] w fun e w' => e = .returned (.agg #[.int .i64 (l.getD k 0), .int .i64 (l'.getD k 0)]) ∧ Below w.heap.size w w' := by
  obtain ⟨w1, hw1⟩ : ∃ w1 : World, w1 = w.alloc (.cells #[.int .i64 0, .int .i64 0] 49) := ⟨_, rfl⟩
  obtain ⟨r, hr⟩ : ∃ r : Nat, r = w.heap.size := ⟨_, rfl⟩
  have hb : Below r w w1 := by rw [hw1, hr]; exact (Below.refl _ w).alloc (Nat.le_refl _) _
  have hbr : w1.heap[r]? = some (.cells #[.int .i64 0, .int .i64 0] 49 (0, 0)) := by rw [hw1, hr]; exact heap_alloc_new w _
  obtain ⟨b1, o1, rfl, hb1, hc1⟩ := h.cells (by omega)
  obtain ⟨b2, o2, rfl, hb2, hc2⟩ := h'.cells (by omega)
  have x1 : w1.cell? ⟨b1, o1 + k, none⟩ = some (.int .i64 (l.getD k 0)) := (hb.cell (p := ⟨b1, o1 + k, none⟩) (by rw [hr]; exact hb1)).trans (hc1 k hk)
  have x2 : w1.cell? ⟨b2, o2 + k, none⟩ = some (.int .i64 (l'.getD k 0)) := (hb.cell (p := ⟨b2, o2 + k, none⟩) (by rw [hr]; exact hb2)).trans (hc2 k hk')
  have y1 : w1.cell? ⟨p, 0, none⟩ = some (.slice (some ⟨b1, o1, none⟩) n c) := (hb.cell (p := ⟨p, 0, none⟩) (by rw [hr]; exact World.block_lt_of_cell? w _ hp)).trans hp
  have y2 : w1.cell? ⟨q, 0, none⟩ = some (.slice (some ⟨b2, o2, none⟩) m d) := (hb.cell (p := ⟨q, 0, none⟩) (by rw [hr]; exact World.block_lt_of_cell? w _ hq)).trans hq
  have z0 : w1.cell? ⟨r, 0, none⟩ = some (.int .i64 0) := by rw [World.cell?]; simp [hbr]
  have z1 : w1.cell? ⟨r, 1, none⟩ = some (.int .i64 0) := by rw [World.cell?]; simp [hbr]
  have g0 : w1.frozen? ⟨r, 0, none⟩ = false := by simp [World.frozen?, hbr]
  have g1 : w1.frozen? ⟨r, 1, none⟩ = false := by simp [World.frozen?, hbr]
  have hcap := h.cap
  have hle := h.le
  have hcap' := h'.cap
  have hle' := h'.le
  have q1 : (k : Int) < (n : Int) := by omega
  have q2 : (k : Int) < (m : Int) := by omega
  generalize l.getD k 0 = x at *
  generalize l'.getD k 0 = y at *
  have HB := Lib.hid (hr ▸ hb : Below w.heap.size w w1)
  have HR := Lib.hid hr
  clear hc1 hc2 h h' hp hq hbr hb
  go_enter Try.func92, Try.ntmps92
  go_upto_region 1 with (fail)
  simp only [← hr, ← hw1]; clear hr hw1
  go_still_tail 9, (by kernel_rfl)
  change wpList _ _ _ _ _ (World.drew w1)
  go_wp2
  refine bodyPost_ret (v := .agg #[.int .i64 x, .int .i64 y]) (by simp [results, Try.results92, go_sem, z0, z1]) rfl ⟨rfl, ?_⟩
  exact ((HB.out.drew).setCell (p := ⟨r, 0, none⟩) (by simp [HR.out]) _).setCell (p := ⟨r, 1, none⟩) (by simp [HR.out]) _
end Go.Proofs.Ytjedmiegcbdedaa
