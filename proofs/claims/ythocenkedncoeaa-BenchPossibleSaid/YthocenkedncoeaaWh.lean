/- Walks of chapter 06: First. -/
import Derived.Test.YthocenkedncoeaaWg
namespace Go.Proofs.Ythocenkedncoeaa
open Go.RowKit Bench06

theorem First_range (r : Int) (a : Option Addr) (n c : Nat) (w : World) (h : ¬ (1 ≤ r ∧ r ≤ 20)) :
    Calls Try.prog 35 #[.int .i64 r, .slice a n c] w fun e w' => e = .returned (.tuple #[.int .i64 0, .int .i64 1]) ∧ Below w.heap.size w w' := by
  have H := Lib.hid h
  clear h
  go_enter Try.func35, Try.ntmps35
  go_wp2_with (go_at_call 54; refine (within_no _ _ _ _ H.out).mono ?_; rintro e w' ⟨rfl, rfl⟩)
  go_ret2
  exact ⟨rfl, ((Below.refl w.heap.size w).alloc (Nat.le_refl _) _).alloc (by simp) _⟩

def firstL (r : Int) (home : List Int) : Int × Int := if homeL r home = 0 then tryL (firstP r home) else (0, homeL r home)

set_option maxHeartbeats 1600000 in
theorem First_ok (r : Int) (a : Option Addr) (n c : Nat) (l : List Int) (w : World) (h0 : 1 ≤ r) (h1 : r ≤ 20) (hl : IsL w a n c l) :
    Calls Try.prog 35 #[.int .i64 r, .slice a n c] w fun e w' => e = .returned (.tuple #[.int .i64 (firstL r l).1, .int .i64 (firstL r l).2]) ∧ Below w.heap.size w w' := by
  have hlen := Lib.hid hl.len
  have hcap := hl.cap
  have hle := hl.le
  go_enter Try.func35, Try.ntmps35
  go_wp2_with (go_at_call 54; refine (within_yes _ _ _ _ h0 h1).mono ?_; rintro e w' ⟨rfl, rfl⟩)
  have hb : Below w.heap.size w ((w.alloc (.cells #[.int .i64 r] 3)).alloc (.cells #[.slice a n c] 22)) := ((Below.refl w.heap.size w).alloc (Nat.le_refl _) _).alloc (by simp) _
  have k1 : ((w.alloc (.cells #[.int .i64 r] 3)).alloc (.cells #[.slice a n c] 22)).cell? ⟨w.heap.size, 0, none⟩ = some (.int .i64 r) := by go_cell
  have k2 : ((w.alloc (.cells #[.int .i64 r] 3)).alloc (.cells #[.slice a n c] 22)).cell? ⟨w.heap.size + 1, 0, none⟩ = some (.slice a n c) := by go_cell
  have ksz : w.heap.size + 1 < ((w.alloc (.cells #[.int .i64 r] 3)).alloc (.cells #[.slice a n c] 22)).heap.size := by simp
  have hl2 := hl.below hb
  generalize hp : w.heap.size = p at *
  have HP := Lib.hid hp
  clear hp
  generalize ((w.alloc (.cells #[.int .i64 r] 3)).alloc (.cells #[.slice a n c] 22)) = w2 at *
  go_loop [6, 14] (fun vb vi => ∃ (i : Nat) (b : Int), i ≤ n ∧ vi = .int .i64 i ∧ vb = .int .i64 b ∧ Hid (homeG r b (l.drop i) = homeL r l)) (fun _ vi => n - (intOf vi).toNat)
  case atStart => exact ⟨0, -1, by omega, rfl, rfl, Lib.hid rfl⟩
  case round =>
    obtain ⟨i, b, hi, rfl, rfl, heq⟩ := hrel
    by_cases hlt : i < n
    · obtain ⟨bb, of, rfl, hbl, hcells⟩ := hl2.cells (by omega)
      have hcell := hcells i hlt
      have hstep := heq.out
      rw [drop_getD l i (by rw [hlen.out]; exact hlt), homeG] at hstep
      clear hcells heq
      generalize l.getD i 0 = x at *
      by_cases g1 : 0 ≤ x ∧ x ≤ r - 1
      · rw [if_neg (by simpa using g1)] at hstep
        by_cases g2 : x ≤ b
        · rw [if_pos g2] at hstep
          have HS : Hid (firstL r l = (0, 7)) := Lib.hid (by rw [firstL, ← hstep]; rfl)
          clear hstep
          go_wp2_with (go_at_call 54; refine (within_yes _ _ _ _ g1.1 g1.2).mono ?_; rintro e w' ⟨rfl, rfl⟩)
          go_ret2
          exact ⟨ret_ii (by rw [HS.out]) (by rw [HS.out]), by rw [HP.out]; exact hb⟩
        · rw [if_neg g2] at hstep
          have HS := Lib.hid hstep
          clear hstep
          go_wp2_with (go_at_call 54; refine (within_yes _ _ _ _ g1.1 g1.2).mono ?_; rintro e w' ⟨rfl, rfl⟩)
          go_round
          case rel => exact ⟨i + 1, x, by omega, by go_num, rfl, HS⟩
          case measure => simp [intOf]; omega
      · rw [if_pos g1] at hstep
        have HS : Hid (firstL r l = (0, 2)) := Lib.hid (by rw [firstL, ← hstep]; rfl)
        have G := Lib.hid g1
        clear hstep g1
        go_wp2_with (go_at_call 54; refine (within_no _ _ _ _ G.out).mono ?_; rintro e w' ⟨rfl, rfl⟩)
        go_ret2
        exact ⟨ret_ii (by rw [HS.out]) (by rw [HS.out]), by rw [HP.out]; exact hb⟩
    · have hz : homeL r l = 0 := by rw [← heq.out, List.drop_of_length_le (by rw [hlen.out]; omega)]; rfl
      have HS : Hid (firstL r l = tryL (firstP r l)) := Lib.hid (by rw [firstL, if_pos hz])
      have hn := homeG_len r l (-1) (by omega) hz
      rw [hlen.out] at hn
      clear heq hz
      go_wp2_with fail
      refine (try_any 62 _ _ (firstP r l) _ (fun _ _ => by simp [go_sem]) (Lib.hid (fun k wr hk1 hk2 hbr => ?_))).mono ?_
      · refine firstq_any r k _ _ a n c l wr h0 h1 hk1 hk2 (by omega) (hl2.below hbr) ?_ ?_ ?_ ?_
        · rw [hbr.cell (p := ⟨p, 0, none⟩) (by simp; omega)]; exact k1
        · rw [hbr.cell (p := ⟨p + 1, 0, none⟩) (by simp; omega)]; exact k2
        · have := hbr.size; simp; omega
        · have := hbr.size; simp; omega
      · rintro e w3 ⟨rfl, hb3⟩
        have hb4 := hb.trans (hb3.mono (by omega))
        go_wp2
        go_ret2
        exact ⟨ret_ii (by rw [HS.out]) (by rw [HS.out]), by rw [HP.out]; exact hb4⟩

theorem Count_err (a : Option Addr) (n c : Nat) (l : List Int) (w : World) (hl : IsL w a n c l) (h : checkL l ≠ 0) :
    Calls Try.prog 29 #[.slice a n c] w fun e w' => e = .returned (.tuple #[.int .i64 0, .int .i64 (checkL l)]) ∧ w = w' := by
  have hd : (checkL l != 0) = true := by simpa using h
  have HC := Lib.hid (Check_any a n c l w hl)
  generalize checkL l = q at *
  clear h
  go_enter Try.func29, Try.ntmps29
  go_wp2_with (go_at_call 31; refine HC.out.mono ?_; rintro e w1 ⟨rfl, rfl⟩)
  go_ret2
  exact ⟨rfl, rfl⟩
end Go.Proofs.Ythocenkedncoeaa
