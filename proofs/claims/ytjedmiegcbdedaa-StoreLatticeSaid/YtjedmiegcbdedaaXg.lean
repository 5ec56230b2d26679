/- Walks of chapter 11: two divisions from labels by numbers. -/
import Derived.Test.YtjedmiegcbdedaaXf
import Derived.Deep.RegionWith
namespace Go.Proofs.Ytjedmiegcbdedaa
open Go.RowKit Store11

def BothD (w : World) (N : Nat) (d1 d2 : List Int) (e : Ending) (w' : World) : Prop :=
  ∃ a c b d, e = .returned (.tuple #[.slice a N c, .slice b N d]) ∧ IsL w' a N c d1 ∧ IsL w' b N d d2 ∧ Below w.heap.size w w'

set_option maxHeartbeats 4000000 in
set_option maxRecDepth 100000 in
theorem made_any (bx x0 x1 x2 x3 x4 x5 x6 x7 x8 y0 y1 y2 y3 y4 y5 y6 y7 y8 : Int) (most r : Nat) (w : World) (hb0 : 0 ≤ bx ∧ bx < 256) (hb1 : ∀ i, 0 ≤ ([x0, x1, x2, x3, x4, x5, x6, x7, x8] : List Int).getD i 0 ∧ ([x0, x1, x2, x3, x4, x5, x6, x7, x8] : List Int).getD i 0 < 256) (hb2 : ∀ i, 0 ≤ ([y0, y1, y2, y3, y4, y5, y6, y7, y8] : List Int).getD i 0 ∧ ([y0, y1, y2, y3, y4, y5, y6, y7, y8] : List Int).getD i 0 < 256)
    (hm : 1 ≤ most) (hm9 : most ≤ 9) (hr : 1 ≤ r) (hr9 : r ≤ 9) (N : Nat) (hN : 1 + bx % (most : Int) = (N : Int)) :
    Calls Try.prog 52 #[.agg #[U8 bx, U8 x0, U8 x1, U8 x2, U8 x3, U8 x4, U8 x5, U8 x6, U8 x7, U8 x8, U8 y0, U8 y1, U8 y2, U8 y3, U8 y4, U8 y5, U8 y6, U8 y7, U8 y8], .int .i64 (most : Int), .int .i64 (r : Int)] w (BothD w N (divL (([x0, x1, x2, x3, x4, x5, x6, x7, x8] : List Int).take N |>.map (· % (r : Int)))) (divL (([y0, y1, y2, y3, y4, y5, y6, y7, y8] : List Int).take N |>.map (· % (r : Int))))) := by
  obtain ⟨hb00, hb01⟩ := hb0
  have m1 := Int.emod_nonneg bx (b := (most : Int)) (by omega)
  have m2 := Int.emod_lt_of_pos bx (b := (most : Int)) (by omega)
  have n1 : 1 ≤ N := by omega
  have n9 : N ≤ 9 := by omega
  have q0 : (0 : Int) < (most : Int) := by omega
  have w1 : IntKind.i64.wrap (1 + bx % (most : Int)) = 1 + bx % (most : Int) := IntWalk.i64_in _ (by omega)
  have HN := Lib.hid hN
  clear hN m1 m2
  have D1 : Hid (∀ w' : World, Calls Try.prog 89 #[.int .i64 (N : Int), .int .i64 (r : Int), .agg #[U8 x0, U8 x1, U8 x2, U8 x3, U8 x4, U8 x5, U8 x6, U8 x7, U8 x8]] w' fun e w2 => ∃ a c, e = .returned (.slice a N c) ∧ IsL w2 a N c (divL (([x0, x1, x2, x3, x4, x5, x6, x7, x8] : List Int).take N |>.map (· % (r : Int)))) ∧ Below w'.heap.size w' w2) := Lib.hid (fun w' => divided_any N r [x0, x1, x2, x3, x4, x5, x6, x7, x8] w' rfl hb1 n1 n9 hr hr9)
  have D2 : Hid (∀ w' : World, Calls Try.prog 89 #[.int .i64 (N : Int), .int .i64 (r : Int), .agg #[U8 y0, U8 y1, U8 y2, U8 y3, U8 y4, U8 y5, U8 y6, U8 y7, U8 y8]] w' fun e w2 => ∃ a c, e = .returned (.slice a N c) ∧ IsL w2 a N c (divL (([y0, y1, y2, y3, y4, y5, y6, y7, y8] : List Int).take N |>.map (· % (r : Int)))) ∧ Below w'.heap.size w' w2) := Lib.hid (fun w' => divided_any N r [y0, y1, y2, y3, y4, y5, y6, y7, y8] w' rfl hb2 n1 n9 hr hr9)
  clear hb1 hb2
  go_enter Try.func52, Try.ntmps52
  go_wp2_with fail
  rw [HN.out]
  clear w1 q0
  go_region_with (first
    | ((with_reducible refine (D1.out _).mono ?_); rintro e w2 ⟨a, c, rfl, hA, hB⟩; have hc1 : ∀ p, w2.cell? ⟨w.heap.size, p, none⟩ = (w.alloc (.cells #[U8 bx, U8 x0, U8 x1, U8 x2, U8 x3, U8 x4, U8 x5, U8 x6, U8 x7, U8 x8, U8 y0, U8 y1, U8 y2, U8 y3, U8 y4, U8 y5, U8 y6, U8 y7, U8 y8] 56)).cell? ⟨w.heap.size, p, none⟩ := (fun p => hB.cell (p := ⟨w.heap.size, p, none⟩) (by simp)))
    | ((with_reducible refine (D2.out _).mono ?_); rintro e w2 ⟨a, c, rfl, hA2, hB2⟩))
  all_goals
    go_wp2_with fail
    go_ret2
    have hs := hB.size
    refine ⟨_, _, _, _, rfl, hA.below (hB2.mono (by simp)), hA2, ?_⟩
    first
      | exact ((((Below.refl _ _).alloc (Nat.le_refl _) _).trans (hB.mono (by simp))).trans (hB2.mono (by simp at hs ⊢; omega)))
      | exact (((((Below.refl _ _).alloc (Nat.le_refl _) _).drew).trans (hB.mono (by simp))).trans (hB2.mono (by simp at hs ⊢; omega)))
      | exact ((((((Below.refl _ _).alloc (Nat.le_refl _) _).drew).trans (hB.mono (by simp))).drew).trans (hB2.mono (by simp at hs ⊢; omega)))
      | skip
end Go.Proofs.Ytjedmiegcbdedaa
