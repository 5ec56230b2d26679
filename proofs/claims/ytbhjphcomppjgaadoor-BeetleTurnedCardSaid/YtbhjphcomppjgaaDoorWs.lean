/- Walks of chapter 9: contracts with their results written out; the examples in works. -/
import Derived.Test.YtbhjphcomppjgaaDoorWr
namespace Go.Proofs.YtbhjphcomppjgaaDoor
open Go.RowKit Beetle09

section
variable {r c : Int} {S F l : List Int} {a b : Option Addr} {n m k j : Nat} {w : World}
theorem Days_c (hS : IsL w a n k S) (hF : IsL w b m j F) (hT : Tab w) {v : Int} (hx : openE r c S F = v) (hr : daysE r c S F = l) : Calls Tryd.prog 34 #[stV r c a b n k m j] w (LP v l w) := lp_c (Days_any hS hF hT) hx hr
theorem Spread_c (hS : IsL w a n k S) (hF : IsL w b m j F) (hT : Tab w) {v : Int} (hx : openE r c S F = v) (hr : spreadE r c S F = l) : Calls Tryd.prog 32 #[stV r c a b n k m j] w (LP v l w) := lp_c (Spread_any hS hF hT) hx hr
theorem Outline_c (hS : IsL w a n k S) (hF : IsL w b m j F) (hT : Tab w) {v x y : Int} (hx : openE r c S F = v) (hu : out1E r c S F = x) (hv : out2E r c S F = y) : Calls Tryd.prog 36 #[stV r c a b n k m j] w (NNP v x y w) := nnp_c (Outline_any hS hF hT) hx hu hv
theorem Idle_c (hS : IsL w a n k S) (hF : IsL w b m j F) (hT : Tab w) {v : Int} (hx : openE r c S F = v) (hr : idleE r c S F = l) : Calls Tryd.prog 20 #[stV r c a b n k m j] w (LP v l w) := lp_c (Idle_any hS hF hT) hx hr
theorem Blocks_c (hS : IsL w a n k S) (hF : IsL w b m j F) (hT : Tab w) {v : Int} {q : List Q4} (hx : blkE r c S F = v) (hr : blkL r c S F = q) : Calls Tryd.prog 18 #[stV r c a b n k m j] w (BP v q w) := bp_c (Blocks_any hS hF hT) hx hr
theorem Keep_c (hS : IsL w a n k S) (hF : IsL w b m j F) (hT : Tab w) (x : Int) {v : Int} (hx : keepE r c S F x = v) (hr : keepL r c S F x = l) : Calls Tryd.prog 30 #[stV r c a b n k m j, .int .i64 x] w (LP v l w) := lp_c (Keep_any x hS hF hT) hx hr
theorem Proves_c {x : Option Addr} {nx cx : Nat} {Z : List Int} (hS : IsL w a n k S) (hF : IsL w b m j F) (hZ : IsL w x nx cx Z) (hT : Tab w) {v : Int} (hx : provE r c S F Z = v) : Calls Tryd.prog 24 #[stV r c a b n k m j, .slice x nx cx] w (EP v w) := ep_c (Proves_any x nx cx hZ hS hF hT) hx
theorem Plant_c (hT : Tab w) {v : Int} (hx : (if sdB r c = true then 0 else 1) = v) (hr : plantE r c = l) : Calls Tryd.prog 28 #[.int .i64 r, .int .i64 c] w (LP v l w) := lp_c (Plant_any r c w hT) hx hr
theorem Least_c (w : World) {v x : Int} (hx : (if sdB r c = true then (r + c + 1) / 2 else 0) = x) (hr : (if sdB r c = true then 0 else 1) = v) : Calls Tryd.prog 26 #[.int .i64 r, .int .i64 c] w fun e w' => e = .returned (.tuple #[.int .i64 x, .int .i64 v]) ∧ w = w' := by subst hx hr; exact Least_any r c w
theorem same_c {d : Nat} (h : IsL w a n k l) (h' : IsL w b m d l) : Calls Tryd.prog 23 #[.slice a n k, .slice b m d] w fun e w' => e = .returned (.bool true) ∧ Below w.heap.size w w' := same_yes a b n k m d l l w h h' rfl
theorem blocks_c {d B B' : Nat} {A : List Q4} (h : OwnQ w B a n k A) (h' : OwnQ w B' b m d A) : Calls Tryd.prog 22 #[.slice a n k, .slice b m d] w fun e w' => e = .returned (.bool true) ∧ Below w.heap.size w w' := blocks_yes a b n m k d B B' A A w h h' rfl
end
theorem ownQ_lit (w : World) : OwnQ (w.alloc (.cells #[.int .i64 0, .int .i64 0, .int .i64 0, .int .i64 1] 55)) w.heap.size (some ⟨w.heap.size, 0, none⟩) 1 1 [(0, 0, 0, 1)] :=
  ⟨rfl, .inr ⟨w.heap.size, 1, _, rfl, Nat.le_refl _, heap_alloc_new w _, Nat.le_refl _, by decide, rfl, rfl⟩⟩
set_option maxHeartbeats 16000000 in
set_option maxRecDepth 100000 in
theorem works_any (w : World) (hT : Tab w) : Calls Tryd.prog 17 #[] w fun e w' => e = .returned (.bool true) ∧ Below w.heap.size w w' := by
  replace hT := Lib.hid hT
  go_enter Tryd.func17, Tryd.ntmps17
  have k := Below.refl w.heap.size w
  go_wp2_with fail
  refine (A_any _).mono ?_
  rintro e w_1 ⟨a_x1, n_x1, c_x1, rfl, h_x1, b_⟩
  replace hT := Lib.hid (hT.out.to b_)
  replace k := k.trans (b_.mono k.size)
  clear b_
  go_wp2_with fail
  refine (Days_c h_x1 (IsL.nilL _) hT.out (v := 0) (l := [0, 1, 2, 1, 0, 1, 2, 1, 0]) (by decide +kernel) (by decide +kernel)).mono ?_
  rintro e w_2 ⟨a_a, n_a, c_a, rfl, h_a, b_⟩
  replace h_x1 := h_x1.below b_
  replace hT := Lib.hid (hT.out.to b_)
  replace k := k.trans (b_.mono k.size)
  clear b_
  clear h_x1
  go_wp2_with fail
  refine (B_any _).mono ?_
  rintro e w_3 ⟨a_x2, n_x2, c_x2, rfl, h_x2, b_⟩
  replace h_a := h_a.below b_
  replace hT := Lib.hid (hT.out.to b_)
  replace k := k.trans (b_.mono k.size)
  clear b_
  go_wp2_with fail
  refine (Spread_c h_x2 (IsL.nilL _) hT.out (v := 0) (l := [0, 1]) (by decide +kernel) (by decide +kernel)).mono ?_
  rintro e w_4 ⟨a_b, n_b, c_b, rfl, h_b, b_⟩
  replace h_a := h_a.below b_
  replace h_x2 := h_x2.below b_
  replace hT := Lib.hid (hT.out.to b_)
  replace k := k.trans (b_.mono k.size)
  clear b_
  clear h_x2
  go_wp2_with fail
  refine (A_any _).mono ?_
  rintro e w_5 ⟨a_x3, n_x3, c_x3, rfl, h_x3, b_⟩
  replace h_a := h_a.below b_
  replace h_b := h_b.below b_
  replace hT := Lib.hid (hT.out.to b_)
  replace k := k.trans (b_.mono k.size)
  clear b_
  go_wp2_with fail
  refine (Outline_c h_x3 (IsL.nilL _) hT.out (v := 0) (x := 12) (y := 12) (by decide +kernel) (by decide +kernel) (by decide +kernel)).mono ?_
  rintro e w_6 ⟨rfl, b_⟩
  replace h_a := h_a.below b_
  replace h_b := h_b.below b_
  replace h_x3 := h_x3.below b_
  replace hT := Lib.hid (hT.out.to b_)
  replace k := k.trans (b_.mono k.size)
  clear b_
  clear h_x3
  go_wp2_with fail
  refine (B_any _).mono ?_
  rintro e w_7 ⟨a_x4, n_x4, c_x4, rfl, h_x4, b_⟩
  replace h_a := h_a.below b_
  replace h_b := h_b.below b_
  replace hT := Lib.hid (hT.out.to b_)
  replace k := k.trans (b_.mono k.size)
  clear b_
  go_wp2_with fail
  refine (Blocks_c h_x4 (IsL.nilL _) hT.out (v := 0) (q := [(0, 0, 0, 1)]) (by decide +kernel) (by decide +kernel)).mono ?_
  rintro e w_8 ⟨a_l, n_l, c_l, B_l, rfl, h_l, b_⟩
  replace h_a := h_a.below b_
  replace h_b := h_b.below b_
  replace h_x4 := h_x4.below b_
  replace hT := Lib.hid (hT.out.to b_)
  replace k := k.trans (b_.mono k.size)
  clear b_
  clear h_x4
  go_wp2_with fail
  refine (Least_c (r := 5) (c := 5) _ (v := 0) (x := 5) (by decide +kernel) (by decide +kernel)).mono ?_
  rintro e w' ⟨rfl, rfl⟩
  go_wp2_with fail
  refine (Plant_c (r := 3) (c := 3) hT.out (v := 0) (l := [0, 2, 6]) (by decide +kernel) (by decide +kernel)).mono ?_
  rintro e w_9 ⟨a_n, n_n, c_n, rfl, h_n, b_⟩
  replace h_a := h_a.below b_
  replace h_b := h_b.below b_
  replace h_l := h_l.below b_
  replace hT := Lib.hid (hT.out.to b_)
  replace k := k.trans (b_.mono k.size)
  clear b_
  go_wp2_with fail
  refine (A_any _).mono ?_
  rintro e w_10 ⟨a_x5, n_x5, c_x5, rfl, h_x5, b_⟩
  replace h_a := h_a.below b_
  replace h_b := h_b.below b_
  replace h_l := h_l.below b_
  replace h_n := h_n.below b_
  replace hT := Lib.hid (hT.out.to b_)
  replace k := k.trans (b_.mono k.size)
  clear b_
  go_wp2_with fail
  refine (Keep_c h_x5 (IsL.nilL _) hT.out 2 (v := 0) (l := [1]) (by decide +kernel) (by decide +kernel)).mono ?_
  rintro e w_11 ⟨a_o, n_o, c_o, rfl, h_o, b_⟩
  replace h_a := h_a.below b_
  replace h_b := h_b.below b_
  replace h_l := h_l.below b_
  replace h_n := h_n.below b_
  replace h_x5 := h_x5.below b_
  replace hT := Lib.hid (hT.out.to b_)
  replace k := k.trans (b_.mono k.size)
  clear b_
  clear h_x5
  go_wp2_with fail
  refine (A_any _).mono ?_
  rintro e w_12 ⟨a_x6, n_x6, c_x6, rfl, h_x6, b_⟩
  replace h_a := h_a.below b_
  replace h_b := h_b.below b_
  replace h_l := h_l.below b_
  replace h_n := h_n.below b_
  replace h_o := h_o.below b_
  replace hT := Lib.hid (hT.out.to b_)
  replace k := k.trans (b_.mono k.size)
  clear b_
  go_wp2_with fail
  refine (list_any _ _ _ _).mono ?_
  rintro e w' ⟨rfl, rfl⟩
  go_wp2_with fail
  have h_y := isL_lit (w_12.alloc (.cells #[.int .i64 3, .int .i64 3, .slice a_x6 n_x6 c_x6, .slice (some ⟨w_12.heap.size + 1, 0, none⟩) 2 2] 24)) ([1, 3] : List Int) #[.int .i64 1, .int .i64 3] 3 2 rfl rfl (by decide)
  have hs : (w_12.alloc (.cells #[.int .i64 3, .int .i64 3, .slice a_x6 n_x6 c_x6, .slice (some ⟨w_12.heap.size + 1, 0, none⟩) 2 2] 24)).heap.size = w_12.heap.size + 1 := by simp
  rw [hs] at h_y
  have b_ : Below w_12.heap.size w_12 ((w_12.alloc (.cells #[.int .i64 3, .int .i64 3, .slice a_x6 n_x6 c_x6, .slice (some ⟨w_12.heap.size + 1, 0, none⟩) 2 2] 24)).alloc (.cells #[.int .i64 1, .int .i64 3] 3)) := ((Below.refl _ _).alloc (Nat.le_refl _) _).alloc (by rw [hs]; omega) _
  have x0 : ((w_12.alloc (.cells #[.int .i64 3, .int .i64 3, .slice a_x6 n_x6 c_x6, .slice (some ⟨w_12.heap.size + 1, 0, none⟩) 2 2] 24)).alloc (.cells #[.int .i64 1, .int .i64 3] 3)).cell? ⟨w_12.heap.size, 0, none⟩ = some (.int .i64 3) := by simp
  have x1 : ((w_12.alloc (.cells #[.int .i64 3, .int .i64 3, .slice a_x6 n_x6 c_x6, .slice (some ⟨w_12.heap.size + 1, 0, none⟩) 2 2] 24)).alloc (.cells #[.int .i64 1, .int .i64 3] 3)).cell? ⟨w_12.heap.size, 1, none⟩ = some (.int .i64 3) := by simp
  have x2 : ((w_12.alloc (.cells #[.int .i64 3, .int .i64 3, .slice a_x6 n_x6 c_x6, .slice (some ⟨w_12.heap.size + 1, 0, none⟩) 2 2] 24)).alloc (.cells #[.int .i64 1, .int .i64 3] 3)).cell? ⟨w_12.heap.size, 2, none⟩ = some (.slice a_x6 n_x6 c_x6) := by simp
  have x3 : ((w_12.alloc (.cells #[.int .i64 3, .int .i64 3, .slice a_x6 n_x6 c_x6, .slice (some ⟨w_12.heap.size + 1, 0, none⟩) 2 2] 24)).alloc (.cells #[.int .i64 1, .int .i64 3] 3)).cell? ⟨w_12.heap.size, 3, none⟩ = some (.slice (some ⟨w_12.heap.size + 1, 0, none⟩) 2 2) := by simp
  clear hs
  generalize (w_12.alloc (.cells #[.int .i64 3, .int .i64 3, .slice a_x6 n_x6 c_x6, .slice (some ⟨w_12.heap.size + 1, 0, none⟩) 2 2] 24)).alloc (.cells #[.int .i64 1, .int .i64 3] 3) = w_13 at *
  obtain ⟨gx, hgx⟩ : ∃ g, w_12.heap.size = g := ⟨_, rfl⟩
  simp only [hgx] at x0 x1 x2 x3 h_y ⊢
  replace h_a := h_a.below b_
  replace h_b := h_b.below b_
  replace h_l := h_l.below b_
  replace h_n := h_n.below b_
  replace h_o := h_o.below b_
  replace h_x6 := h_x6.below b_
  replace hT := Lib.hid (hT.out.to b_)
  replace k := k.trans (b_.mono k.size)
  clear b_
  refine (Spread_c h_x6 h_y hT.out (v := 0) (l := [0, 4, 5, 7, 8]) (by decide +kernel) (by decide +kernel)).mono ?_
  rintro e w_14 ⟨a_p, n_p, c_p, rfl, h_p, b_⟩
  replace h_a := h_a.below b_
  replace h_b := h_b.below b_
  replace h_l := h_l.below b_
  replace h_n := h_n.below b_
  replace h_o := h_o.below b_
  replace h_x6 := h_x6.below b_
  replace h_y := h_y.below b_
  replace hT := Lib.hid (hT.out.to b_)
  replace x0 := (b_.cell (p := ⟨gx, 0, none⟩) (World.block_lt_of_cell? _ _ x0)).trans x0
  replace x1 := (b_.cell (p := ⟨gx, 1, none⟩) (World.block_lt_of_cell? _ _ x1)).trans x1
  replace x2 := (b_.cell (p := ⟨gx, 2, none⟩) (World.block_lt_of_cell? _ _ x2)).trans x2
  replace x3 := (b_.cell (p := ⟨gx, 3, none⟩) (World.block_lt_of_cell? _ _ x3)).trans x3
  replace k := k.trans (b_.mono k.size)
  clear b_
  go_wp2_with fail
  have h_z := isL_lit w_14 ([0, 1, 3] : List Int) #[.int .i64 0, .int .i64 1, .int .i64 3] 3 3 rfl rfl (by decide)
  have b_ : Below w_14.heap.size w_14 (w_14.alloc (.cells #[.int .i64 0, .int .i64 1, .int .i64 3] 3)) := (Below.refl _ _).alloc (Nat.le_refl _) _
  generalize w_14.alloc (.cells #[.int .i64 0, .int .i64 1, .int .i64 3] 3) = w_15 at *
  replace h_a := h_a.below b_
  replace h_b := h_b.below b_
  replace h_l := h_l.below b_
  replace h_n := h_n.below b_
  replace h_o := h_o.below b_
  replace h_x6 := h_x6.below b_
  replace h_y := h_y.below b_
  replace h_p := h_p.below b_
  replace hT := Lib.hid (hT.out.to b_)
  replace x0 := (b_.cell (p := ⟨gx, 0, none⟩) (World.block_lt_of_cell? _ _ x0)).trans x0
  replace x1 := (b_.cell (p := ⟨gx, 1, none⟩) (World.block_lt_of_cell? _ _ x1)).trans x1
  replace x2 := (b_.cell (p := ⟨gx, 2, none⟩) (World.block_lt_of_cell? _ _ x2)).trans x2
  replace x3 := (b_.cell (p := ⟨gx, 3, none⟩) (World.block_lt_of_cell? _ _ x3)).trans x3
  replace k := k.trans (b_.mono k.size)
  clear b_
  refine (list_any _ _ _ _).mono ?_
  rintro e w' ⟨rfl, rfl⟩
  go_wp2_with fail
  refine (Idle_c h_z (IsL.nilL _) hT.out (v := 0) (l := [1]) (by decide +kernel) (by decide +kernel)).mono ?_
  rintro e w_16 ⟨a_q, n_q, c_q, rfl, h_q, b_⟩
  replace h_a := h_a.below b_
  replace h_b := h_b.below b_
  replace h_l := h_l.below b_
  replace h_n := h_n.below b_
  replace h_o := h_o.below b_
  replace h_x6 := h_x6.below b_
  replace h_y := h_y.below b_
  replace h_p := h_p.below b_
  replace h_z := h_z.below b_
  replace hT := Lib.hid (hT.out.to b_)
  replace x0 := (b_.cell (p := ⟨gx, 0, none⟩) (World.block_lt_of_cell? _ _ x0)).trans x0
  replace x1 := (b_.cell (p := ⟨gx, 1, none⟩) (World.block_lt_of_cell? _ _ x1)).trans x1
  replace x2 := (b_.cell (p := ⟨gx, 2, none⟩) (World.block_lt_of_cell? _ _ x2)).trans x2
  replace x3 := (b_.cell (p := ⟨gx, 3, none⟩) (World.block_lt_of_cell? _ _ x3)).trans x3
  replace k := k.trans (b_.mono k.size)
  clear b_
  clear h_z
  go_wp2_with fail
  refine (Blocks_c h_x6 h_y hT.out (v := 13) (q := []) (by decide +kernel) (by decide +kernel)).mono ?_
  rintro e w_17 ⟨a_u, n_u, c_u, B_u, rfl, h_u, b_⟩
  replace h_a := h_a.below b_
  replace h_b := h_b.below b_
  replace h_l := h_l.below b_
  replace h_n := h_n.below b_
  replace h_o := h_o.below b_
  replace h_x6 := h_x6.below b_
  replace h_y := h_y.below b_
  replace h_p := h_p.below b_
  replace h_q := h_q.below b_
  replace hT := Lib.hid (hT.out.to b_)
  replace x0 := (b_.cell (p := ⟨gx, 0, none⟩) (World.block_lt_of_cell? _ _ x0)).trans x0
  replace x1 := (b_.cell (p := ⟨gx, 1, none⟩) (World.block_lt_of_cell? _ _ x1)).trans x1
  replace x2 := (b_.cell (p := ⟨gx, 2, none⟩) (World.block_lt_of_cell? _ _ x2)).trans x2
  replace x3 := (b_.cell (p := ⟨gx, 3, none⟩) (World.block_lt_of_cell? _ _ x3)).trans x3
  replace k := k.trans (b_.mono k.size)
  clear b_
  clear h_x6
  clear h_y
  clear h_u x0 x1 x2 x3
  go_wp2_with fail
  refine (A_any _).mono ?_
  rintro e w_18 ⟨a_x7, n_x7, c_x7, rfl, h_x7, b_⟩
  replace h_a := h_a.below b_
  replace h_b := h_b.below b_
  replace h_l := h_l.below b_
  replace h_n := h_n.below b_
  replace h_o := h_o.below b_
  replace h_p := h_p.below b_
  replace h_q := h_q.below b_
  replace hT := Lib.hid (hT.out.to b_)
  replace k := k.trans (b_.mono k.size)
  clear b_
  go_wp2_with fail
  refine (Keep_c h_x7 (IsL.nilL _) hT.out 1 (v := 12) (l := []) (by decide +kernel) (by decide +kernel)).mono ?_
  rintro e w_19 ⟨a_v, n_v, c_v, rfl, h_v, b_⟩
  replace h_a := h_a.below b_
  replace h_b := h_b.below b_
  replace h_l := h_l.below b_
  replace h_n := h_n.below b_
  replace h_o := h_o.below b_
  replace h_p := h_p.below b_
  replace h_q := h_q.below b_
  replace h_x7 := h_x7.below b_
  replace hT := Lib.hid (hT.out.to b_)
  replace k := k.trans (b_.mono k.size)
  clear b_
  clear h_x7
  clear h_v
  go_wp2_with fail
  have h_u1 := isL_lit w_19 ([0, 1, 2, 1, 0, 1, 2, 1, 0] : List Int) #[.int .i64 0, .int .i64 1, .int .i64 2, .int .i64 1, .int .i64 0, .int .i64 1, .int .i64 2, .int .i64 1, .int .i64 0] 3 9 rfl rfl (by decide)
  have b_ : Below w_19.heap.size w_19 (w_19.alloc (.cells #[.int .i64 0, .int .i64 1, .int .i64 2, .int .i64 1, .int .i64 0, .int .i64 1, .int .i64 2, .int .i64 1, .int .i64 0] 3)) := (Below.refl _ _).alloc (Nat.le_refl _) _
  generalize w_19.alloc (.cells #[.int .i64 0, .int .i64 1, .int .i64 2, .int .i64 1, .int .i64 0, .int .i64 1, .int .i64 2, .int .i64 1, .int .i64 0] 3) = w_20 at *
  replace h_a := h_a.below b_
  replace h_b := h_b.below b_
  replace h_l := h_l.below b_
  replace h_n := h_n.below b_
  replace h_o := h_o.below b_
  replace h_p := h_p.below b_
  replace h_q := h_q.below b_
  replace hT := Lib.hid (hT.out.to b_)
  replace k := k.trans (b_.mono k.size)
  clear b_
  refine (list_any _ _ _ _).mono ?_
  rintro e w' ⟨rfl, rfl⟩
  go_wp2_with fail
  refine (same_c h_a h_u1).mono ?_
  rintro e w_21 ⟨rfl, b_⟩
  replace h_a := h_a.below b_
  replace h_b := h_b.below b_
  replace h_l := h_l.below b_
  replace h_n := h_n.below b_
  replace h_o := h_o.below b_
  replace h_p := h_p.below b_
  replace h_q := h_q.below b_
  replace h_u1 := h_u1.below b_
  replace hT := Lib.hid (hT.out.to b_)
  replace k := k.trans (b_.mono k.size)
  clear b_
  clear h_a
  clear h_u1
  go_wp2_with fail
  have h_u2 := isL_lit w_21 ([0, 1] : List Int) #[.int .i64 0, .int .i64 1] 3 2 rfl rfl (by decide)
  have b_ : Below w_21.heap.size w_21 (w_21.alloc (.cells #[.int .i64 0, .int .i64 1] 3)) := (Below.refl _ _).alloc (Nat.le_refl _) _
  generalize w_21.alloc (.cells #[.int .i64 0, .int .i64 1] 3) = w_22 at *
  replace h_b := h_b.below b_
  replace h_l := h_l.below b_
  replace h_n := h_n.below b_
  replace h_o := h_o.below b_
  replace h_p := h_p.below b_
  replace h_q := h_q.below b_
  replace hT := Lib.hid (hT.out.to b_)
  replace k := k.trans (b_.mono k.size)
  clear b_
  refine (list_any _ _ _ _).mono ?_
  rintro e w' ⟨rfl, rfl⟩
  go_wp2_with fail
  refine (same_c h_b h_u2).mono ?_
  rintro e w_23 ⟨rfl, b_⟩
  replace h_b := h_b.below b_
  replace h_l := h_l.below b_
  replace h_n := h_n.below b_
  replace h_o := h_o.below b_
  replace h_p := h_p.below b_
  replace h_q := h_q.below b_
  replace h_u2 := h_u2.below b_
  replace hT := Lib.hid (hT.out.to b_)
  replace k := k.trans (b_.mono k.size)
  clear b_
  clear h_b
  clear h_u2
  go_wp2_with fail
  have h_q4 := ownQ_lit w_23
  have b_ : Below w_23.heap.size w_23 (w_23.alloc (.cells #[.int .i64 0, .int .i64 0, .int .i64 0, .int .i64 1] 55)) := (Below.refl _ _).alloc (Nat.le_refl _) _
  generalize w_23.alloc (.cells #[.int .i64 0, .int .i64 0, .int .i64 0, .int .i64 1] 55) = w_24 at *
  replace h_l := h_l.below b_
  replace h_n := h_n.below b_
  replace h_o := h_o.below b_
  replace h_p := h_p.below b_
  replace h_q := h_q.below b_
  replace hT := Lib.hid (hT.out.to b_)
  replace k := k.trans (b_.mono k.size)
  clear b_
  refine (blocks_c h_l h_q4).mono ?_
  rintro e w_25 ⟨rfl, b_⟩
  replace h_l := h_l.below b_
  replace h_n := h_n.below b_
  replace h_o := h_o.below b_
  replace h_p := h_p.below b_
  replace h_q := h_q.below b_
  replace h_q4 := h_q4.below b_
  replace hT := Lib.hid (hT.out.to b_)
  replace k := k.trans (b_.mono k.size)
  clear b_
  clear h_l
  clear h_q4
  go_wp2_with fail
  have h_u3 := isL_lit w_25 ([0, 2, 6] : List Int) #[.int .i64 0, .int .i64 2, .int .i64 6] 3 3 rfl rfl (by decide)
  have b_ : Below w_25.heap.size w_25 (w_25.alloc (.cells #[.int .i64 0, .int .i64 2, .int .i64 6] 3)) := (Below.refl _ _).alloc (Nat.le_refl _) _
  generalize w_25.alloc (.cells #[.int .i64 0, .int .i64 2, .int .i64 6] 3) = w_26 at *
  replace h_n := h_n.below b_
  replace h_o := h_o.below b_
  replace h_p := h_p.below b_
  replace h_q := h_q.below b_
  replace hT := Lib.hid (hT.out.to b_)
  replace k := k.trans (b_.mono k.size)
  clear b_
  refine (list_any _ _ _ _).mono ?_
  rintro e w' ⟨rfl, rfl⟩
  go_wp2_with fail
  refine (same_c h_n h_u3).mono ?_
  rintro e w_27 ⟨rfl, b_⟩
  replace h_n := h_n.below b_
  replace h_o := h_o.below b_
  replace h_p := h_p.below b_
  replace h_q := h_q.below b_
  replace h_u3 := h_u3.below b_
  replace hT := Lib.hid (hT.out.to b_)
  replace k := k.trans (b_.mono k.size)
  clear b_
  clear h_n
  clear h_u3
  go_wp2_with fail
  have h_u4 := isL_lit w_27 ([1] : List Int) #[.int .i64 1] 3 1 rfl rfl (by decide)
  have b_ : Below w_27.heap.size w_27 (w_27.alloc (.cells #[.int .i64 1] 3)) := (Below.refl _ _).alloc (Nat.le_refl _) _
  generalize w_27.alloc (.cells #[.int .i64 1] 3) = w_28 at *
  replace h_o := h_o.below b_
  replace h_p := h_p.below b_
  replace h_q := h_q.below b_
  replace hT := Lib.hid (hT.out.to b_)
  replace k := k.trans (b_.mono k.size)
  clear b_
  refine (list_any _ _ _ _).mono ?_
  rintro e w' ⟨rfl, rfl⟩
  go_wp2_with fail
  refine (same_c h_o h_u4).mono ?_
  rintro e w_29 ⟨rfl, b_⟩
  replace h_o := h_o.below b_
  replace h_p := h_p.below b_
  replace h_q := h_q.below b_
  replace h_u4 := h_u4.below b_
  replace hT := Lib.hid (hT.out.to b_)
  replace k := k.trans (b_.mono k.size)
  clear b_
  clear h_o
  clear h_u4
  go_wp2_with fail
  have h_u5 := isL_lit w_29 ([0, 4, 5, 7, 8] : List Int) #[.int .i64 0, .int .i64 4, .int .i64 5, .int .i64 7, .int .i64 8] 3 5 rfl rfl (by decide)
  have b_ : Below w_29.heap.size w_29 (w_29.alloc (.cells #[.int .i64 0, .int .i64 4, .int .i64 5, .int .i64 7, .int .i64 8] 3)) := (Below.refl _ _).alloc (Nat.le_refl _) _
  generalize w_29.alloc (.cells #[.int .i64 0, .int .i64 4, .int .i64 5, .int .i64 7, .int .i64 8] 3) = w_30 at *
  replace h_p := h_p.below b_
  replace h_q := h_q.below b_
  replace hT := Lib.hid (hT.out.to b_)
  replace k := k.trans (b_.mono k.size)
  clear b_
  refine (list_any _ _ _ _).mono ?_
  rintro e w' ⟨rfl, rfl⟩
  go_wp2_with fail
  refine (same_c h_p h_u5).mono ?_
  rintro e w_31 ⟨rfl, b_⟩
  replace h_p := h_p.below b_
  replace h_q := h_q.below b_
  replace h_u5 := h_u5.below b_
  replace hT := Lib.hid (hT.out.to b_)
  replace k := k.trans (b_.mono k.size)
  clear b_
  clear h_p
  clear h_u5
  go_wp2_with fail
  have h_u6 := isL_lit w_31 ([1] : List Int) #[.int .i64 1] 3 1 rfl rfl (by decide)
  have b_ : Below w_31.heap.size w_31 (w_31.alloc (.cells #[.int .i64 1] 3)) := (Below.refl _ _).alloc (Nat.le_refl _) _
  generalize w_31.alloc (.cells #[.int .i64 1] 3) = w_32 at *
  replace h_q := h_q.below b_
  replace hT := Lib.hid (hT.out.to b_)
  replace k := k.trans (b_.mono k.size)
  clear b_
  refine (list_any _ _ _ _).mono ?_
  rintro e w' ⟨rfl, rfl⟩
  go_wp2_with fail
  refine (same_c h_q h_u6).mono ?_
  rintro e w_33 ⟨rfl, b_⟩
  replace h_q := h_q.below b_
  replace h_u6 := h_u6.below b_
  replace hT := Lib.hid (hT.out.to b_)
  replace k := k.trans (b_.mono k.size)
  clear b_
  clear h_q
  clear h_u6
  go_wp2_with fail
  refine (B_any _).mono ?_
  rintro e w_34 ⟨a_u7, n_u7, c_u7, rfl, h_u7, b_⟩
  replace hT := Lib.hid (hT.out.to b_)
  replace k := k.trans (b_.mono k.size)
  clear b_
  go_wp2_with fail
  have h_v7 := isL_lit w_34 ([2, 5, 8] : List Int) #[.int .i64 2, .int .i64 5, .int .i64 8] 3 3 rfl rfl (by decide)
  have b_ : Below w_34.heap.size w_34 (w_34.alloc (.cells #[.int .i64 2, .int .i64 5, .int .i64 8] 3)) := (Below.refl _ _).alloc (Nat.le_refl _) _
  generalize w_34.alloc (.cells #[.int .i64 2, .int .i64 5, .int .i64 8] 3) = w_35 at *
  replace h_u7 := h_u7.below b_
  replace hT := Lib.hid (hT.out.to b_)
  replace k := k.trans (b_.mono k.size)
  clear b_
  refine (list_any _ _ _ _).mono ?_
  rintro e w' ⟨rfl, rfl⟩
  go_wp2_with fail
  refine (Proves_c h_u7 (IsL.nilL _) h_v7 hT.out (v := 0) (by decide +kernel)).mono ?_
  rintro e w_36 ⟨rfl, b_⟩
  replace h_u7 := h_u7.below b_
  replace h_v7 := h_v7.below b_
  replace hT := Lib.hid (hT.out.to b_)
  replace k := k.trans (b_.mono k.size)
  clear b_
  clear h_u7
  clear h_v7
  go_wp2_with fail
  refine (B_any _).mono ?_
  rintro e w_37 ⟨a_u8, n_u8, c_u8, rfl, h_u8, b_⟩
  replace hT := Lib.hid (hT.out.to b_)
  replace k := k.trans (b_.mono k.size)
  clear b_
  go_wp2_with fail
  have h_v8 := isL_lit w_37 ([2, 3] : List Int) #[.int .i64 2, .int .i64 3] 3 2 rfl rfl (by decide)
  have b_ : Below w_37.heap.size w_37 (w_37.alloc (.cells #[.int .i64 2, .int .i64 3] 3)) := (Below.refl _ _).alloc (Nat.le_refl _) _
  generalize w_37.alloc (.cells #[.int .i64 2, .int .i64 3] 3) = w_38 at *
  replace h_u8 := h_u8.below b_
  replace hT := Lib.hid (hT.out.to b_)
  replace k := k.trans (b_.mono k.size)
  clear b_
  refine (list_any _ _ _ _).mono ?_
  rintro e w' ⟨rfl, rfl⟩
  go_wp2_with fail
  refine (Proves_c h_u8 (IsL.nilL _) h_v8 hT.out (v := 14) (by decide +kernel)).mono ?_
  rintro e w_39 ⟨rfl, b_⟩
  replace h_u8 := h_u8.below b_
  replace h_v8 := h_v8.below b_
  replace hT := Lib.hid (hT.out.to b_)
  replace k := k.trans (b_.mono k.size)
  clear b_
  clear h_u8
  clear h_v8
  go_wp2
  go_ret
  exact ⟨rfl, k⟩
end Go.Proofs.YtbhjphcomppjgaaDoor
