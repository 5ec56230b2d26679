/- Walks of chapter 3: the examples in works. -/
import Derived.Test.YtmcckngodaeojaaWO
namespace Go.Proofs.Ytmcckngodaeojaa
open Go.RowKit Grade03

theorem ownP_lit (w : World) (e : Nat) : OwnP (w.alloc (.cells #[.int .i64 0, .int .i64 2, .int .i64 1, .int .i64 3] e)) e w.heap.size (some ⟨w.heap.size, 0, none⟩) 2 2 [(0, 2), (1, 3)] :=
  ⟨rfl, .inr ⟨w.heap.size, 2, _, rfl, Nat.le_refl _, heap_alloc_new w _, Nat.le_refl _, by decide, rfl, rfl⟩⟩
set_option maxHeartbeats 8000000 in
set_option maxRecDepth 100000 in
theorem works_any (w : World) : Calls Try.prog 16 #[] w fun e w' => e = .returned (.bool true) ∧ Below w.heap.size w w' := by
  go_enter Try.func16, Try.ntmps16
  have k := Below.refl w.heap.size w
  go_wp2_with fail
  refine (A_any _).mono ?_
  rintro e w_1 ⟨a_x1, n_x1, c_x1, rfl, h_x1, b_⟩
  replace k := k.trans (b_.mono k.size)
  clear b_
  go_wp2_with fail
  refine (B_any _).mono ?_
  rintro e w_2 ⟨a_y1, n_y1, c_y1, rfl, h_y1, b_⟩
  replace h_x1 := h_x1.below b_
  replace k := k.trans (b_.mono k.size)
  clear b_
  go_wp2_with fail
  refine (Differ_c h_x1 h_y1 (v := 0) (A := [(0, 2), (1, 3)]) (by decide +kernel) (by decide +kernel)).mono ?_
  rintro e w_3 ⟨a_a, n_a, c_a, rfl, h_a, b_⟩
  replace h_x1 := h_x1.below b_
  replace h_y1 := h_y1.below b_
  replace k := k.trans (b_.mono k.size)
  clear b_
  clear h_x1
  clear h_y1
  go_wp2_with fail
  refine (A_any _).mono ?_
  rintro e w_4 ⟨a_x2, n_x2, c_x2, rfl, h_x2, b_⟩
  replace h_a := h_a.below b_
  replace k := k.trans (b_.mono k.size)
  clear b_
  go_wp2_with fail
  refine (B_any _).mono ?_
  rintro e w_5 ⟨a_y2, n_y2, c_y2, rfl, h_y2, b_⟩
  replace h_a := h_a.below b_
  replace h_x2 := h_x2.below b_
  replace k := k.trans (b_.mono k.size)
  clear b_
  go_wp2_with fail
  refine (Way_c h_x2 h_y2 (v := 0) (r := [0, 2]) (by decide +kernel) (by decide +kernel)).mono ?_
  rintro e w_6 ⟨a_b, n_b, c_b, rfl, h_b, b_⟩
  replace h_a := h_a.below b_
  replace h_x2 := h_x2.below b_
  replace h_y2 := h_y2.below b_
  replace k := k.trans (b_.mono k.size)
  clear b_
  clear h_x2
  clear h_y2
  go_wp2_with fail
  refine (A_any _).mono ?_
  rintro e w_7 ⟨a_x3, n_x3, c_x3, rfl, h_x3, b_⟩
  replace h_a := h_a.below b_
  replace h_b := h_b.below b_
  replace k := k.trans (b_.mono k.size)
  clear b_
  go_wp2_with fail
  refine (B_any _).mono ?_
  rintro e w_8 ⟨a_y3, n_y3, c_y3, rfl, h_y3, b_⟩
  replace h_a := h_a.below b_
  replace h_b := h_b.below b_
  replace h_x3 := h_x3.below b_
  replace k := k.trans (b_.mono k.size)
  clear b_
  go_wp2_with fail
  have h_z3 := isL_lit w_8 ([3, 1, 0, 2] : List Int) #[.int .i64 3, .int .i64 1, .int .i64 0, .int .i64 2] 3 4 rfl rfl (by decide)
  have b_ : Below w_8.heap.size w_8 (w_8.alloc (.cells #[.int .i64 3, .int .i64 1, .int .i64 0, .int .i64 2] 3)) := (Below.refl _ _).alloc (Nat.le_refl _) _
  generalize w_8.alloc (.cells #[.int .i64 3, .int .i64 1, .int .i64 0, .int .i64 2] 3) = w_9 at *
  replace h_a := h_a.below b_
  replace h_b := h_b.below b_
  replace h_x3 := h_x3.below b_
  replace h_y3 := h_y3.below b_
  replace k := k.trans (b_.mono k.size)
  clear b_
  refine (list_any _ _ _ _).mono ?_
  rintro e w' ⟨rfl, rfl⟩
  go_wp2_with fail
  refine (Between_c h_x3 h_y3 h_z3 (v := 0) (r := true) (by decide +kernel) (by decide +kernel)).mono ?_
  rintro e w_10 ⟨rfl, b_⟩
  replace h_a := h_a.below b_
  replace h_b := h_b.below b_
  replace h_x3 := h_x3.below b_
  replace h_y3 := h_y3.below b_
  replace h_z3 := h_z3.below b_
  replace k := k.trans (b_.mono k.size)
  clear b_
  clear h_x3
  clear h_y3
  clear h_z3
  go_wp2_with fail
  refine (A_any _).mono ?_
  rintro e w_11 ⟨a_x4, n_x4, c_x4, rfl, h_x4, b_⟩
  replace h_a := h_a.below b_
  replace h_b := h_b.below b_
  replace k := k.trans (b_.mono k.size)
  clear b_
  go_wp2_with fail
  refine (B_any _).mono ?_
  rintro e w_12 ⟨a_y4, n_y4, c_y4, rfl, h_y4, b_⟩
  replace h_a := h_a.below b_
  replace h_b := h_b.below b_
  replace h_x4 := h_x4.below b_
  replace k := k.trans (b_.mono k.size)
  clear b_
  go_wp2_with fail
  refine (Joint_c h_x4 h_y4 (v := 0) (r := 4) (by decide +kernel) (by decide +kernel)).mono ?_
  rintro e w_13 ⟨rfl, b_⟩
  replace h_a := h_a.below b_
  replace h_b := h_b.below b_
  replace h_x4 := h_x4.below b_
  replace h_y4 := h_y4.below b_
  replace k := k.trans (b_.mono k.size)
  clear b_
  clear h_x4
  clear h_y4
  go_wp2_with fail
  refine (A_any _).mono ?_
  rintro e w_14 ⟨a_x5, n_x5, c_x5, rfl, h_x5, b_⟩
  replace h_a := h_a.below b_
  replace h_b := h_b.below b_
  replace k := k.trans (b_.mono k.size)
  clear b_
  go_wp2_with fail
  refine (B_any _).mono ?_
  rintro e w_15 ⟨a_y5, n_y5, c_y5, rfl, h_y5, b_⟩
  replace h_a := h_a.below b_
  replace h_b := h_b.below b_
  replace h_x5 := h_x5.below b_
  replace k := k.trans (b_.mono k.size)
  clear b_
  go_wp2_with fail
  refine (First_c h_x5 h_y5 (v := 0) (r := [1, 3, 0, 2]) (by decide +kernel) (by decide +kernel)).mono ?_
  rintro e w_16 ⟨a_c, n_c, c_c, rfl, h_c, b_⟩
  replace h_a := h_a.below b_
  replace h_b := h_b.below b_
  replace h_x5 := h_x5.below b_
  replace h_y5 := h_y5.below b_
  replace k := k.trans (b_.mono k.size)
  clear b_
  clear h_x5
  clear h_y5
  go_wp2_with fail
  refine (A_any _).mono ?_
  rintro e w_17 ⟨a_x6, n_x6, c_x6, rfl, h_x6, b_⟩
  replace h_a := h_a.below b_
  replace h_b := h_b.below b_
  replace h_c := h_c.below b_
  replace k := k.trans (b_.mono k.size)
  clear b_
  go_wp2_with fail
  have h_y6 := isL_lit w_17 ([0, 2, 1, 3] : List Int) #[.int .i64 0, .int .i64 2, .int .i64 1, .int .i64 3] 3 4 rfl rfl (by decide)
  have b_ : Below w_17.heap.size w_17 (w_17.alloc (.cells #[.int .i64 0, .int .i64 2, .int .i64 1, .int .i64 3] 3)) := (Below.refl _ _).alloc (Nat.le_refl _) _
  generalize w_17.alloc (.cells #[.int .i64 0, .int .i64 2, .int .i64 1, .int .i64 3] 3) = w_18 at *
  replace h_a := h_a.below b_
  replace h_b := h_b.below b_
  replace h_c := h_c.below b_
  replace h_x6 := h_x6.below b_
  replace k := k.trans (b_.mono k.size)
  clear b_
  refine (list_any _ _ _ _).mono ?_
  rintro e w' ⟨rfl, rfl⟩
  go_wp2_with fail
  refine (Join_c h_x6 h_y6 (v := 0) (r := [3, 2, 1, 0]) (by decide +kernel) (by decide +kernel)).mono ?_
  rintro e w_19 ⟨a_d, n_d, c_d, rfl, h_d, b_⟩
  replace h_a := h_a.below b_
  replace h_b := h_b.below b_
  replace h_c := h_c.below b_
  replace h_x6 := h_x6.below b_
  replace h_y6 := h_y6.below b_
  replace k := k.trans (b_.mono k.size)
  clear b_
  clear h_x6
  clear h_y6
  go_wp2_with fail
  refine (A_any _).mono ?_
  rintro e w_20 ⟨a_x7, n_x7, c_x7, rfl, h_x7, b_⟩
  replace h_a := h_a.below b_
  replace h_b := h_b.below b_
  replace h_c := h_c.below b_
  replace h_d := h_d.below b_
  replace k := k.trans (b_.mono k.size)
  clear b_
  go_wp2_with fail
  refine (B_any _).mono ?_
  rintro e w_21 ⟨a_y7, n_y7, c_y7, rfl, h_y7, b_⟩
  replace h_a := h_a.below b_
  replace h_b := h_b.below b_
  replace h_c := h_c.below b_
  replace h_d := h_d.below b_
  replace h_x7 := h_x7.below b_
  replace k := k.trans (b_.mono k.size)
  clear b_
  go_wp2_with fail
  refine (Meet_c h_x7 h_y7 (v := 0) (r := [1, 3, 0, 2]) (by decide +kernel) (by decide +kernel)).mono ?_
  rintro e w_22 ⟨a_m, n_m, c_m, rfl, h_m, b_⟩
  replace h_a := h_a.below b_
  replace h_b := h_b.below b_
  replace h_c := h_c.below b_
  replace h_d := h_d.below b_
  replace h_x7 := h_x7.below b_
  replace h_y7 := h_y7.below b_
  replace k := k.trans (b_.mono k.size)
  clear b_
  clear h_x7
  clear h_y7
  go_wp2_with fail
  refine (A_any _).mono ?_
  rintro e w_23 ⟨a_x8, n_x8, c_x8, rfl, h_x8, b_⟩
  replace h_a := h_a.below b_
  replace h_b := h_b.below b_
  replace h_c := h_c.below b_
  replace h_d := h_d.below b_
  replace h_m := h_m.below b_
  replace k := k.trans (b_.mono k.size)
  clear b_
  go_wp2_with fail
  refine (Code_c h_x8 (v := 0) (r := [1, 2, 0, 0]) (by decide +kernel) (by decide +kernel)).mono ?_
  rintro e w_24 ⟨a_o, n_o, c_o, rfl, h_o, b_⟩
  replace h_a := h_a.below b_
  replace h_b := h_b.below b_
  replace h_c := h_c.below b_
  replace h_d := h_d.below b_
  replace h_m := h_m.below b_
  replace h_x8 := h_x8.below b_
  replace k := k.trans (b_.mono k.size)
  clear b_
  clear h_x8
  go_wp2_with fail
  have h_x9 := isL_lit w_24 ([2, 2, 0, 0] : List Int) #[.int .i64 2, .int .i64 2, .int .i64 0, .int .i64 0] 3 4 rfl rfl (by decide)
  have b_ : Below w_24.heap.size w_24 (w_24.alloc (.cells #[.int .i64 2, .int .i64 2, .int .i64 0, .int .i64 0] 3)) := (Below.refl _ _).alloc (Nat.le_refl _) _
  generalize w_24.alloc (.cells #[.int .i64 2, .int .i64 2, .int .i64 0, .int .i64 0] 3) = w_25 at *
  replace h_a := h_a.below b_
  replace h_b := h_b.below b_
  replace h_c := h_c.below b_
  replace h_d := h_d.below b_
  replace h_m := h_m.below b_
  replace h_o := h_o.below b_
  replace k := k.trans (b_.mono k.size)
  clear b_
  refine (list_any _ _ _ _).mono ?_
  rintro e w' ⟨rfl, rfl⟩
  go_wp2_with fail
  refine (From_c h_x9 (v := 0) (r := [2, 3, 0, 1]) (by decide +kernel) (by decide +kernel)).mono ?_
  rintro e w_26 ⟨a_p, n_p, c_p, rfl, h_p, b_⟩
  replace h_a := h_a.below b_
  replace h_b := h_b.below b_
  replace h_c := h_c.below b_
  replace h_d := h_d.below b_
  replace h_m := h_m.below b_
  replace h_o := h_o.below b_
  replace h_x9 := h_x9.below b_
  replace k := k.trans (b_.mono k.size)
  clear b_
  clear h_x9
  go_wp2_with fail
  refine (A_any _).mono ?_
  rintro e w_27 ⟨a_x10, n_x10, c_x10, rfl, h_x10, b_⟩
  replace h_a := h_a.below b_
  replace h_b := h_b.below b_
  replace h_c := h_c.below b_
  replace h_d := h_d.below b_
  replace h_m := h_m.below b_
  replace h_o := h_o.below b_
  replace h_p := h_p.below b_
  replace k := k.trans (b_.mono k.size)
  clear b_
  go_wp2_with fail
  refine (Major_c h_x10 (v := 0) (r := 2) (by decide +kernel) (by decide +kernel)).mono ?_
  rintro e w_28 ⟨rfl, b_⟩
  replace h_a := h_a.below b_
  replace h_b := h_b.below b_
  replace h_c := h_c.below b_
  replace h_d := h_d.below b_
  replace h_m := h_m.below b_
  replace h_o := h_o.below b_
  replace h_p := h_p.below b_
  replace h_x10 := h_x10.below b_
  replace k := k.trans (b_.mono k.size)
  clear b_
  clear h_x10
  go_wp2_with fail
  refine (A_any _).mono ?_
  rintro e w_29 ⟨a_x11, n_x11, c_x11, rfl, h_x11, b_⟩
  replace h_a := h_a.below b_
  replace h_b := h_b.below b_
  replace h_c := h_c.below b_
  replace h_d := h_d.below b_
  replace h_m := h_m.below b_
  replace h_o := h_o.below b_
  replace h_p := h_p.below b_
  replace k := k.trans (b_.mono k.size)
  clear b_
  go_wp2_with fail
  refine (Shift_c h_x11 (v := 0) (r := [1, 0, 3, 2]) (by decide +kernel) (by decide +kernel)).mono ?_
  rintro e w_30 ⟨a_r, n_r, c_r, rfl, h_r, b_⟩
  replace h_a := h_a.below b_
  replace h_b := h_b.below b_
  replace h_c := h_c.below b_
  replace h_d := h_d.below b_
  replace h_m := h_m.below b_
  replace h_o := h_o.below b_
  replace h_p := h_p.below b_
  replace h_x11 := h_x11.below b_
  replace k := k.trans (b_.mono k.size)
  clear b_
  clear h_x11
  go_wp2_with fail
  have h_x12 := isL_lit w_30 ([1, 0, 3, 2] : List Int) #[.int .i64 1, .int .i64 0, .int .i64 3, .int .i64 2] 3 4 rfl rfl (by decide)
  have b_ : Below w_30.heap.size w_30 (w_30.alloc (.cells #[.int .i64 1, .int .i64 0, .int .i64 3, .int .i64 2] 3)) := (Below.refl _ _).alloc (Nat.le_refl _) _
  generalize w_30.alloc (.cells #[.int .i64 1, .int .i64 0, .int .i64 3, .int .i64 2] 3) = w_31 at *
  replace h_a := h_a.below b_
  replace h_b := h_b.below b_
  replace h_c := h_c.below b_
  replace h_d := h_d.below b_
  replace h_m := h_m.below b_
  replace h_o := h_o.below b_
  replace h_p := h_p.below b_
  replace h_r := h_r.below b_
  replace k := k.trans (b_.mono k.size)
  clear b_
  refine (list_any _ _ _ _).mono ?_
  rintro e w' ⟨rfl, rfl⟩
  go_wp2_with fail
  refine (Back_c h_x12 (v := 0) (r := [1, 3, 0, 2]) (by decide +kernel) (by decide +kernel)).mono ?_
  rintro e w_32 ⟨a_s, n_s, c_s, rfl, h_s, b_⟩
  replace h_a := h_a.below b_
  replace h_b := h_b.below b_
  replace h_c := h_c.below b_
  replace h_d := h_d.below b_
  replace h_m := h_m.below b_
  replace h_o := h_o.below b_
  replace h_p := h_p.below b_
  replace h_r := h_r.below b_
  replace h_x12 := h_x12.below b_
  replace k := k.trans (b_.mono k.size)
  clear b_
  clear h_x12
  go_wp2_with fail
  refine (Count_c 4 2 _ (v := 0) (r := 5) (by decide +kernel) (by decide +kernel)).mono ?_
  rintro e w_33 ⟨rfl, b_⟩
  replace h_a := h_a.below b_
  replace h_b := h_b.below b_
  replace h_c := h_c.below b_
  replace h_d := h_d.below b_
  replace h_m := h_m.below b_
  replace h_o := h_o.below b_
  replace h_p := h_p.below b_
  replace h_r := h_r.below b_
  replace h_s := h_s.below b_
  replace k := k.trans (b_.mono k.size)
  clear b_
  go_wp2_with fail
  have h_x14 := isL_lit w_33 ([0, 0, 1] : List Int) #[.int .i64 0, .int .i64 0, .int .i64 1] 3 3 rfl rfl (by decide)
  have b_ : Below w_33.heap.size w_33 (w_33.alloc (.cells #[.int .i64 0, .int .i64 0, .int .i64 1] 3)) := (Below.refl _ _).alloc (Nat.le_refl _) _
  generalize w_33.alloc (.cells #[.int .i64 0, .int .i64 0, .int .i64 1] 3) = w_34 at *
  replace h_a := h_a.below b_
  replace h_b := h_b.below b_
  replace h_c := h_c.below b_
  replace h_d := h_d.below b_
  replace h_m := h_m.below b_
  replace h_o := h_o.below b_
  replace h_p := h_p.below b_
  replace h_r := h_r.below b_
  replace h_s := h_s.below b_
  replace k := k.trans (b_.mono k.size)
  clear b_
  refine (list_any _ _ _ _).mono ?_
  rintro e w' ⟨rfl, rfl⟩
  go_wp2_with fail
  refine (From_c h_x14 (v := 1) (r := []) (by decide +kernel) (by decide +kernel)).mono ?_
  rintro e w_35 ⟨a_t, n_t, c_t, rfl, h_t, b_⟩
  replace h_a := h_a.below b_
  replace h_b := h_b.below b_
  replace h_c := h_c.below b_
  replace h_d := h_d.below b_
  replace h_m := h_m.below b_
  replace h_o := h_o.below b_
  replace h_p := h_p.below b_
  replace h_r := h_r.below b_
  replace h_s := h_s.below b_
  replace h_x14 := h_x14.below b_
  replace k := k.trans (b_.mono k.size)
  clear b_
  clear h_x14
  go_wp2_with fail
  have h_q := ownP_lit w_35 65
  have b_ : Below w_35.heap.size w_35 (w_35.alloc (.cells #[.int .i64 0, .int .i64 2, .int .i64 1, .int .i64 3] 65)) := (Below.refl _ _).alloc (Nat.le_refl _) _
  generalize w_35.alloc (.cells #[.int .i64 0, .int .i64 2, .int .i64 1, .int .i64 3] 65) = w_36 at *
  replace h_a := h_a.below b_
  replace h_b := h_b.below b_
  replace h_c := h_c.below b_
  replace h_d := h_d.below b_
  replace h_m := h_m.below b_
  replace h_o := h_o.below b_
  replace h_p := h_p.below b_
  replace h_r := h_r.below b_
  replace h_s := h_s.below b_
  replace h_t := h_t.below b_
  replace k := k.trans (b_.mono k.size)
  clear b_
  refine (pairs_c h_a h_q).mono ?_
  rintro e w_37 ⟨rfl, b_⟩
  replace h_a := h_a.below b_
  replace h_b := h_b.below b_
  replace h_c := h_c.below b_
  replace h_d := h_d.below b_
  replace h_m := h_m.below b_
  replace h_o := h_o.below b_
  replace h_p := h_p.below b_
  replace h_r := h_r.below b_
  replace h_s := h_s.below b_
  replace h_t := h_t.below b_
  replace h_q := h_q.below b_
  replace k := k.trans (b_.mono k.size)
  clear b_
  clear h_a
  clear h_q
  go_wp2_with fail
  have h_u1 := isL_lit w_37 ([0, 2] : List Int) #[.int .i64 0, .int .i64 2] 3 2 rfl rfl (by decide)
  have b_ : Below w_37.heap.size w_37 (w_37.alloc (.cells #[.int .i64 0, .int .i64 2] 3)) := (Below.refl _ _).alloc (Nat.le_refl _) _
  generalize w_37.alloc (.cells #[.int .i64 0, .int .i64 2] 3) = w_38 at *
  replace h_b := h_b.below b_
  replace h_c := h_c.below b_
  replace h_d := h_d.below b_
  replace h_m := h_m.below b_
  replace h_o := h_o.below b_
  replace h_p := h_p.below b_
  replace h_r := h_r.below b_
  replace h_s := h_s.below b_
  replace h_t := h_t.below b_
  replace k := k.trans (b_.mono k.size)
  clear b_
  refine (list_any _ _ _ _).mono ?_
  rintro e w' ⟨rfl, rfl⟩
  go_wp2_with fail
  refine (same_c h_b h_u1).mono ?_
  rintro e w_39 ⟨rfl, b_⟩
  replace h_b := h_b.below b_
  replace h_c := h_c.below b_
  replace h_d := h_d.below b_
  replace h_m := h_m.below b_
  replace h_o := h_o.below b_
  replace h_p := h_p.below b_
  replace h_r := h_r.below b_
  replace h_s := h_s.below b_
  replace h_t := h_t.below b_
  replace h_u1 := h_u1.below b_
  replace k := k.trans (b_.mono k.size)
  clear b_
  clear h_b
  clear h_u1
  go_wp2_with fail
  refine (A_any _).mono ?_
  rintro e w_40 ⟨a_u2, n_u2, c_u2, rfl, h_u2, b_⟩
  replace h_c := h_c.below b_
  replace h_d := h_d.below b_
  replace h_m := h_m.below b_
  replace h_o := h_o.below b_
  replace h_p := h_p.below b_
  replace h_r := h_r.below b_
  replace h_s := h_s.below b_
  replace h_t := h_t.below b_
  replace k := k.trans (b_.mono k.size)
  clear b_
  go_wp2_with fail
  refine (same_c h_c h_u2).mono ?_
  rintro e w_41 ⟨rfl, b_⟩
  replace h_c := h_c.below b_
  replace h_d := h_d.below b_
  replace h_m := h_m.below b_
  replace h_o := h_o.below b_
  replace h_p := h_p.below b_
  replace h_r := h_r.below b_
  replace h_s := h_s.below b_
  replace h_t := h_t.below b_
  replace h_u2 := h_u2.below b_
  replace k := k.trans (b_.mono k.size)
  clear b_
  clear h_c
  clear h_u2
  go_wp2_with fail
  have h_u3 := isL_lit w_41 ([3, 2, 1, 0] : List Int) #[.int .i64 3, .int .i64 2, .int .i64 1, .int .i64 0] 3 4 rfl rfl (by decide)
  have b_ : Below w_41.heap.size w_41 (w_41.alloc (.cells #[.int .i64 3, .int .i64 2, .int .i64 1, .int .i64 0] 3)) := (Below.refl _ _).alloc (Nat.le_refl _) _
  generalize w_41.alloc (.cells #[.int .i64 3, .int .i64 2, .int .i64 1, .int .i64 0] 3) = w_42 at *
  replace h_d := h_d.below b_
  replace h_m := h_m.below b_
  replace h_o := h_o.below b_
  replace h_p := h_p.below b_
  replace h_r := h_r.below b_
  replace h_s := h_s.below b_
  replace h_t := h_t.below b_
  replace k := k.trans (b_.mono k.size)
  clear b_
  refine (list_any _ _ _ _).mono ?_
  rintro e w' ⟨rfl, rfl⟩
  go_wp2_with fail
  refine (same_c h_d h_u3).mono ?_
  rintro e w_43 ⟨rfl, b_⟩
  replace h_d := h_d.below b_
  replace h_m := h_m.below b_
  replace h_o := h_o.below b_
  replace h_p := h_p.below b_
  replace h_r := h_r.below b_
  replace h_s := h_s.below b_
  replace h_t := h_t.below b_
  replace h_u3 := h_u3.below b_
  replace k := k.trans (b_.mono k.size)
  clear b_
  clear h_d
  clear h_u3
  go_wp2_with fail
  refine (A_any _).mono ?_
  rintro e w_44 ⟨a_u4, n_u4, c_u4, rfl, h_u4, b_⟩
  replace h_m := h_m.below b_
  replace h_o := h_o.below b_
  replace h_p := h_p.below b_
  replace h_r := h_r.below b_
  replace h_s := h_s.below b_
  replace h_t := h_t.below b_
  replace k := k.trans (b_.mono k.size)
  clear b_
  go_wp2_with fail
  refine (same_c h_m h_u4).mono ?_
  rintro e w_45 ⟨rfl, b_⟩
  replace h_m := h_m.below b_
  replace h_o := h_o.below b_
  replace h_p := h_p.below b_
  replace h_r := h_r.below b_
  replace h_s := h_s.below b_
  replace h_t := h_t.below b_
  replace h_u4 := h_u4.below b_
  replace k := k.trans (b_.mono k.size)
  clear b_
  clear h_m
  clear h_u4
  go_wp2_with fail
  have h_u5 := isL_lit w_45 ([1, 2, 0, 0] : List Int) #[.int .i64 1, .int .i64 2, .int .i64 0, .int .i64 0] 3 4 rfl rfl (by decide)
  have b_ : Below w_45.heap.size w_45 (w_45.alloc (.cells #[.int .i64 1, .int .i64 2, .int .i64 0, .int .i64 0] 3)) := (Below.refl _ _).alloc (Nat.le_refl _) _
  generalize w_45.alloc (.cells #[.int .i64 1, .int .i64 2, .int .i64 0, .int .i64 0] 3) = w_46 at *
  replace h_o := h_o.below b_
  replace h_p := h_p.below b_
  replace h_r := h_r.below b_
  replace h_s := h_s.below b_
  replace h_t := h_t.below b_
  replace k := k.trans (b_.mono k.size)
  clear b_
  refine (list_any _ _ _ _).mono ?_
  rintro e w' ⟨rfl, rfl⟩
  go_wp2_with fail
  refine (same_c h_o h_u5).mono ?_
  rintro e w_47 ⟨rfl, b_⟩
  replace h_o := h_o.below b_
  replace h_p := h_p.below b_
  replace h_r := h_r.below b_
  replace h_s := h_s.below b_
  replace h_t := h_t.below b_
  replace h_u5 := h_u5.below b_
  replace k := k.trans (b_.mono k.size)
  clear b_
  clear h_o
  clear h_u5
  go_wp2_with fail
  have h_u6 := isL_lit w_47 ([2, 3, 0, 1] : List Int) #[.int .i64 2, .int .i64 3, .int .i64 0, .int .i64 1] 3 4 rfl rfl (by decide)
  have b_ : Below w_47.heap.size w_47 (w_47.alloc (.cells #[.int .i64 2, .int .i64 3, .int .i64 0, .int .i64 1] 3)) := (Below.refl _ _).alloc (Nat.le_refl _) _
  generalize w_47.alloc (.cells #[.int .i64 2, .int .i64 3, .int .i64 0, .int .i64 1] 3) = w_48 at *
  replace h_p := h_p.below b_
  replace h_r := h_r.below b_
  replace h_s := h_s.below b_
  replace h_t := h_t.below b_
  replace k := k.trans (b_.mono k.size)
  clear b_
  refine (list_any _ _ _ _).mono ?_
  rintro e w' ⟨rfl, rfl⟩
  go_wp2_with fail
  refine (same_c h_p h_u6).mono ?_
  rintro e w_49 ⟨rfl, b_⟩
  replace h_p := h_p.below b_
  replace h_r := h_r.below b_
  replace h_s := h_s.below b_
  replace h_t := h_t.below b_
  replace h_u6 := h_u6.below b_
  replace k := k.trans (b_.mono k.size)
  clear b_
  clear h_p
  clear h_u6
  go_wp2_with fail
  have h_u7 := isL_lit w_49 ([1, 0, 3, 2] : List Int) #[.int .i64 1, .int .i64 0, .int .i64 3, .int .i64 2] 3 4 rfl rfl (by decide)
  have b_ : Below w_49.heap.size w_49 (w_49.alloc (.cells #[.int .i64 1, .int .i64 0, .int .i64 3, .int .i64 2] 3)) := (Below.refl _ _).alloc (Nat.le_refl _) _
  generalize w_49.alloc (.cells #[.int .i64 1, .int .i64 0, .int .i64 3, .int .i64 2] 3) = w_50 at *
  replace h_r := h_r.below b_
  replace h_s := h_s.below b_
  replace h_t := h_t.below b_
  replace k := k.trans (b_.mono k.size)
  clear b_
  refine (list_any _ _ _ _).mono ?_
  rintro e w' ⟨rfl, rfl⟩
  go_wp2_with fail
  refine (same_c h_r h_u7).mono ?_
  rintro e w_51 ⟨rfl, b_⟩
  replace h_r := h_r.below b_
  replace h_s := h_s.below b_
  replace h_t := h_t.below b_
  replace h_u7 := h_u7.below b_
  replace k := k.trans (b_.mono k.size)
  clear b_
  clear h_r
  clear h_u7
  go_wp2_with fail
  refine (A_any _).mono ?_
  rintro e w_52 ⟨a_u8, n_u8, c_u8, rfl, h_u8, b_⟩
  replace h_s := h_s.below b_
  replace h_t := h_t.below b_
  replace k := k.trans (b_.mono k.size)
  clear b_
  go_wp2_with fail
  refine (same_c h_s h_u8).mono ?_
  rintro e w_53 ⟨rfl, b_⟩
  replace h_s := h_s.below b_
  replace h_t := h_t.below b_
  replace h_u8 := h_u8.below b_
  replace k := k.trans (b_.mono k.size)
  clear b_
  clear h_s
  clear h_u8
  go_wp2_with fail
  refine (A_any _).mono ?_
  rintro e w_54 ⟨a_u9, n_u9, c_u9, rfl, h_u9, b_⟩
  replace h_t := h_t.below b_
  replace k := k.trans (b_.mono k.size)
  clear b_
  go_wp2_with fail
  refine (B_any _).mono ?_
  rintro e w_55 ⟨a_v9, n_v9, c_v9, rfl, h_v9, b_⟩
  replace h_t := h_t.below b_
  replace h_u9 := h_u9.below b_
  replace k := k.trans (b_.mono k.size)
  clear b_
  go_wp2_with fail
  have h_w9 := isL_lit w_55 ([2, 0] : List Int) #[.int .i64 2, .int .i64 0] 3 2 rfl rfl (by decide)
  have b_ : Below w_55.heap.size w_55 (w_55.alloc (.cells #[.int .i64 2, .int .i64 0] 3)) := (Below.refl _ _).alloc (Nat.le_refl _) _
  generalize w_55.alloc (.cells #[.int .i64 2, .int .i64 0] 3) = w_56 at *
  replace h_t := h_t.below b_
  replace h_u9 := h_u9.below b_
  replace h_v9 := h_v9.below b_
  replace k := k.trans (b_.mono k.size)
  clear b_
  refine (list_any _ _ _ _).mono ?_
  rintro e w' ⟨rfl, rfl⟩
  go_wp2_with fail
  refine (Leads_c h_u9 h_v9 h_w9 (v := 0) (by decide +kernel)).mono ?_
  rintro e w_57 ⟨rfl, b_⟩
  replace h_t := h_t.below b_
  replace h_u9 := h_u9.below b_
  replace h_v9 := h_v9.below b_
  replace h_w9 := h_w9.below b_
  replace k := k.trans (b_.mono k.size)
  clear b_
  clear h_u9
  clear h_v9
  clear h_w9
  go_wp2_with fail
  refine (A_any _).mono ?_
  rintro e w_58 ⟨a_u10, n_u10, c_u10, rfl, h_u10, b_⟩
  replace h_t := h_t.below b_
  replace k := k.trans (b_.mono k.size)
  clear b_
  go_wp2_with fail
  refine (B_any _).mono ?_
  rintro e w_59 ⟨a_v10, n_v10, c_v10, rfl, h_v10, b_⟩
  replace h_t := h_t.below b_
  replace h_u10 := h_u10.below b_
  replace k := k.trans (b_.mono k.size)
  clear b_
  go_wp2_with fail
  have h_w10 := isL_lit w_59 ([0] : List Int) #[.int .i64 0] 3 1 rfl rfl (by decide)
  have b_ : Below w_59.heap.size w_59 (w_59.alloc (.cells #[.int .i64 0] 3)) := (Below.refl _ _).alloc (Nat.le_refl _) _
  generalize w_59.alloc (.cells #[.int .i64 0] 3) = w_60 at *
  replace h_t := h_t.below b_
  replace h_u10 := h_u10.below b_
  replace h_v10 := h_v10.below b_
  replace k := k.trans (b_.mono k.size)
  clear b_
  refine (list_any _ _ _ _).mono ?_
  rintro e w' ⟨rfl, rfl⟩
  go_wp2_with fail
  refine (Leads_c h_u10 h_v10 h_w10 (v := 12) (by decide +kernel)).mono ?_
  rintro e w_61 ⟨rfl, b_⟩
  replace h_t := h_t.below b_
  replace h_u10 := h_u10.below b_
  replace h_v10 := h_v10.below b_
  replace h_w10 := h_w10.below b_
  replace k := k.trans (b_.mono k.size)
  clear b_
  clear h_u10
  clear h_v10
  clear h_w10
  go_wp2
  go_ret
  exact ⟨rfl, k⟩
end Go.Proofs.Ytmcckngodaeojaa
