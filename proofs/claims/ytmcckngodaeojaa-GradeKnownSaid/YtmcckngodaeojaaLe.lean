/- Law of chapter 3: GradeKnown. -/
import Derived.Test.YtmcckngodaeojaaWR
namespace Go.Proofs.Ytmcckngodaeojaa
open Go.RowKit Grade03

set_option maxHeartbeats 8000000 in
set_option maxRecDepth 100000 in
theorem GradeKnown_any (w : World) :
    Calls Try.prog 9 #[] w fun e w' => e = .returned (.bool true) ∧ Below w.heap.size w w' := by
  go_enter Try.func9, Try.ntmps9
  have k := Below.refl w.heap.size w
  go_wp2_with fail
  refine (B_any _).mono ?_
  rintro e w_1 ⟨a_x1, n_x1, c_x1, rfl, h_x1, b_⟩
  replace k := k.trans (b_.mono k.size)
  clear b_
  go_wp2_with fail
  refine (A_any _).mono ?_
  rintro e w_2 ⟨a_y1, n_y1, c_y1, rfl, h_y1, b_⟩
  replace h_x1 := h_x1.below b_
  replace k := k.trans (b_.mono k.size)
  clear b_
  go_wp2_with fail
  refine (Way_c h_x1 h_y1 (v := 0) (r := [0, 2]) (by decide +kernel) (by decide +kernel)).mono ?_
  rintro e w_3 ⟨a_a, n_a, c_a, rfl, h_a, b_⟩
  replace h_x1 := h_x1.below b_
  replace h_y1 := h_y1.below b_
  replace k := k.trans (b_.mono k.size)
  clear b_
  clear h_x1
  clear h_y1
  go_wp2_with fail
  refine (A_any _).mono ?_
  rintro e w_4 ⟨a_x2, n_x2, c_x2, rfl, h_x2, b_⟩
  replace h_a := h_a.below b_
  replace k := k.trans (b_.mono k.size)
  clear b_
  go_wp2_with fail
  refine (B_any _).mono ?_
  rintro e w_5 ⟨a_y2, n_y2, c_y2, rfl, h_y2, b_⟩
  replace h_a := h_a.below b_
  replace h_x2 := h_x2.below b_
  replace k := k.trans (b_.mono k.size)
  clear b_
  go_wp2_with fail
  have h_z2 := isL_lit w_5 ([1, 0, 3, 2] : List Int) #[.int .i64 1, .int .i64 0, .int .i64 3, .int .i64 2] 3 4 rfl rfl (by decide)
  have b_ : Below w_5.heap.size w_5 (w_5.alloc (.cells #[.int .i64 1, .int .i64 0, .int .i64 3, .int .i64 2] 3)) := (Below.refl _ _).alloc (Nat.le_refl _) _
  generalize w_5.alloc (.cells #[.int .i64 1, .int .i64 0, .int .i64 3, .int .i64 2] 3) = w_6 at *
  replace h_a := h_a.below b_
  replace h_x2 := h_x2.below b_
  replace h_y2 := h_y2.below b_
  replace k := k.trans (b_.mono k.size)
  clear b_
  refine (list_any _ _ _ _).mono ?_
  rintro e w' ⟨rfl, rfl⟩
  go_wp2_with fail
  refine (Between_c h_x2 h_y2 h_z2 (v := 0) (r := false) (by decide +kernel) (by decide +kernel)).mono ?_
  rintro e w_7 ⟨rfl, b_⟩
  replace h_a := h_a.below b_
  replace h_x2 := h_x2.below b_
  replace h_y2 := h_y2.below b_
  replace h_z2 := h_z2.below b_
  replace k := k.trans (b_.mono k.size)
  clear b_
  clear h_x2
  clear h_y2
  clear h_z2
  go_wp2_with fail
  have h_x3 := isL_lit w_7 ([1, 0, 2, 3] : List Int) #[.int .i64 1, .int .i64 0, .int .i64 2, .int .i64 3] 3 4 rfl rfl (by decide)
  have b_ : Below w_7.heap.size w_7 (w_7.alloc (.cells #[.int .i64 1, .int .i64 0, .int .i64 2, .int .i64 3] 3)) := (Below.refl _ _).alloc (Nat.le_refl _) _
  generalize w_7.alloc (.cells #[.int .i64 1, .int .i64 0, .int .i64 2, .int .i64 3] 3) = w_8 at *
  replace h_a := h_a.below b_
  replace k := k.trans (b_.mono k.size)
  clear b_
  refine (list_any _ _ _ _).mono ?_
  rintro e w' ⟨rfl, rfl⟩
  go_wp2_with fail
  have h_y3 := isL_lit w_8 ([0, 1, 3, 2] : List Int) #[.int .i64 0, .int .i64 1, .int .i64 3, .int .i64 2] 3 4 rfl rfl (by decide)
  have b_ : Below w_8.heap.size w_8 (w_8.alloc (.cells #[.int .i64 0, .int .i64 1, .int .i64 3, .int .i64 2] 3)) := (Below.refl _ _).alloc (Nat.le_refl _) _
  generalize w_8.alloc (.cells #[.int .i64 0, .int .i64 1, .int .i64 3, .int .i64 2] 3) = w_9 at *
  replace h_a := h_a.below b_
  replace h_x3 := h_x3.below b_
  replace k := k.trans (b_.mono k.size)
  clear b_
  refine (list_any _ _ _ _).mono ?_
  rintro e w' ⟨rfl, rfl⟩
  go_wp2_with fail
  refine (Join_c h_x3 h_y3 (v := 0) (r := [1, 0, 3, 2]) (by decide +kernel) (by decide +kernel)).mono ?_
  rintro e w_10 ⟨a_b, n_b, c_b, rfl, h_b, b_⟩
  replace h_a := h_a.below b_
  replace h_x3 := h_x3.below b_
  replace h_y3 := h_y3.below b_
  replace k := k.trans (b_.mono k.size)
  clear b_
  clear h_x3
  clear h_y3
  go_wp2_with fail
  refine (A_any _).mono ?_
  rintro e w_11 ⟨a_x4, n_x4, c_x4, rfl, h_x4, b_⟩
  replace h_a := h_a.below b_
  replace h_b := h_b.below b_
  replace k := k.trans (b_.mono k.size)
  clear b_
  go_wp2_with fail
  have h_y4 := isL_lit w_11 ([0, 2, 1, 3] : List Int) #[.int .i64 0, .int .i64 2, .int .i64 1, .int .i64 3] 3 4 rfl rfl (by decide)
  have b_ : Below w_11.heap.size w_11 (w_11.alloc (.cells #[.int .i64 0, .int .i64 2, .int .i64 1, .int .i64 3] 3)) := (Below.refl _ _).alloc (Nat.le_refl _) _
  generalize w_11.alloc (.cells #[.int .i64 0, .int .i64 2, .int .i64 1, .int .i64 3] 3) = w_12 at *
  replace h_a := h_a.below b_
  replace h_b := h_b.below b_
  replace h_x4 := h_x4.below b_
  replace k := k.trans (b_.mono k.size)
  clear b_
  refine (list_any _ _ _ _).mono ?_
  rintro e w' ⟨rfl, rfl⟩
  go_wp2_with fail
  refine (Meet_c h_x4 h_y4 (v := 0) (r := [0, 1, 2, 3]) (by decide +kernel) (by decide +kernel)).mono ?_
  rintro e w_13 ⟨a_c, n_c, c_c, rfl, h_c, b_⟩
  replace h_a := h_a.below b_
  replace h_b := h_b.below b_
  replace h_x4 := h_x4.below b_
  replace h_y4 := h_y4.below b_
  replace k := k.trans (b_.mono k.size)
  clear b_
  clear h_x4
  clear h_y4
  go_wp2_with fail
  have h_x5 := isL_lit w_13 ([1, 2, 0, 0] : List Int) #[.int .i64 1, .int .i64 2, .int .i64 0, .int .i64 0] 3 4 rfl rfl (by decide)
  have b_ : Below w_13.heap.size w_13 (w_13.alloc (.cells #[.int .i64 1, .int .i64 2, .int .i64 0, .int .i64 0] 3)) := (Below.refl _ _).alloc (Nat.le_refl _) _
  generalize w_13.alloc (.cells #[.int .i64 1, .int .i64 2, .int .i64 0, .int .i64 0] 3) = w_14 at *
  replace h_a := h_a.below b_
  replace h_b := h_b.below b_
  replace h_c := h_c.below b_
  replace k := k.trans (b_.mono k.size)
  clear b_
  refine (list_any _ _ _ _).mono ?_
  rintro e w' ⟨rfl, rfl⟩
  go_wp2_with fail
  refine (From_c h_x5 (v := 0) (r := [1, 3, 0, 2]) (by decide +kernel) (by decide +kernel)).mono ?_
  rintro e w_15 ⟨a_d, n_d, c_d, rfl, h_d, b_⟩
  replace h_a := h_a.below b_
  replace h_b := h_b.below b_
  replace h_c := h_c.below b_
  replace h_x5 := h_x5.below b_
  replace k := k.trans (b_.mono k.size)
  clear b_
  clear h_x5
  go_wp2_with fail
  refine (Count_c 7 10 _ (v := 0) (r := 573) (by decide +kernel) (by decide +kernel)).mono ?_
  rintro e w_16 ⟨rfl, b_⟩
  replace h_a := h_a.below b_
  replace h_b := h_b.below b_
  replace h_c := h_c.below b_
  replace h_d := h_d.below b_
  replace k := k.trans (b_.mono k.size)
  clear b_
  go_wp2_with fail
  refine (Count_c 4 7 _ (v := 1) (r := 0) (by decide +kernel) (by decide +kernel)).mono ?_
  rintro e w_17 ⟨rfl, b_⟩
  replace h_a := h_a.below b_
  replace h_b := h_b.below b_
  replace h_c := h_c.below b_
  replace h_d := h_d.below b_
  replace k := k.trans (b_.mono k.size)
  clear b_
  go_wp2_with fail
  refine (A_any _).mono ?_
  rintro e w_18 ⟨a_x6, n_x6, c_x6, rfl, h_x6, b_⟩
  replace h_a := h_a.below b_
  replace h_b := h_b.below b_
  replace h_c := h_c.below b_
  replace h_d := h_d.below b_
  replace k := k.trans (b_.mono k.size)
  clear b_
  go_wp2_with fail
  have h_y6 := isL_lit w_18 ([0] : List Int) #[.int .i64 0] 3 1 rfl rfl (by decide)
  have b_ : Below w_18.heap.size w_18 (w_18.alloc (.cells #[.int .i64 0] 3)) := (Below.refl _ _).alloc (Nat.le_refl _) _
  generalize w_18.alloc (.cells #[.int .i64 0] 3) = w_19 at *
  replace h_a := h_a.below b_
  replace h_b := h_b.below b_
  replace h_c := h_c.below b_
  replace h_d := h_d.below b_
  replace h_x6 := h_x6.below b_
  replace k := k.trans (b_.mono k.size)
  clear b_
  refine (list_any _ _ _ _).mono ?_
  rintro e w' ⟨rfl, rfl⟩
  go_wp2_with fail
  refine (Differ_c h_x6 h_y6 (v := 5) (A := []) (by decide +kernel) (by decide +kernel)).mono ?_
  rintro e w_20 ⟨a_q, n_q, c_q, rfl, h_q, b_⟩
  replace h_a := h_a.below b_
  replace h_b := h_b.below b_
  replace h_c := h_c.below b_
  replace h_d := h_d.below b_
  replace h_x6 := h_x6.below b_
  replace h_y6 := h_y6.below b_
  replace k := k.trans (b_.mono k.size)
  clear b_
  clear h_x6
  clear h_y6
  go_wp2_with fail
  have h_u1 := isL_lit w_20 ([0, 2] : List Int) #[.int .i64 0, .int .i64 2] 3 2 rfl rfl (by decide)
  have b_ : Below w_20.heap.size w_20 (w_20.alloc (.cells #[.int .i64 0, .int .i64 2] 3)) := (Below.refl _ _).alloc (Nat.le_refl _) _
  generalize w_20.alloc (.cells #[.int .i64 0, .int .i64 2] 3) = w_21 at *
  replace h_a := h_a.below b_
  replace h_b := h_b.below b_
  replace h_c := h_c.below b_
  replace h_d := h_d.below b_
  replace h_q := h_q.below b_
  replace k := k.trans (b_.mono k.size)
  clear b_
  refine (list_any _ _ _ _).mono ?_
  rintro e w' ⟨rfl, rfl⟩
  go_wp2_with fail
  refine (same_c h_a h_u1).mono ?_
  rintro e w_22 ⟨rfl, b_⟩
  replace h_a := h_a.below b_
  replace h_b := h_b.below b_
  replace h_c := h_c.below b_
  replace h_d := h_d.below b_
  replace h_q := h_q.below b_
  replace h_u1 := h_u1.below b_
  replace k := k.trans (b_.mono k.size)
  clear b_
  clear h_a
  clear h_u1
  go_wp2_with fail
  have h_u2 := isL_lit w_22 ([1, 0, 3, 2] : List Int) #[.int .i64 1, .int .i64 0, .int .i64 3, .int .i64 2] 3 4 rfl rfl (by decide)
  have b_ : Below w_22.heap.size w_22 (w_22.alloc (.cells #[.int .i64 1, .int .i64 0, .int .i64 3, .int .i64 2] 3)) := (Below.refl _ _).alloc (Nat.le_refl _) _
  generalize w_22.alloc (.cells #[.int .i64 1, .int .i64 0, .int .i64 3, .int .i64 2] 3) = w_23 at *
  replace h_b := h_b.below b_
  replace h_c := h_c.below b_
  replace h_d := h_d.below b_
  replace h_q := h_q.below b_
  replace k := k.trans (b_.mono k.size)
  clear b_
  refine (list_any _ _ _ _).mono ?_
  rintro e w' ⟨rfl, rfl⟩
  go_wp2_with fail
  refine (same_c h_b h_u2).mono ?_
  rintro e w_24 ⟨rfl, b_⟩
  replace h_b := h_b.below b_
  replace h_c := h_c.below b_
  replace h_d := h_d.below b_
  replace h_q := h_q.below b_
  replace h_u2 := h_u2.below b_
  replace k := k.trans (b_.mono k.size)
  clear b_
  clear h_b
  clear h_u2
  go_wp2_with fail
  have h_u3 := isL_lit w_24 ([0, 1, 2, 3] : List Int) #[.int .i64 0, .int .i64 1, .int .i64 2, .int .i64 3] 3 4 rfl rfl (by decide)
  have b_ : Below w_24.heap.size w_24 (w_24.alloc (.cells #[.int .i64 0, .int .i64 1, .int .i64 2, .int .i64 3] 3)) := (Below.refl _ _).alloc (Nat.le_refl _) _
  generalize w_24.alloc (.cells #[.int .i64 0, .int .i64 1, .int .i64 2, .int .i64 3] 3) = w_25 at *
  replace h_c := h_c.below b_
  replace h_d := h_d.below b_
  replace h_q := h_q.below b_
  replace k := k.trans (b_.mono k.size)
  clear b_
  refine (list_any _ _ _ _).mono ?_
  rintro e w' ⟨rfl, rfl⟩
  go_wp2_with fail
  refine (same_c h_c h_u3).mono ?_
  rintro e w_26 ⟨rfl, b_⟩
  replace h_c := h_c.below b_
  replace h_d := h_d.below b_
  replace h_q := h_q.below b_
  replace h_u3 := h_u3.below b_
  replace k := k.trans (b_.mono k.size)
  clear b_
  clear h_c
  clear h_u3
  go_wp2_with fail
  refine (A_any _).mono ?_
  rintro e w_27 ⟨a_u4, n_u4, c_u4, rfl, h_u4, b_⟩
  replace h_d := h_d.below b_
  replace h_q := h_q.below b_
  replace k := k.trans (b_.mono k.size)
  clear b_
  go_wp2_with fail
  refine (same_c h_d h_u4).mono ?_
  rintro e w_28 ⟨rfl, b_⟩
  replace h_d := h_d.below b_
  replace h_q := h_q.below b_
  replace h_u4 := h_u4.below b_
  replace k := k.trans (b_.mono k.size)
  clear b_
  clear h_d
  clear h_u4
  go_wp2_with fail
  refine (A_any _).mono ?_
  rintro e w_29 ⟨a_x7, n_x7, c_x7, rfl, h_x7, b_⟩
  replace h_q := h_q.below b_
  replace k := k.trans (b_.mono k.size)
  clear b_
  go_wp2_with fail
  refine (B_any _).mono ?_
  rintro e w_30 ⟨a_y7, n_y7, c_y7, rfl, h_y7, b_⟩
  replace h_q := h_q.below b_
  replace h_x7 := h_x7.below b_
  replace k := k.trans (b_.mono k.size)
  clear b_
  go_wp2_with fail
  have h_z7 := isL_lit w_30 ([3] : List Int) #[.int .i64 3] 3 1 rfl rfl (by decide)
  have b_ : Below w_30.heap.size w_30 (w_30.alloc (.cells #[.int .i64 3] 3)) := (Below.refl _ _).alloc (Nat.le_refl _) _
  generalize w_30.alloc (.cells #[.int .i64 3] 3) = w_31 at *
  replace h_q := h_q.below b_
  replace h_x7 := h_x7.below b_
  replace h_y7 := h_y7.below b_
  replace k := k.trans (b_.mono k.size)
  clear b_
  refine (list_any _ _ _ _).mono ?_
  rintro e w' ⟨rfl, rfl⟩
  go_wp2_with fail
  refine (Leads_c h_x7 h_y7 h_z7 (v := 2) (by decide +kernel)).mono ?_
  rintro e w_32 ⟨rfl, b_⟩
  replace h_q := h_q.below b_
  replace h_x7 := h_x7.below b_
  replace h_y7 := h_y7.below b_
  replace h_z7 := h_z7.below b_
  replace k := k.trans (b_.mono k.size)
  clear b_
  clear h_x7
  clear h_y7
  clear h_z7
  go_wp2_with fail
  refine (A_any _).mono ?_
  rintro e w_33 ⟨a_x8, n_x8, c_x8, rfl, h_x8, b_⟩
  replace h_q := h_q.below b_
  replace k := k.trans (b_.mono k.size)
  clear b_
  go_wp2_with fail
  refine (B_any _).mono ?_
  rintro e w_34 ⟨a_y8, n_y8, c_y8, rfl, h_y8, b_⟩
  replace h_q := h_q.below b_
  replace h_x8 := h_x8.below b_
  replace k := k.trans (b_.mono k.size)
  clear b_
  go_wp2_with fail
  have h_z8 := isL_lit w_34 ([0, 1, 1, 2] : List Int) #[.int .i64 0, .int .i64 1, .int .i64 1, .int .i64 2] 3 4 rfl rfl (by decide)
  have b_ : Below w_34.heap.size w_34 (w_34.alloc (.cells #[.int .i64 0, .int .i64 1, .int .i64 1, .int .i64 2] 3)) := (Below.refl _ _).alloc (Nat.le_refl _) _
  generalize w_34.alloc (.cells #[.int .i64 0, .int .i64 1, .int .i64 1, .int .i64 2] 3) = w_35 at *
  replace h_q := h_q.below b_
  replace h_x8 := h_x8.below b_
  replace h_y8 := h_y8.below b_
  replace k := k.trans (b_.mono k.size)
  clear b_
  refine (list_any _ _ _ _).mono ?_
  rintro e w' ⟨rfl, rfl⟩
  go_wp2_with fail
  refine (Leads_c h_x8 h_y8 h_z8 (v := 0) (by decide +kernel)).mono ?_
  rintro e w_36 ⟨rfl, b_⟩
  replace h_q := h_q.below b_
  replace h_x8 := h_x8.below b_
  replace h_y8 := h_y8.below b_
  replace h_z8 := h_z8.below b_
  replace k := k.trans (b_.mono k.size)
  clear b_
  clear h_x8
  clear h_y8
  clear h_z8
  go_wp2_with fail
  refine (Check_c (IsL.nilL _) (v := 4) (by decide +kernel)).mono ?_
  rintro e w_37 ⟨rfl, b_⟩
  replace h_q := h_q.below b_
  replace k := k.trans (b_.mono k.size)
  clear b_
  go_wp2_with fail
  have h_x9 := isL_lit w_37 ([0, 2] : List Int) #[.int .i64 0, .int .i64 2] 3 2 rfl rfl (by decide)
  have b_ : Below w_37.heap.size w_37 (w_37.alloc (.cells #[.int .i64 0, .int .i64 2] 3)) := (Below.refl _ _).alloc (Nat.le_refl _) _
  generalize w_37.alloc (.cells #[.int .i64 0, .int .i64 2] 3) = w_38 at *
  replace h_q := h_q.below b_
  replace k := k.trans (b_.mono k.size)
  clear b_
  refine (list_any _ _ _ _).mono ?_
  rintro e w' ⟨rfl, rfl⟩
  go_wp2_with fail
  refine (Check_c h_x9 (v := 2) (by decide +kernel)).mono ?_
  rintro e w_39 ⟨rfl, b_⟩
  replace h_q := h_q.below b_
  replace h_x9 := h_x9.below b_
  replace k := k.trans (b_.mono k.size)
  clear b_
  clear h_x9
  go_wp2_with fail
  have h_x10 := isL_lit w_39 ([0, 0] : List Int) #[.int .i64 0, .int .i64 0] 3 2 rfl rfl (by decide)
  have b_ : Below w_39.heap.size w_39 (w_39.alloc (.cells #[.int .i64 0, .int .i64 0] 3)) := (Below.refl _ _).alloc (Nat.le_refl _) _
  generalize w_39.alloc (.cells #[.int .i64 0, .int .i64 0] 3) = w_40 at *
  replace h_q := h_q.below b_
  replace k := k.trans (b_.mono k.size)
  clear b_
  refine (list_any _ _ _ _).mono ?_
  rintro e w' ⟨rfl, rfl⟩
  go_wp2_with fail
  refine (Check_c h_x10 (v := 6) (by decide +kernel)).mono ?_
  rintro e w_41 ⟨rfl, b_⟩
  replace h_q := h_q.below b_
  replace h_x10 := h_x10.below b_
  replace k := k.trans (b_.mono k.size)
  clear b_
  clear h_x10
  go_wp2_with fail
  refine (works_any _).mono ?_
  rintro e w_42 ⟨rfl, b_⟩
  replace h_q := h_q.below b_
  replace k := k.trans (b_.mono k.size)
  clear b_
  go_wp2
  go_ret
  exact ⟨rfl, k⟩
end Go.Proofs.Ytmcckngodaeojaa
