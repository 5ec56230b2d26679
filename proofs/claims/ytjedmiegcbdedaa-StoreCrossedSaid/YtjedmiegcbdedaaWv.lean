/- Walks of chapter 11: the examples in works. -/
import Derived.Test.YtjedmiegcbdedaaWu
namespace Go.Proofs.Ytjedmiegcbdedaa
open Go.RowKit Store11

set_option maxHeartbeats 4000000 in
set_option maxRecDepth 100000 in
theorem works_any (w : World) : Calls Try.prog 15 #[] w fun e w' => e = .returned (.bool true) ∧ Below w.heap.size w w' := by
  go_enter Try.func15, Try.ntmps15
  have k := Below.refl w.heap.size w
  go_wp2_with fail
  have h_x1 := isL_lit w ([7, 3, 3, 7, 5] : List Int) #[.int .i64 7, .int .i64 3, .int .i64 3, .int .i64 7, .int .i64 5] 3 5 rfl rfl (by decide)
  have b_ : Below w.heap.size w (w.alloc (.cells #[.int .i64 7, .int .i64 3, .int .i64 3, .int .i64 7, .int .i64 5] 3)) := (Below.refl _ _).alloc (Nat.le_refl _) _
  generalize w.alloc (.cells #[.int .i64 7, .int .i64 3, .int .i64 3, .int .i64 7, .int .i64 5] 3) = w_1 at *
  replace k := k.trans (b_.mono k.size)
  clear b_
  refine (list_any _ _ _ _).mono ?_
  rintro e w' ⟨rfl, rfl⟩
  go_wp2_with fail
  refine (Of_c _ _ _ _ h_x1 (r := [0, 1, 1, 0, 2]) (v := 0) (by decide +kernel) (by decide +kernel) (by decide)).mono ?_
  rintro e w_2 ⟨a_a, n_a, c_a, rfl, h_a, b_⟩
  replace h_x1 := h_x1.below b_
  replace k := k.trans (b_.mono k.size)
  clear b_
  clear h_x1
  go_wp2_with fail
  refine (Count_c _ 5 (v := 52) (x := 0) (by decide +kernel) (by decide +kernel)).mono ?_
  rintro e w_3 ⟨rfl, b_⟩
  replace h_a := h_a.below b_
  replace k := k.trans (b_.mono k.size)
  clear b_
  go_wp2_with fail
  refine (Into_c _ 9 4 (v := 7770) (x := 0) (by decide +kernel) (by decide +kernel)).mono ?_
  rintro e w_4 ⟨rfl, b_⟩
  replace h_a := h_a.below b_
  replace k := k.trans (b_.mono k.size)
  clear b_
  go_wp2_with fail
  refine (At_c _ 3 2 (r := [0, 1, 0]) (x := 0) (by decide +kernel) (by decide +kernel)).mono ?_
  rintro e w_5 ⟨a_d, n_d, c_d, rfl, h_d, b_⟩
  replace h_a := h_a.below b_
  replace k := k.trans (b_.mono k.size)
  clear b_
  go_wp2_with fail
  refine (Q_any _).mono ?_
  rintro e w_6 ⟨a_q1, n_q1, c_q1, rfl, h_q1, b_⟩
  replace h_a := h_a.below b_
  replace h_d := h_d.below b_
  replace k := k.trans (b_.mono k.size)
  clear b_
  go_wp2_with fail
  refine (Number_c _ _ _ _ h_q1 (v := 27) (x := 0) (by decide +kernel) (by decide +kernel)).mono ?_
  rintro e w_7 ⟨rfl, b_⟩
  replace h_a := h_a.below b_
  replace h_d := h_d.below b_
  replace h_q1 := h_q1.below b_
  replace k := k.trans (b_.mono k.size)
  clear b_
  clear h_q1
  go_wp2_with fail
  have h_x2 := isL_lit w_7 ([0, 1, 2, 3, 4] : List Int) #[.int .i64 0, .int .i64 1, .int .i64 2, .int .i64 3, .int .i64 4] 3 5 rfl rfl (by decide)
  have b_ : Below w_7.heap.size w_7 (w_7.alloc (.cells #[.int .i64 0, .int .i64 1, .int .i64 2, .int .i64 3, .int .i64 4] 3)) := (Below.refl _ _).alloc (Nat.le_refl _) _
  generalize w_7.alloc (.cells #[.int .i64 0, .int .i64 1, .int .i64 2, .int .i64 3, .int .i64 4] 3) = w_8 at *
  replace h_a := h_a.below b_
  replace h_d := h_d.below b_
  replace k := k.trans (b_.mono k.size)
  clear b_
  refine (list_any _ _ _ _).mono ?_
  rintro e w' ⟨rfl, rfl⟩
  go_wp2_with fail
  refine (P_any _).mono ?_
  rintro e w_9 ⟨a_p1, n_p1, c_p1, rfl, h_p1, b_⟩
  replace h_a := h_a.below b_
  replace h_d := h_d.below b_
  replace h_x2 := h_x2.below b_
  replace k := k.trans (b_.mono k.size)
  clear b_
  go_wp2_with fail
  refine (Finer_c _ _ _ _ _ _ _ h_x2 h_p1 (v := true) (x := 0) (by decide +kernel) (by decide +kernel) (by decide) (by decide)).mono ?_
  rintro e w_10 ⟨rfl, b_⟩
  replace h_a := h_a.below b_
  replace h_d := h_d.below b_
  replace h_x2 := h_x2.below b_
  replace h_p1 := h_p1.below b_
  replace k := k.trans (b_.mono k.size)
  clear b_
  clear h_x2
  clear h_p1
  go_wp2_with fail
  refine (P_any _).mono ?_
  rintro e w_11 ⟨a_p2, n_p2, c_p2, rfl, h_p2, b_⟩
  replace h_a := h_a.below b_
  replace h_d := h_d.below b_
  replace k := k.trans (b_.mono k.size)
  clear b_
  go_wp2_with fail
  refine (Q_any _).mono ?_
  rintro e w_12 ⟨a_q2, n_q2, c_q2, rfl, h_q2, b_⟩
  replace h_a := h_a.below b_
  replace h_d := h_d.below b_
  replace h_p2 := h_p2.below b_
  replace k := k.trans (b_.mono k.size)
  clear b_
  go_wp2_with fail
  refine (Join_c _ _ _ _ _ _ _ h_p2 h_q2 (r := [0, 0, 0, 0, 1]) (x := 0) (by decide +kernel) (by decide +kernel) (by decide)).mono ?_
  rintro e w_13 ⟨a_m, n_m, c_m, rfl, h_m, b_⟩
  replace h_a := h_a.below b_
  replace h_d := h_d.below b_
  replace h_p2 := h_p2.below b_
  replace h_q2 := h_q2.below b_
  replace k := k.trans (b_.mono k.size)
  clear b_
  clear h_p2
  clear h_q2
  go_wp2_with fail
  refine (P_any _).mono ?_
  rintro e w_14 ⟨a_p3, n_p3, c_p3, rfl, h_p3, b_⟩
  replace h_a := h_a.below b_
  replace h_d := h_d.below b_
  replace h_m := h_m.below b_
  replace k := k.trans (b_.mono k.size)
  clear b_
  go_wp2_with fail
  refine (Q_any _).mono ?_
  rintro e w_15 ⟨a_q3, n_q3, c_q3, rfl, h_q3, b_⟩
  replace h_a := h_a.below b_
  replace h_d := h_d.below b_
  replace h_m := h_m.below b_
  replace h_p3 := h_p3.below b_
  replace k := k.trans (b_.mono k.size)
  clear b_
  go_wp2_with fail
  refine (Meet_c _ _ _ _ _ _ _ h_p3 h_q3 (r := [0, 1, 2, 3, 4]) (x := 0) (by decide +kernel) (by decide +kernel) (by decide) (by decide)).mono ?_
  rintro e w_16 ⟨a_n, n_n, c_n, rfl, h_n, b_⟩
  replace h_a := h_a.below b_
  replace h_d := h_d.below b_
  replace h_m := h_m.below b_
  replace h_p3 := h_p3.below b_
  replace h_q3 := h_q3.below b_
  replace k := k.trans (b_.mono k.size)
  clear b_
  clear h_p3
  clear h_q3
  go_wp2_with fail
  refine (P_any _).mono ?_
  rintro e w_17 ⟨a_p4, n_p4, c_p4, rfl, h_p4, b_⟩
  replace h_a := h_a.below b_
  replace h_d := h_d.below b_
  replace h_m := h_m.below b_
  replace h_n := h_n.below b_
  replace k := k.trans (b_.mono k.size)
  clear b_
  go_wp2_with fail
  refine (Arcs_c _ _ _ _ h_p4 (u := 1) (v := 0) (x := 0) (by decide +kernel) (by decide +kernel) (by decide)).mono ?_
  rintro e w_18 ⟨rfl, b_⟩
  replace h_a := h_a.below b_
  replace h_d := h_d.below b_
  replace h_m := h_m.below b_
  replace h_n := h_n.below b_
  replace h_p4 := h_p4.below b_
  replace k := k.trans (b_.mono k.size)
  clear b_
  clear h_p4
  go_wp2_with fail
  refine (Flat_c _ 9 (v := 4862) (x := 0) (by decide +kernel) (by decide +kernel)).mono ?_
  rintro e w_19 ⟨rfl, b_⟩
  replace h_a := h_a.below b_
  replace h_d := h_d.below b_
  replace h_m := h_m.below b_
  replace h_n := h_n.below b_
  replace k := k.trans (b_.mono k.size)
  clear b_
  go_wp2_with fail
  refine (Q_any _).mono ?_
  rintro e w_20 ⟨a_q5, n_q5, c_q5, rfl, h_q5, b_⟩
  replace h_a := h_a.below b_
  replace h_d := h_d.below b_
  replace h_m := h_m.below b_
  replace h_n := h_n.below b_
  replace k := k.trans (b_.mono k.size)
  clear b_
  go_wp2_with fail
  refine (Gaps_c _ _ _ _ h_q5 (r := [0, 1, 0, 2, 2]) (x := 0) (by decide +kernel) (by decide +kernel) (by decide)).mono ?_
  rintro e w_21 ⟨a_r, n_r, c_r, rfl, h_r, b_⟩
  replace h_a := h_a.below b_
  replace h_d := h_d.below b_
  replace h_m := h_m.below b_
  replace h_n := h_n.below b_
  replace h_q5 := h_q5.below b_
  replace k := k.trans (b_.mono k.size)
  clear b_
  clear h_q5
  go_wp2_with fail
  have h_x3 := isL_lit w_21 ([0, 1, 0, 2, 2] : List Int) #[.int .i64 0, .int .i64 1, .int .i64 0, .int .i64 2, .int .i64 2] 3 5 rfl rfl (by decide)
  have b_ : Below w_21.heap.size w_21 (w_21.alloc (.cells #[.int .i64 0, .int .i64 1, .int .i64 0, .int .i64 2, .int .i64 2] 3)) := (Below.refl _ _).alloc (Nat.le_refl _) _
  generalize w_21.alloc (.cells #[.int .i64 0, .int .i64 1, .int .i64 0, .int .i64 2, .int .i64 2] 3) = w_22 at *
  replace h_a := h_a.below b_
  replace h_d := h_d.below b_
  replace h_m := h_m.below b_
  replace h_n := h_n.below b_
  replace h_r := h_r.below b_
  replace k := k.trans (b_.mono k.size)
  clear b_
  refine (list_any _ _ _ _).mono ?_
  rintro e w' ⟨rfl, rfl⟩
  go_wp2_with fail
  refine (Back_c _ _ _ _ h_x3 (r := [0, 1, 1, 0, 2]) (x := 0) (by decide +kernel) (by decide +kernel) (by decide)).mono ?_
  rintro e w_23 ⟨a_s, n_s, c_s, rfl, h_s, b_⟩
  replace h_a := h_a.below b_
  replace h_d := h_d.below b_
  replace h_m := h_m.below b_
  replace h_n := h_n.below b_
  replace h_r := h_r.below b_
  replace h_x3 := h_x3.below b_
  replace k := k.trans (b_.mono k.size)
  clear b_
  clear h_x3
  go_wp2_with fail
  refine (P_any _).mono ?_
  rintro e w_24 ⟨a_p6, n_p6, c_p6, rfl, h_p6, b_⟩
  replace h_a := h_a.below b_
  replace h_d := h_d.below b_
  replace h_m := h_m.below b_
  replace h_n := h_n.below b_
  replace h_r := h_r.below b_
  replace h_s := h_s.below b_
  replace k := k.trans (b_.mono k.size)
  clear b_
  go_wp2_with fail
  refine (Gaps_c _ _ _ _ h_p6 (r := []) (x := 13) (by decide +kernel) (by decide +kernel) (by decide)).mono ?_
  rintro e w_25 ⟨a_t, n_t, c_t, rfl, h_t, b_⟩
  replace h_a := h_a.below b_
  replace h_d := h_d.below b_
  replace h_m := h_m.below b_
  replace h_n := h_n.below b_
  replace h_r := h_r.below b_
  replace h_s := h_s.below b_
  replace h_p6 := h_p6.below b_
  replace k := k.trans (b_.mono k.size)
  clear b_
  clear h_p6
  go_wp2_with fail
  refine (At_c _ 3 5 (r := []) (x := 1) (by decide +kernel) (by decide +kernel)).mono ?_
  rintro e w_26 ⟨a_u, n_u, c_u, rfl, h_u, b_⟩
  replace h_a := h_a.below b_
  replace h_d := h_d.below b_
  replace h_m := h_m.below b_
  replace h_n := h_n.below b_
  replace h_r := h_r.below b_
  replace h_s := h_s.below b_
  replace h_t := h_t.below b_
  replace k := k.trans (b_.mono k.size)
  clear b_
  go_wp2_with fail
  refine (Q_any _).mono ?_
  rintro e w_27 ⟨a_q7, n_q7, c_q7, rfl, h_q7, b_⟩
  replace h_a := h_a.below b_
  replace h_d := h_d.below b_
  replace h_m := h_m.below b_
  replace h_n := h_n.below b_
  replace h_r := h_r.below b_
  replace h_s := h_s.below b_
  replace h_t := h_t.below b_
  replace h_u := h_u.below b_
  replace k := k.trans (b_.mono k.size)
  clear b_
  go_wp2_with fail
  refine (same_c h_a h_q7).mono ?_
  rintro e w_28 ⟨rfl, b_⟩
  replace h_a := h_a.below b_
  replace h_d := h_d.below b_
  replace h_m := h_m.below b_
  replace h_n := h_n.below b_
  replace h_r := h_r.below b_
  replace h_s := h_s.below b_
  replace h_t := h_t.below b_
  replace h_u := h_u.below b_
  replace h_q7 := h_q7.below b_
  replace k := k.trans (b_.mono k.size)
  clear b_
  clear h_a
  clear h_q7
  go_wp2_with fail
  have h_x4 := isL_lit w_28 ([0, 1, 0] : List Int) #[.int .i64 0, .int .i64 1, .int .i64 0] 3 3 rfl rfl (by decide)
  have b_ : Below w_28.heap.size w_28 (w_28.alloc (.cells #[.int .i64 0, .int .i64 1, .int .i64 0] 3)) := (Below.refl _ _).alloc (Nat.le_refl _) _
  generalize w_28.alloc (.cells #[.int .i64 0, .int .i64 1, .int .i64 0] 3) = w_29 at *
  replace h_d := h_d.below b_
  replace h_m := h_m.below b_
  replace h_n := h_n.below b_
  replace h_r := h_r.below b_
  replace h_s := h_s.below b_
  replace h_t := h_t.below b_
  replace h_u := h_u.below b_
  replace k := k.trans (b_.mono k.size)
  clear b_
  refine (list_any _ _ _ _).mono ?_
  rintro e w' ⟨rfl, rfl⟩
  go_wp2_with fail
  refine (same_c h_d h_x4).mono ?_
  rintro e w_30 ⟨rfl, b_⟩
  replace h_d := h_d.below b_
  replace h_m := h_m.below b_
  replace h_n := h_n.below b_
  replace h_r := h_r.below b_
  replace h_s := h_s.below b_
  replace h_t := h_t.below b_
  replace h_u := h_u.below b_
  replace h_x4 := h_x4.below b_
  replace k := k.trans (b_.mono k.size)
  clear b_
  clear h_d
  clear h_x4
  go_wp2_with fail
  have h_x5 := isL_lit w_30 ([0, 0, 0, 0, 1] : List Int) #[.int .i64 0, .int .i64 0, .int .i64 0, .int .i64 0, .int .i64 1] 3 5 rfl rfl (by decide)
  have b_ : Below w_30.heap.size w_30 (w_30.alloc (.cells #[.int .i64 0, .int .i64 0, .int .i64 0, .int .i64 0, .int .i64 1] 3)) := (Below.refl _ _).alloc (Nat.le_refl _) _
  generalize w_30.alloc (.cells #[.int .i64 0, .int .i64 0, .int .i64 0, .int .i64 0, .int .i64 1] 3) = w_31 at *
  replace h_m := h_m.below b_
  replace h_n := h_n.below b_
  replace h_r := h_r.below b_
  replace h_s := h_s.below b_
  replace h_t := h_t.below b_
  replace h_u := h_u.below b_
  replace k := k.trans (b_.mono k.size)
  clear b_
  refine (list_any _ _ _ _).mono ?_
  rintro e w' ⟨rfl, rfl⟩
  go_wp2_with fail
  refine (same_c h_m h_x5).mono ?_
  rintro e w_32 ⟨rfl, b_⟩
  replace h_m := h_m.below b_
  replace h_n := h_n.below b_
  replace h_r := h_r.below b_
  replace h_s := h_s.below b_
  replace h_t := h_t.below b_
  replace h_u := h_u.below b_
  replace h_x5 := h_x5.below b_
  replace k := k.trans (b_.mono k.size)
  clear b_
  clear h_m
  clear h_x5
  go_wp2_with fail
  have h_x6 := isL_lit w_32 ([0, 1, 2, 3, 4] : List Int) #[.int .i64 0, .int .i64 1, .int .i64 2, .int .i64 3, .int .i64 4] 3 5 rfl rfl (by decide)
  have b_ : Below w_32.heap.size w_32 (w_32.alloc (.cells #[.int .i64 0, .int .i64 1, .int .i64 2, .int .i64 3, .int .i64 4] 3)) := (Below.refl _ _).alloc (Nat.le_refl _) _
  generalize w_32.alloc (.cells #[.int .i64 0, .int .i64 1, .int .i64 2, .int .i64 3, .int .i64 4] 3) = w_33 at *
  replace h_n := h_n.below b_
  replace h_r := h_r.below b_
  replace h_s := h_s.below b_
  replace h_t := h_t.below b_
  replace h_u := h_u.below b_
  replace k := k.trans (b_.mono k.size)
  clear b_
  refine (list_any _ _ _ _).mono ?_
  rintro e w' ⟨rfl, rfl⟩
  go_wp2_with fail
  refine (same_c h_n h_x6).mono ?_
  rintro e w_34 ⟨rfl, b_⟩
  replace h_n := h_n.below b_
  replace h_r := h_r.below b_
  replace h_s := h_s.below b_
  replace h_t := h_t.below b_
  replace h_u := h_u.below b_
  replace h_x6 := h_x6.below b_
  replace k := k.trans (b_.mono k.size)
  clear b_
  clear h_n
  clear h_x6
  go_wp2_with fail
  have h_x7 := isL_lit w_34 ([0, 1, 0, 2, 2] : List Int) #[.int .i64 0, .int .i64 1, .int .i64 0, .int .i64 2, .int .i64 2] 3 5 rfl rfl (by decide)
  have b_ : Below w_34.heap.size w_34 (w_34.alloc (.cells #[.int .i64 0, .int .i64 1, .int .i64 0, .int .i64 2, .int .i64 2] 3)) := (Below.refl _ _).alloc (Nat.le_refl _) _
  generalize w_34.alloc (.cells #[.int .i64 0, .int .i64 1, .int .i64 0, .int .i64 2, .int .i64 2] 3) = w_35 at *
  replace h_r := h_r.below b_
  replace h_s := h_s.below b_
  replace h_t := h_t.below b_
  replace h_u := h_u.below b_
  replace k := k.trans (b_.mono k.size)
  clear b_
  refine (list_any _ _ _ _).mono ?_
  rintro e w' ⟨rfl, rfl⟩
  go_wp2_with fail
  refine (same_c h_r h_x7).mono ?_
  rintro e w_36 ⟨rfl, b_⟩
  replace h_r := h_r.below b_
  replace h_s := h_s.below b_
  replace h_t := h_t.below b_
  replace h_u := h_u.below b_
  replace h_x7 := h_x7.below b_
  replace k := k.trans (b_.mono k.size)
  clear b_
  clear h_r
  clear h_x7
  go_wp2_with fail
  refine (Q_any _).mono ?_
  rintro e w_37 ⟨a_q8, n_q8, c_q8, rfl, h_q8, b_⟩
  replace h_s := h_s.below b_
  replace h_t := h_t.below b_
  replace h_u := h_u.below b_
  replace k := k.trans (b_.mono k.size)
  clear b_
  go_wp2_with fail
  refine (same_c h_s h_q8).mono ?_
  rintro e w_38 ⟨rfl, b_⟩
  replace h_s := h_s.below b_
  replace h_t := h_t.below b_
  replace h_u := h_u.below b_
  replace h_q8 := h_q8.below b_
  replace k := k.trans (b_.mono k.size)
  clear b_
  clear h_s
  clear h_q8
  go_wp2
  go_ret
  exact ⟨rfl, k⟩
end Go.Proofs.Ytjedmiegcbdedaa
