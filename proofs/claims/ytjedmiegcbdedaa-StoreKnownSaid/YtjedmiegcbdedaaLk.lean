/- Law of chapter 11: StoreKnown. -/
import Derived.Test.YtjedmiegcbdedaaWv
namespace Go.Proofs.Ytjedmiegcbdedaa
open Go.RowKit Store11

theorem Check_c {a : Option Addr} {n c : Nat} {l : List Int} {w : World} {x : Int} (h : IsL w a n c l) (hx : chkL l = x) : Calls Try.prog 21 #[.slice a n c] w fun e w' => e = .returned (.int .i64 x) ∧ w = w' := by
  subst hx; exact Check_any a n c l w h

set_option maxHeartbeats 4000000 in
set_option maxRecDepth 100000 in
theorem StoreKnown_any (w : World) : Calls Try.prog 7 #[] w fun e w' => e = .returned (.bool true) ∧ Below w.heap.size w w' := by
  go_enter Try.func7, Try.ntmps7
  have k := Below.refl w.heap.size w
  go_wp2_with fail
  refine (Count_c _ 9 (v := 21147) (x := 0) (by decide +kernel) (by decide +kernel)).mono ?_
  rintro e w_1 ⟨rfl, b_⟩
  replace k := k.trans (b_.mono k.size)
  clear b_
  go_wp2_with fail
  refine (Into_c _ 5 3 (v := 25) (x := 0) (by decide +kernel) (by decide +kernel)).mono ?_
  rintro e w_2 ⟨rfl, b_⟩
  replace k := k.trans (b_.mono k.size)
  clear b_
  go_wp2_with fail
  refine (At_c _ 3 0 (r := [0, 0, 0]) (x := 0) (by decide +kernel) (by decide +kernel)).mono ?_
  rintro e w_3 ⟨a_c, n_c, c_c, rfl, h_c, b_⟩
  replace k := k.trans (b_.mono k.size)
  clear b_
  go_wp2_with fail
  refine (At_c _ 3 4 (r := [0, 1, 2]) (x := 0) (by decide +kernel) (by decide +kernel)).mono ?_
  rintro e w_4 ⟨a_d, n_d, c_d, rfl, h_d, b_⟩
  replace h_c := h_c.below b_
  replace k := k.trans (b_.mono k.size)
  clear b_
  go_wp2_with fail
  have h_x1 := isL_lit w_4 ([0, 1, 1] : List Int) #[.int .i64 0, .int .i64 1, .int .i64 1] 3 3 rfl rfl (by decide)
  have b_ : Below w_4.heap.size w_4 (w_4.alloc (.cells #[.int .i64 0, .int .i64 1, .int .i64 1] 3)) := (Below.refl _ _).alloc (Nat.le_refl _) _
  generalize w_4.alloc (.cells #[.int .i64 0, .int .i64 1, .int .i64 1] 3) = w_5 at *
  replace h_c := h_c.below b_
  replace h_d := h_d.below b_
  replace k := k.trans (b_.mono k.size)
  clear b_
  refine (list_any _ _ _ _).mono ?_
  rintro e w' ⟨rfl, rfl⟩
  go_wp2_with fail
  refine (Number_c _ _ _ _ h_x1 (v := 3) (x := 0) (by decide +kernel) (by decide +kernel)).mono ?_
  rintro e w_6 ⟨rfl, b_⟩
  replace h_c := h_c.below b_
  replace h_d := h_d.below b_
  replace h_x1 := h_x1.below b_
  replace k := k.trans (b_.mono k.size)
  clear b_
  clear h_x1
  go_wp2_with fail
  refine (P_any _).mono ?_
  rintro e w_7 ⟨a_p1, n_p1, c_p1, rfl, h_p1, b_⟩
  replace h_c := h_c.below b_
  replace h_d := h_d.below b_
  replace k := k.trans (b_.mono k.size)
  clear b_
  go_wp2_with fail
  refine (Q_any _).mono ?_
  rintro e w_8 ⟨a_q1, n_q1, c_q1, rfl, h_q1, b_⟩
  replace h_c := h_c.below b_
  replace h_d := h_d.below b_
  replace h_p1 := h_p1.below b_
  replace k := k.trans (b_.mono k.size)
  clear b_
  go_wp2_with fail
  refine (Finer_c _ _ _ _ _ _ _ h_p1 h_q1 (v := false) (x := 0) (by decide +kernel) (by decide +kernel) (by decide) (by decide)).mono ?_
  rintro e w_9 ⟨rfl, b_⟩
  replace h_c := h_c.below b_
  replace h_d := h_d.below b_
  replace h_p1 := h_p1.below b_
  replace h_q1 := h_q1.below b_
  replace k := k.trans (b_.mono k.size)
  clear b_
  clear h_p1
  clear h_q1
  go_wp2_with fail
  refine (Q_any _).mono ?_
  rintro e w_10 ⟨a_q2, n_q2, c_q2, rfl, h_q2, b_⟩
  replace h_c := h_c.below b_
  replace h_d := h_d.below b_
  replace k := k.trans (b_.mono k.size)
  clear b_
  go_wp2_with fail
  refine (Arcs_c _ _ _ _ h_q2 (u := 0) (v := 1) (x := 0) (by decide +kernel) (by decide +kernel) (by decide)).mono ?_
  rintro e w_11 ⟨rfl, b_⟩
  replace h_c := h_c.below b_
  replace h_d := h_d.below b_
  replace h_q2 := h_q2.below b_
  replace k := k.trans (b_.mono k.size)
  clear b_
  clear h_q2
  go_wp2_with fail
  refine (Flat_c _ 5 (v := 42) (x := 0) (by decide +kernel) (by decide +kernel)).mono ?_
  rintro e w_12 ⟨rfl, b_⟩
  replace h_c := h_c.below b_
  replace h_d := h_d.below b_
  replace k := k.trans (b_.mono k.size)
  clear b_
  go_wp2_with fail
  have h_x2 := isL_lit w_12 ([0, 0, 0] : List Int) #[.int .i64 0, .int .i64 0, .int .i64 0] 3 3 rfl rfl (by decide)
  have b_ : Below w_12.heap.size w_12 (w_12.alloc (.cells #[.int .i64 0, .int .i64 0, .int .i64 0] 3)) := (Below.refl _ _).alloc (Nat.le_refl _) _
  generalize w_12.alloc (.cells #[.int .i64 0, .int .i64 0, .int .i64 0] 3) = w_13 at *
  replace h_c := h_c.below b_
  replace h_d := h_d.below b_
  replace k := k.trans (b_.mono k.size)
  clear b_
  refine (list_any _ _ _ _).mono ?_
  rintro e w' ⟨rfl, rfl⟩
  go_wp2_with fail
  refine (Gaps_c _ _ _ _ h_x2 (r := [0, 1, 2]) (x := 0) (by decide +kernel) (by decide +kernel) (by decide)).mono ?_
  rintro e w_14 ⟨a_p, n_p, c_p, rfl, h_p, b_⟩
  replace h_c := h_c.below b_
  replace h_d := h_d.below b_
  replace h_x2 := h_x2.below b_
  replace k := k.trans (b_.mono k.size)
  clear b_
  clear h_x2
  go_wp2_with fail
  have h_x3 := isL_lit w_14 ([0, 1, 2] : List Int) #[.int .i64 0, .int .i64 1, .int .i64 2] 3 3 rfl rfl (by decide)
  have b_ : Below w_14.heap.size w_14 (w_14.alloc (.cells #[.int .i64 0, .int .i64 1, .int .i64 2] 3)) := (Below.refl _ _).alloc (Nat.le_refl _) _
  generalize w_14.alloc (.cells #[.int .i64 0, .int .i64 1, .int .i64 2] 3) = w_15 at *
  replace h_c := h_c.below b_
  replace h_d := h_d.below b_
  replace h_p := h_p.below b_
  replace k := k.trans (b_.mono k.size)
  clear b_
  refine (list_any _ _ _ _).mono ?_
  rintro e w' ⟨rfl, rfl⟩
  go_wp2_with fail
  refine (Gaps_c _ _ _ _ h_x3 (r := [0, 0, 0]) (x := 0) (by decide +kernel) (by decide +kernel) (by decide)).mono ?_
  rintro e w_16 ⟨a_q, n_q, c_q, rfl, h_q, b_⟩
  replace h_c := h_c.below b_
  replace h_d := h_d.below b_
  replace h_p := h_p.below b_
  replace h_x3 := h_x3.below b_
  replace k := k.trans (b_.mono k.size)
  clear b_
  clear h_x3
  go_wp2_with fail
  have h_x4 := isL_lit w_16 ([0, 0, 1] : List Int) #[.int .i64 0, .int .i64 0, .int .i64 1] 3 3 rfl rfl (by decide)
  have b_ : Below w_16.heap.size w_16 (w_16.alloc (.cells #[.int .i64 0, .int .i64 0, .int .i64 1] 3)) := (Below.refl _ _).alloc (Nat.le_refl _) _
  generalize w_16.alloc (.cells #[.int .i64 0, .int .i64 0, .int .i64 1] 3) = w_17 at *
  replace h_c := h_c.below b_
  replace h_d := h_d.below b_
  replace h_p := h_p.below b_
  replace h_q := h_q.below b_
  replace k := k.trans (b_.mono k.size)
  clear b_
  refine (list_any _ _ _ _).mono ?_
  rintro e w' ⟨rfl, rfl⟩
  go_wp2_with fail
  refine (Gaps_c _ _ _ _ h_x4 (r := [0, 1, 1]) (x := 0) (by decide +kernel) (by decide +kernel) (by decide)).mono ?_
  rintro e w_18 ⟨a_r, n_r, c_r, rfl, h_r, b_⟩
  replace h_c := h_c.below b_
  replace h_d := h_d.below b_
  replace h_p := h_p.below b_
  replace h_q := h_q.below b_
  replace h_x4 := h_x4.below b_
  replace k := k.trans (b_.mono k.size)
  clear b_
  clear h_x4
  go_wp2_with fail
  refine (Of_c _ _ _ _ (IsL.nilL _) (r := []) (v := 4) (by decide +kernel) (by decide +kernel) (by decide)).mono ?_
  rintro e w_19 ⟨a_t, n_t, c_t, rfl, h_t, b_⟩
  replace h_c := h_c.below b_
  replace h_d := h_d.below b_
  replace h_p := h_p.below b_
  replace h_q := h_q.below b_
  replace h_r := h_r.below b_
  replace k := k.trans (b_.mono k.size)
  clear b_
  go_wp2_with fail
  refine (Into_c _ 5 6 (v := 0) (x := 1) (by decide +kernel) (by decide +kernel)).mono ?_
  rintro e w_20 ⟨rfl, b_⟩
  replace h_c := h_c.below b_
  replace h_d := h_d.below b_
  replace h_p := h_p.below b_
  replace h_q := h_q.below b_
  replace h_r := h_r.below b_
  replace h_t := h_t.below b_
  replace k := k.trans (b_.mono k.size)
  clear b_
  go_wp2_with fail
  refine (P_any _).mono ?_
  rintro e w_21 ⟨a_p3, n_p3, c_p3, rfl, h_p3, b_⟩
  replace h_c := h_c.below b_
  replace h_d := h_d.below b_
  replace h_p := h_p.below b_
  replace h_q := h_q.below b_
  replace h_r := h_r.below b_
  replace h_t := h_t.below b_
  replace k := k.trans (b_.mono k.size)
  clear b_
  go_wp2_with fail
  have h_x5 := isL_lit w_21 ([0, 1, 2] : List Int) #[.int .i64 0, .int .i64 1, .int .i64 2] 3 3 rfl rfl (by decide)
  have b_ : Below w_21.heap.size w_21 (w_21.alloc (.cells #[.int .i64 0, .int .i64 1, .int .i64 2] 3)) := (Below.refl _ _).alloc (Nat.le_refl _) _
  generalize w_21.alloc (.cells #[.int .i64 0, .int .i64 1, .int .i64 2] 3) = w_22 at *
  replace h_c := h_c.below b_
  replace h_d := h_d.below b_
  replace h_p := h_p.below b_
  replace h_q := h_q.below b_
  replace h_r := h_r.below b_
  replace h_t := h_t.below b_
  replace h_p3 := h_p3.below b_
  replace k := k.trans (b_.mono k.size)
  clear b_
  refine (list_any _ _ _ _).mono ?_
  rintro e w' ⟨rfl, rfl⟩
  go_wp2_with fail
  refine (Join_c _ _ _ _ _ _ _ h_p3 h_x5 (r := []) (x := 5) (by decide +kernel) (by decide +kernel) (by decide)).mono ?_
  rintro e w_23 ⟨a_u, n_u, c_u, rfl, h_u, b_⟩
  replace h_c := h_c.below b_
  replace h_d := h_d.below b_
  replace h_p := h_p.below b_
  replace h_q := h_q.below b_
  replace h_r := h_r.below b_
  replace h_t := h_t.below b_
  replace h_p3 := h_p3.below b_
  replace h_x5 := h_x5.below b_
  replace k := k.trans (b_.mono k.size)
  clear b_
  clear h_p3
  clear h_x5
  go_wp2_with fail
  have h_y1 := isL_lit w_23 ([0, 0, 0] : List Int) #[.int .i64 0, .int .i64 0, .int .i64 0] 3 3 rfl rfl (by decide)
  have b_ : Below w_23.heap.size w_23 (w_23.alloc (.cells #[.int .i64 0, .int .i64 0, .int .i64 0] 3)) := (Below.refl _ _).alloc (Nat.le_refl _) _
  generalize w_23.alloc (.cells #[.int .i64 0, .int .i64 0, .int .i64 0] 3) = w_24 at *
  replace h_c := h_c.below b_
  replace h_d := h_d.below b_
  replace h_p := h_p.below b_
  replace h_q := h_q.below b_
  replace h_r := h_r.below b_
  replace h_t := h_t.below b_
  replace h_u := h_u.below b_
  replace k := k.trans (b_.mono k.size)
  clear b_
  refine (list_any _ _ _ _).mono ?_
  rintro e w' ⟨rfl, rfl⟩
  go_wp2_with fail
  refine (same_c h_c h_y1).mono ?_
  rintro e w_25 ⟨rfl, b_⟩
  replace h_c := h_c.below b_
  replace h_d := h_d.below b_
  replace h_p := h_p.below b_
  replace h_q := h_q.below b_
  replace h_r := h_r.below b_
  replace h_t := h_t.below b_
  replace h_u := h_u.below b_
  replace h_y1 := h_y1.below b_
  replace k := k.trans (b_.mono k.size)
  clear b_
  clear h_c
  clear h_y1
  go_wp2_with fail
  have h_y2 := isL_lit w_25 ([0, 1, 2] : List Int) #[.int .i64 0, .int .i64 1, .int .i64 2] 3 3 rfl rfl (by decide)
  have b_ : Below w_25.heap.size w_25 (w_25.alloc (.cells #[.int .i64 0, .int .i64 1, .int .i64 2] 3)) := (Below.refl _ _).alloc (Nat.le_refl _) _
  generalize w_25.alloc (.cells #[.int .i64 0, .int .i64 1, .int .i64 2] 3) = w_26 at *
  replace h_d := h_d.below b_
  replace h_p := h_p.below b_
  replace h_q := h_q.below b_
  replace h_r := h_r.below b_
  replace h_t := h_t.below b_
  replace h_u := h_u.below b_
  replace k := k.trans (b_.mono k.size)
  clear b_
  refine (list_any _ _ _ _).mono ?_
  rintro e w' ⟨rfl, rfl⟩
  go_wp2_with fail
  refine (same_c h_d h_y2).mono ?_
  rintro e w_27 ⟨rfl, b_⟩
  replace h_d := h_d.below b_
  replace h_p := h_p.below b_
  replace h_q := h_q.below b_
  replace h_r := h_r.below b_
  replace h_t := h_t.below b_
  replace h_u := h_u.below b_
  replace h_y2 := h_y2.below b_
  replace k := k.trans (b_.mono k.size)
  clear b_
  clear h_d
  clear h_y2
  go_wp2_with fail
  have h_y3 := isL_lit w_27 ([0, 1, 2] : List Int) #[.int .i64 0, .int .i64 1, .int .i64 2] 3 3 rfl rfl (by decide)
  have b_ : Below w_27.heap.size w_27 (w_27.alloc (.cells #[.int .i64 0, .int .i64 1, .int .i64 2] 3)) := (Below.refl _ _).alloc (Nat.le_refl _) _
  generalize w_27.alloc (.cells #[.int .i64 0, .int .i64 1, .int .i64 2] 3) = w_28 at *
  replace h_p := h_p.below b_
  replace h_q := h_q.below b_
  replace h_r := h_r.below b_
  replace h_t := h_t.below b_
  replace h_u := h_u.below b_
  replace k := k.trans (b_.mono k.size)
  clear b_
  refine (list_any _ _ _ _).mono ?_
  rintro e w' ⟨rfl, rfl⟩
  go_wp2_with fail
  refine (same_c h_p h_y3).mono ?_
  rintro e w_29 ⟨rfl, b_⟩
  replace h_p := h_p.below b_
  replace h_q := h_q.below b_
  replace h_r := h_r.below b_
  replace h_t := h_t.below b_
  replace h_u := h_u.below b_
  replace h_y3 := h_y3.below b_
  replace k := k.trans (b_.mono k.size)
  clear b_
  clear h_p
  clear h_y3
  go_wp2_with fail
  have h_y4 := isL_lit w_29 ([0, 0, 0] : List Int) #[.int .i64 0, .int .i64 0, .int .i64 0] 3 3 rfl rfl (by decide)
  have b_ : Below w_29.heap.size w_29 (w_29.alloc (.cells #[.int .i64 0, .int .i64 0, .int .i64 0] 3)) := (Below.refl _ _).alloc (Nat.le_refl _) _
  generalize w_29.alloc (.cells #[.int .i64 0, .int .i64 0, .int .i64 0] 3) = w_30 at *
  replace h_q := h_q.below b_
  replace h_r := h_r.below b_
  replace h_t := h_t.below b_
  replace h_u := h_u.below b_
  replace k := k.trans (b_.mono k.size)
  clear b_
  refine (list_any _ _ _ _).mono ?_
  rintro e w' ⟨rfl, rfl⟩
  go_wp2_with fail
  refine (same_c h_q h_y4).mono ?_
  rintro e w_31 ⟨rfl, b_⟩
  replace h_q := h_q.below b_
  replace h_r := h_r.below b_
  replace h_t := h_t.below b_
  replace h_u := h_u.below b_
  replace h_y4 := h_y4.below b_
  replace k := k.trans (b_.mono k.size)
  clear b_
  clear h_q
  clear h_y4
  go_wp2_with fail
  have h_y5 := isL_lit w_31 ([0, 1, 1] : List Int) #[.int .i64 0, .int .i64 1, .int .i64 1] 3 3 rfl rfl (by decide)
  have b_ : Below w_31.heap.size w_31 (w_31.alloc (.cells #[.int .i64 0, .int .i64 1, .int .i64 1] 3)) := (Below.refl _ _).alloc (Nat.le_refl _) _
  generalize w_31.alloc (.cells #[.int .i64 0, .int .i64 1, .int .i64 1] 3) = w_32 at *
  replace h_r := h_r.below b_
  replace h_t := h_t.below b_
  replace h_u := h_u.below b_
  replace k := k.trans (b_.mono k.size)
  clear b_
  refine (list_any _ _ _ _).mono ?_
  rintro e w' ⟨rfl, rfl⟩
  go_wp2_with fail
  refine (same_c h_r h_y5).mono ?_
  rintro e w_33 ⟨rfl, b_⟩
  replace h_r := h_r.below b_
  replace h_t := h_t.below b_
  replace h_u := h_u.below b_
  replace h_y5 := h_y5.below b_
  replace k := k.trans (b_.mono k.size)
  clear b_
  clear h_r
  clear h_y5
  go_wp2_with fail
  have h_z1 := isL_lit w_33 ([0, 2] : List Int) #[.int .i64 0, .int .i64 2] 3 2 rfl rfl (by decide)
  have b_ : Below w_33.heap.size w_33 (w_33.alloc (.cells #[.int .i64 0, .int .i64 2] 3)) := (Below.refl _ _).alloc (Nat.le_refl _) _
  generalize w_33.alloc (.cells #[.int .i64 0, .int .i64 2] 3) = w_34 at *
  replace h_t := h_t.below b_
  replace h_u := h_u.below b_
  replace k := k.trans (b_.mono k.size)
  clear b_
  refine (list_any _ _ _ _).mono ?_
  rintro e w' ⟨rfl, rfl⟩
  go_wp2_with fail
  refine (Check_c h_z1 (x := 7) (by decide +kernel)).mono ?_
  rintro e w' ⟨rfl, rfl⟩
  clear h_z1
  go_wp2_with fail
  have h_z2 := isL_lit w_34 ([1] : List Int) #[.int .i64 1] 3 1 rfl rfl (by decide)
  have b_ : Below w_34.heap.size w_34 (w_34.alloc (.cells #[.int .i64 1] 3)) := (Below.refl _ _).alloc (Nat.le_refl _) _
  generalize w_34.alloc (.cells #[.int .i64 1] 3) = w_35 at *
  replace h_t := h_t.below b_
  replace h_u := h_u.below b_
  replace k := k.trans (b_.mono k.size)
  clear b_
  refine (list_any _ _ _ _).mono ?_
  rintro e w' ⟨rfl, rfl⟩
  go_wp2_with fail
  refine (Check_c h_z2 (x := 7) (by decide +kernel)).mono ?_
  rintro e w' ⟨rfl, rfl⟩
  clear h_z2
  go_wp2_with fail
  have h_z3 := isL_lit w_35 ([0, -1] : List Int) #[.int .i64 0, .int .i64 (-1)] 3 2 rfl rfl (by decide)
  have b_ : Below w_35.heap.size w_35 (w_35.alloc (.cells #[.int .i64 0, .int .i64 (-1)] 3)) := (Below.refl _ _).alloc (Nat.le_refl _) _
  generalize w_35.alloc (.cells #[.int .i64 0, .int .i64 (-1)] 3) = w_36 at *
  replace h_t := h_t.below b_
  replace h_u := h_u.below b_
  replace k := k.trans (b_.mono k.size)
  clear b_
  refine (list_any _ _ _ _).mono ?_
  rintro e w' ⟨rfl, rfl⟩
  go_wp2_with fail
  refine (Check_c h_z3 (x := 1) (by decide +kernel)).mono ?_
  rintro e w' ⟨rfl, rfl⟩
  clear h_z3
  go_wp2_with fail
  refine (works_any _).mono ?_
  rintro e w_37 ⟨rfl, b_⟩
  replace h_t := h_t.below b_
  replace h_u := h_u.below b_
  replace k := k.trans (b_.mono k.size)
  clear b_
  go_wp2
  go_ret
  exact ⟨rfl, k⟩
end Go.Proofs.Ytjedmiegcbdedaa
