/- Law of chapter 9: BeetleKnown. -/
import Derived.Test.YtbhjphcomppjgaaDoorWs
namespace Go.Proofs.YtbhjphcomppjgaaDoor
open Go.RowKit Beetle09

section
variable {r c : Int} {S F l : List Int} {a b : Option Addr} {n m k j : Nat} {w : World}
theorem CheckK_c (hS : IsL w a n k S) (hF : IsL w b m j F) {v : Int} (hx : openE r c S F = v) : Calls Tryd.prog 38 #[stV r c a b n k m j] w (EP v w) := ep_c (Check_any hS hF) hx
end
theorem ownQ_litX (w : World) (p q u v : Nat) : OwnQ (w.alloc (.cells #[.int .i64 (p : Int), .int .i64 (q : Int), .int .i64 (u : Int), .int .i64 (v : Int)] 55)) w.heap.size (some ⟨w.heap.size, 0, none⟩) 1 1 [(p, q, u, v)] :=
  ⟨rfl, .inr ⟨w.heap.size, 1, _, rfl, Nat.le_refl _, heap_alloc_new w _, Nat.le_refl _, by decide, rfl, rfl⟩⟩
theorem ownQ_litA (w : World) : OwnQ (w.alloc (.cells #[.int .i64 0, .int .i64 0, .int .i64 2, .int .i64 2] 55)) w.heap.size (some ⟨w.heap.size, 0, none⟩) 1 1 [(0, 0, 2, 2)] := ownQ_litX w 0 0 2 2
theorem ownQ_litB (w : World) : OwnQ (w.alloc (.cells #[.int .i64 0, .int .i64 0, .int .i64 1, .int .i64 2] 55)) w.heap.size (some ⟨w.heap.size, 0, none⟩) 1 1 [(0, 0, 1, 2)] := ownQ_litX w 0 0 1 2
set_option maxHeartbeats 16000000 in
set_option maxRecDepth 100000 in
theorem BeetleKnown_any (w : World) (hT : Tab w) : Calls Tryd.prog 7 #[] w fun e w' => e = .returned (.bool true) ∧ Below w.heap.size w w' := by
  replace hT := Lib.hid hT
  go_enter Tryd.func7, Tryd.ntmps7
  have k := Below.refl w.heap.size w
  go_wp2_with fail
  refine (B_any _).mono ?_
  rintro e w_1 ⟨a_x1, n_x1, c_x1, rfl, h_x1, b_⟩
  replace hT := Lib.hid (hT.out.to b_)
  replace k := k.trans (b_.mono k.size)
  clear b_
  go_wp2_with fail
  refine (Days_c h_x1 (IsL.nilL _) hT.out (v := 0) (l := [0, 0, -1, -1, -1, -1, -1, -1, -1]) (by decide +kernel) (by decide +kernel)).mono ?_
  rintro e w_2 ⟨a_a, n_a, c_a, rfl, h_a, b_⟩
  replace h_x1 := h_x1.below b_
  replace hT := Lib.hid (hT.out.to b_)
  replace k := k.trans (b_.mono k.size)
  clear b_
  clear h_x1
  go_wp2_with fail
  refine (B_any _).mono ?_
  rintro e w_3 ⟨a_x2, n_x2, c_x2, rfl, h_x2, b_⟩
  replace h_a := h_a.below b_
  replace hT := Lib.hid (hT.out.to b_)
  replace k := k.trans (b_.mono k.size)
  clear b_
  go_wp2_with fail
  refine (Outline_c h_x2 (IsL.nilL _) hT.out (v := 0) (x := 6) (y := 6) (by decide +kernel) (by decide +kernel) (by decide +kernel)).mono ?_
  rintro e w_4 ⟨rfl, b_⟩
  replace h_a := h_a.below b_
  replace h_x2 := h_x2.below b_
  replace hT := Lib.hid (hT.out.to b_)
  replace k := k.trans (b_.mono k.size)
  clear b_
  clear h_x2
  go_wp2_with fail
  refine (A_any _).mono ?_
  rintro e w_5 ⟨a_x3, n_x3, c_x3, rfl, h_x3, b_⟩
  replace h_a := h_a.below b_
  replace hT := Lib.hid (hT.out.to b_)
  replace k := k.trans (b_.mono k.size)
  clear b_
  go_wp2_with fail
  refine (Blocks_c h_x3 (IsL.nilL _) hT.out (v := 0) (q := [(0, 0, 2, 2)]) (by decide +kernel) (by decide +kernel)).mono ?_
  rintro e w_6 ⟨a_d, n_d, c_d, B_d, rfl, h_d, b_⟩
  replace h_a := h_a.below b_
  replace h_x3 := h_x3.below b_
  replace hT := Lib.hid (hT.out.to b_)
  replace k := k.trans (b_.mono k.size)
  clear b_
  clear h_x3
  go_wp2_with fail
  have h_x4 := isL_lit w_6 ([0, 2, 4] : List Int) #[.int .i64 0, .int .i64 2, .int .i64 4] 3 3 rfl rfl (by decide)
  have b_ : Below w_6.heap.size w_6 (w_6.alloc (.cells #[.int .i64 0, .int .i64 2, .int .i64 4] 3)) := (Below.refl _ _).alloc (Nat.le_refl _) _
  generalize w_6.alloc (.cells #[.int .i64 0, .int .i64 2, .int .i64 4] 3) = w_7 at *
  replace h_a := h_a.below b_
  replace h_d := h_d.below b_
  replace hT := Lib.hid (hT.out.to b_)
  replace k := k.trans (b_.mono k.size)
  clear b_
  refine (list_any _ _ _ _).mono ?_
  rintro e w' ⟨rfl, rfl⟩
  go_wp2_with fail
  refine (Blocks_c (r := 3) (c := 3) h_x4 (IsL.nilL _) hT.out (v := 0) (q := [(0, 0, 1, 2)]) (by decide +kernel) (by decide +kernel)).mono ?_
  rintro e w_8 ⟨a_l, n_l, c_l, B_l, rfl, h_l, b_⟩
  replace h_a := h_a.below b_
  replace h_d := h_d.below b_
  replace h_x4 := h_x4.below b_
  replace hT := Lib.hid (hT.out.to b_)
  replace k := k.trans (b_.mono k.size)
  clear b_
  clear h_x4
  go_wp2_with fail
  refine (Least_c (r := 1) (c := 4) _ (v := 0) (x := 3) (by decide +kernel) (by decide +kernel)).mono ?_
  rintro e w' ⟨rfl, rfl⟩
  go_wp2_with fail
  refine (Plant_c (r := 1) (c := 4) hT.out (v := 0) (l := [0, 1, 3]) (by decide +kernel) (by decide +kernel)).mono ?_
  rintro e w_9 ⟨a_n, n_n, c_n, rfl, h_n, b_⟩
  replace h_a := h_a.below b_
  replace h_d := h_d.below b_
  replace h_l := h_l.below b_
  replace hT := Lib.hid (hT.out.to b_)
  replace k := k.trans (b_.mono k.size)
  clear b_
  go_wp2_with fail
  refine (A_any _).mono ?_
  rintro e w_10 ⟨a_x5, n_x5, c_x5, rfl, h_x5, b_⟩
  replace h_a := h_a.below b_
  replace h_d := h_d.below b_
  replace h_l := h_l.below b_
  replace h_n := h_n.below b_
  replace hT := Lib.hid (hT.out.to b_)
  replace k := k.trans (b_.mono k.size)
  clear b_
  go_wp2_with fail
  refine (Keep_c h_x5 (IsL.nilL _) hT.out 6 (v := 0) (l := [3]) (by decide +kernel) (by decide +kernel)).mono ?_
  rintro e w_11 ⟨a_o, n_o, c_o, rfl, h_o, b_⟩
  replace h_a := h_a.below b_
  replace h_d := h_d.below b_
  replace h_l := h_l.below b_
  replace h_n := h_n.below b_
  replace h_x5 := h_x5.below b_
  replace hT := Lib.hid (hT.out.to b_)
  replace k := k.trans (b_.mono k.size)
  clear b_
  clear h_x5
  go_wp2_with fail
  refine (B_any _).mono ?_
  rintro e w_12 ⟨a_x6, n_x6, c_x6, rfl, h_x6, b_⟩
  replace h_a := h_a.below b_
  replace h_d := h_d.below b_
  replace h_l := h_l.below b_
  replace h_n := h_n.below b_
  replace h_o := h_o.below b_
  replace hT := Lib.hid (hT.out.to b_)
  replace k := k.trans (b_.mono k.size)
  clear b_
  go_wp2_with fail
  refine (Keep_c h_x6 (IsL.nilL _) hT.out 2 (v := 0) (l := []) (by decide +kernel) (by decide +kernel)).mono ?_
  rintro e w_13 ⟨a_p, n_p, c_p, rfl, h_p, b_⟩
  replace h_a := h_a.below b_
  replace h_d := h_d.below b_
  replace h_l := h_l.below b_
  replace h_n := h_n.below b_
  replace h_o := h_o.below b_
  replace h_x6 := h_x6.below b_
  replace hT := Lib.hid (hT.out.to b_)
  replace k := k.trans (b_.mono k.size)
  clear b_
  clear h_x6
  go_wp2_with fail
  refine (A_any _).mono ?_
  rintro e w_14 ⟨a_x7, n_x7, c_x7, rfl, h_x7, b_⟩
  replace h_a := h_a.below b_
  replace h_d := h_d.below b_
  replace h_l := h_l.below b_
  replace h_n := h_n.below b_
  replace h_o := h_o.below b_
  replace h_p := h_p.below b_
  replace hT := Lib.hid (hT.out.to b_)
  replace k := k.trans (b_.mono k.size)
  clear b_
  go_wp2_with fail
  refine (Idle_c h_x7 (IsL.nilL _) hT.out (v := 0) (l := []) (by decide +kernel) (by decide +kernel)).mono ?_
  rintro e w_15 ⟨a_q, n_q, c_q, rfl, h_q, b_⟩
  replace h_a := h_a.below b_
  replace h_d := h_d.below b_
  replace h_l := h_l.below b_
  replace h_n := h_n.below b_
  replace h_o := h_o.below b_
  replace h_p := h_p.below b_
  replace h_x7 := h_x7.below b_
  replace hT := Lib.hid (hT.out.to b_)
  replace k := k.trans (b_.mono k.size)
  clear b_
  clear h_x7
  go_wp2_with fail
  refine (A_any _).mono ?_
  rintro e w_16 ⟨a_x8, n_x8, c_x8, rfl, h_x8, b_⟩
  replace h_a := h_a.below b_
  replace h_d := h_d.below b_
  replace h_l := h_l.below b_
  replace h_n := h_n.below b_
  replace h_o := h_o.below b_
  replace h_p := h_p.below b_
  replace h_q := h_q.below b_
  replace hT := Lib.hid (hT.out.to b_)
  replace k := k.trans (b_.mono k.size)
  clear b_
  go_wp2_with fail
  refine (Keep_c h_x8 (IsL.nilL _) hT.out 4 (v := 12) (l := []) (by decide +kernel) (by decide +kernel)).mono ?_
  rintro e w_17 ⟨a_v, n_v, c_v, rfl, h_v, b_⟩
  replace h_a := h_a.below b_
  replace h_d := h_d.below b_
  replace h_l := h_l.below b_
  replace h_n := h_n.below b_
  replace h_o := h_o.below b_
  replace h_p := h_p.below b_
  replace h_q := h_q.below b_
  replace h_x8 := h_x8.below b_
  replace hT := Lib.hid (hT.out.to b_)
  replace k := k.trans (b_.mono k.size)
  clear b_
  clear h_x8
  clear h_v
  obtain rfl : 0 = n_p := h_p.len
  clear h_p
  obtain rfl : 0 = n_q := h_q.len
  clear h_q
  go_wp2_with fail
  have h_u1 := isL_lit w_17 ([0, 0, -1, -1, -1, -1, -1, -1, -1] : List Int) #[.int .i64 0, .int .i64 0, .int .i64 (-1), .int .i64 (-1), .int .i64 (-1), .int .i64 (-1), .int .i64 (-1), .int .i64 (-1), .int .i64 (-1)] 3 9 rfl rfl (by decide)
  have b_ : Below w_17.heap.size w_17 (w_17.alloc (.cells #[.int .i64 0, .int .i64 0, .int .i64 (-1), .int .i64 (-1), .int .i64 (-1), .int .i64 (-1), .int .i64 (-1), .int .i64 (-1), .int .i64 (-1)] 3)) := (Below.refl _ _).alloc (Nat.le_refl _) _
  generalize w_17.alloc (.cells #[.int .i64 0, .int .i64 0, .int .i64 (-1), .int .i64 (-1), .int .i64 (-1), .int .i64 (-1), .int .i64 (-1), .int .i64 (-1), .int .i64 (-1)] 3) = w_18 at *
  replace h_a := h_a.below b_
  replace h_d := h_d.below b_
  replace h_l := h_l.below b_
  replace h_n := h_n.below b_
  replace h_o := h_o.below b_
  replace hT := Lib.hid (hT.out.to b_)
  replace k := k.trans (b_.mono k.size)
  clear b_
  refine (list_any _ _ _ _).mono ?_
  rintro e w' ⟨rfl, rfl⟩
  go_wp2_with fail
  refine (same_c h_a h_u1).mono ?_
  rintro e w_19 ⟨rfl, b_⟩
  replace h_a := h_a.below b_
  replace h_d := h_d.below b_
  replace h_l := h_l.below b_
  replace h_n := h_n.below b_
  replace h_o := h_o.below b_
  replace h_u1 := h_u1.below b_
  replace hT := Lib.hid (hT.out.to b_)
  replace k := k.trans (b_.mono k.size)
  clear b_
  clear h_a
  clear h_u1
  go_wp2_with fail
  have h_q4 := ownQ_litA w_19
  have b_ : Below w_19.heap.size w_19 (w_19.alloc (.cells #[.int .i64 0, .int .i64 0, .int .i64 2, .int .i64 2] 55)) := (Below.refl _ _).alloc (Nat.le_refl _) _
  generalize w_19.alloc (.cells #[.int .i64 0, .int .i64 0, .int .i64 2, .int .i64 2] 55) = w_20 at *
  replace h_d := h_d.below b_
  replace h_l := h_l.below b_
  replace h_n := h_n.below b_
  replace h_o := h_o.below b_
  replace hT := Lib.hid (hT.out.to b_)
  replace k := k.trans (b_.mono k.size)
  clear b_
  refine (blocks_c h_d h_q4).mono ?_
  rintro e w_21 ⟨rfl, b_⟩
  replace h_d := h_d.below b_
  replace h_l := h_l.below b_
  replace h_n := h_n.below b_
  replace h_o := h_o.below b_
  replace h_q4 := h_q4.below b_
  replace hT := Lib.hid (hT.out.to b_)
  replace k := k.trans (b_.mono k.size)
  clear b_
  clear h_d
  clear h_q4
  go_wp2_with fail
  have h_q5 := ownQ_litB w_21
  have b_ : Below w_21.heap.size w_21 (w_21.alloc (.cells #[.int .i64 0, .int .i64 0, .int .i64 1, .int .i64 2] 55)) := (Below.refl _ _).alloc (Nat.le_refl _) _
  generalize w_21.alloc (.cells #[.int .i64 0, .int .i64 0, .int .i64 1, .int .i64 2] 55) = w_22 at *
  replace h_l := h_l.below b_
  replace h_n := h_n.below b_
  replace h_o := h_o.below b_
  replace hT := Lib.hid (hT.out.to b_)
  replace k := k.trans (b_.mono k.size)
  clear b_
  refine (blocks_c h_l h_q5).mono ?_
  rintro e w_23 ⟨rfl, b_⟩
  replace h_l := h_l.below b_
  replace h_n := h_n.below b_
  replace h_o := h_o.below b_
  replace h_q5 := h_q5.below b_
  replace hT := Lib.hid (hT.out.to b_)
  replace k := k.trans (b_.mono k.size)
  clear b_
  clear h_l
  clear h_q5
  go_wp2_with fail
  have h_u3 := isL_lit w_23 ([0, 1, 3] : List Int) #[.int .i64 0, .int .i64 1, .int .i64 3] 3 3 rfl rfl (by decide)
  have b_ : Below w_23.heap.size w_23 (w_23.alloc (.cells #[.int .i64 0, .int .i64 1, .int .i64 3] 3)) := (Below.refl _ _).alloc (Nat.le_refl _) _
  generalize w_23.alloc (.cells #[.int .i64 0, .int .i64 1, .int .i64 3] 3) = w_24 at *
  replace h_n := h_n.below b_
  replace h_o := h_o.below b_
  replace hT := Lib.hid (hT.out.to b_)
  replace k := k.trans (b_.mono k.size)
  clear b_
  refine (list_any _ _ _ _).mono ?_
  rintro e w' ⟨rfl, rfl⟩
  go_wp2_with fail
  refine (same_c h_n h_u3).mono ?_
  rintro e w_25 ⟨rfl, b_⟩
  replace h_n := h_n.below b_
  replace h_o := h_o.below b_
  replace h_u3 := h_u3.below b_
  replace hT := Lib.hid (hT.out.to b_)
  replace k := k.trans (b_.mono k.size)
  clear b_
  clear h_n
  clear h_u3
  go_wp2_with fail
  have h_u4 := isL_lit w_25 ([3] : List Int) #[.int .i64 3] 3 1 rfl rfl (by decide)
  have b_ : Below w_25.heap.size w_25 (w_25.alloc (.cells #[.int .i64 3] 3)) := (Below.refl _ _).alloc (Nat.le_refl _) _
  generalize w_25.alloc (.cells #[.int .i64 3] 3) = w_26 at *
  replace h_o := h_o.below b_
  replace hT := Lib.hid (hT.out.to b_)
  replace k := k.trans (b_.mono k.size)
  clear b_
  refine (list_any _ _ _ _).mono ?_
  rintro e w' ⟨rfl, rfl⟩
  go_wp2_with fail
  refine (same_c h_o h_u4).mono ?_
  rintro e w_27 ⟨rfl, b_⟩
  replace h_o := h_o.below b_
  replace h_u4 := h_u4.below b_
  replace hT := Lib.hid (hT.out.to b_)
  replace k := k.trans (b_.mono k.size)
  clear b_
  clear h_o
  clear h_u4
  go_wp2_with fail
  refine (B_any _).mono ?_
  rintro e w_28 ⟨a_u7, n_u7, c_u7, rfl, h_u7, b_⟩
  replace hT := Lib.hid (hT.out.to b_)
  replace k := k.trans (b_.mono k.size)
  clear b_
  go_wp2_with fail
  have h_v7 := isL_lit w_28 ([3, 4, 5, 6, 7, 8] : List Int) #[.int .i64 3, .int .i64 4, .int .i64 5, .int .i64 6, .int .i64 7, .int .i64 8] 3 6 rfl rfl (by decide)
  have b_ : Below w_28.heap.size w_28 (w_28.alloc (.cells #[.int .i64 3, .int .i64 4, .int .i64 5, .int .i64 6, .int .i64 7, .int .i64 8] 3)) := (Below.refl _ _).alloc (Nat.le_refl _) _
  generalize w_28.alloc (.cells #[.int .i64 3, .int .i64 4, .int .i64 5, .int .i64 6, .int .i64 7, .int .i64 8] 3) = w_29 at *
  replace h_u7 := h_u7.below b_
  replace hT := Lib.hid (hT.out.to b_)
  replace k := k.trans (b_.mono k.size)
  clear b_
  refine (list_any _ _ _ _).mono ?_
  rintro e w' ⟨rfl, rfl⟩
  go_wp2_with fail
  refine (Proves_c h_u7 (IsL.nilL _) h_v7 hT.out (v := 0) (by decide +kernel)).mono ?_
  rintro e w_30 ⟨rfl, b_⟩
  replace h_u7 := h_u7.below b_
  replace h_v7 := h_v7.below b_
  replace hT := Lib.hid (hT.out.to b_)
  replace k := k.trans (b_.mono k.size)
  clear b_
  clear h_u7
  clear h_v7
  go_wp2_with fail
  refine (B_any _).mono ?_
  rintro e w_31 ⟨a_u8, n_u8, c_u8, rfl, h_u8, b_⟩
  replace hT := Lib.hid (hT.out.to b_)
  replace k := k.trans (b_.mono k.size)
  clear b_
  go_wp2_with fail
  have h_v8 := isL_lit w_31 ([2, 2] : List Int) #[.int .i64 2, .int .i64 2] 3 2 rfl rfl (by decide)
  have b_ : Below w_31.heap.size w_31 (w_31.alloc (.cells #[.int .i64 2, .int .i64 2] 3)) := (Below.refl _ _).alloc (Nat.le_refl _) _
  generalize w_31.alloc (.cells #[.int .i64 2, .int .i64 2] 3) = w_32 at *
  replace h_u8 := h_u8.below b_
  replace hT := Lib.hid (hT.out.to b_)
  replace k := k.trans (b_.mono k.size)
  clear b_
  refine (list_any _ _ _ _).mono ?_
  rintro e w' ⟨rfl, rfl⟩
  go_wp2_with fail
  refine (Proves_c h_u8 (IsL.nilL _) h_v8 hT.out (v := 7) (by decide +kernel)).mono ?_
  rintro e w_33 ⟨rfl, b_⟩
  replace h_u8 := h_u8.below b_
  replace h_v8 := h_v8.below b_
  replace hT := Lib.hid (hT.out.to b_)
  replace k := k.trans (b_.mono k.size)
  clear b_
  clear h_u8
  clear h_v8
  go_wp2_with fail
  refine (A_any _).mono ?_
  rintro e w_34 ⟨a_u9, n_u9, c_u9, rfl, h_u9, b_⟩
  replace hT := Lib.hid (hT.out.to b_)
  replace k := k.trans (b_.mono k.size)
  clear b_
  go_wp2_with fail
  have h_v9 := isL_lit w_34 ([2] : List Int) #[.int .i64 2] 3 1 rfl rfl (by decide)
  have b_ : Below w_34.heap.size w_34 (w_34.alloc (.cells #[.int .i64 2] 3)) := (Below.refl _ _).alloc (Nat.le_refl _) _
  generalize w_34.alloc (.cells #[.int .i64 2] 3) = w_35 at *
  replace h_u9 := h_u9.below b_
  replace hT := Lib.hid (hT.out.to b_)
  replace k := k.trans (b_.mono k.size)
  clear b_
  refine (list_any _ _ _ _).mono ?_
  rintro e w' ⟨rfl, rfl⟩
  go_wp2_with fail
  refine (Proves_c h_u9 (IsL.nilL _) h_v9 hT.out (v := 14) (by decide +kernel)).mono ?_
  rintro e w_36 ⟨rfl, b_⟩
  replace h_u9 := h_u9.below b_
  replace h_v9 := h_v9.below b_
  replace hT := Lib.hid (hT.out.to b_)
  replace k := k.trans (b_.mono k.size)
  clear b_
  clear h_u9
  clear h_v9
  go_wp2_with fail
  refine (CheckK_c (r := 6) (c := 1) (IsL.nilL _) (IsL.nilL _) (v := 1) (by decide +kernel)).mono ?_
  rintro e w_37 ⟨rfl, b_⟩
  replace hT := Lib.hid (hT.out.to b_)
  replace k := k.trans (b_.mono k.size)
  clear b_
  go_wp2_with fail
  have h_y1 := isL_lit w_37 ([4] : List Int) #[.int .i64 4] 3 1 rfl rfl (by decide)
  have b_ : Below w_37.heap.size w_37 (w_37.alloc (.cells #[.int .i64 4] 3)) := (Below.refl _ _).alloc (Nat.le_refl _) _
  generalize w_37.alloc (.cells #[.int .i64 4] 3) = w_38 at *
  replace hT := Lib.hid (hT.out.to b_)
  replace k := k.trans (b_.mono k.size)
  clear b_
  refine (list_any _ _ _ _).mono ?_
  rintro e w' ⟨rfl, rfl⟩
  go_wp2_with fail
  refine (CheckK_c (r := 2) (c := 2) h_y1 (IsL.nilL _) (v := 2) (by decide +kernel)).mono ?_
  rintro e w_39 ⟨rfl, b_⟩
  replace h_y1 := h_y1.below b_
  replace hT := Lib.hid (hT.out.to b_)
  replace k := k.trans (b_.mono k.size)
  clear b_
  clear h_y1
  go_wp2_with fail
  have h_y2 := isL_lit w_39 ([0, 0] : List Int) #[.int .i64 0, .int .i64 0] 3 2 rfl rfl (by decide)
  have b_ : Below w_39.heap.size w_39 (w_39.alloc (.cells #[.int .i64 0, .int .i64 0] 3)) := (Below.refl _ _).alloc (Nat.le_refl _) _
  generalize w_39.alloc (.cells #[.int .i64 0, .int .i64 0] 3) = w_40 at *
  replace hT := Lib.hid (hT.out.to b_)
  replace k := k.trans (b_.mono k.size)
  clear b_
  refine (list_any _ _ _ _).mono ?_
  rintro e w' ⟨rfl, rfl⟩
  go_wp2_with fail
  refine (CheckK_c (r := 2) (c := 2) h_y2 (IsL.nilL _) (v := 6) (by decide +kernel)).mono ?_
  rintro e w_41 ⟨rfl, b_⟩
  replace h_y2 := h_y2.below b_
  replace hT := Lib.hid (hT.out.to b_)
  replace k := k.trans (b_.mono k.size)
  clear b_
  clear h_y2
  go_wp2_with fail
  have h_y3 := isL_lit w_41 ([0] : List Int) #[.int .i64 0] 3 1 rfl rfl (by decide)
  have b_ : Below w_41.heap.size w_41 (w_41.alloc (.cells #[.int .i64 0] 3)) := (Below.refl _ _).alloc (Nat.le_refl _) _
  generalize w_41.alloc (.cells #[.int .i64 0] 3) = w_42 at *
  replace hT := Lib.hid (hT.out.to b_)
  replace k := k.trans (b_.mono k.size)
  clear b_
  refine (list_any _ _ _ _).mono ?_
  rintro e w' ⟨rfl, rfl⟩
  go_wp2_with fail
  have h_y4 := isL_lit w_42 ([0] : List Int) #[.int .i64 0] 3 1 rfl rfl (by decide)
  have b_ : Below w_42.heap.size w_42 (w_42.alloc (.cells #[.int .i64 0] 3)) := (Below.refl _ _).alloc (Nat.le_refl _) _
  generalize w_42.alloc (.cells #[.int .i64 0] 3) = w_43 at *
  replace h_y3 := h_y3.below b_
  replace hT := Lib.hid (hT.out.to b_)
  replace k := k.trans (b_.mono k.size)
  clear b_
  refine (list_any _ _ _ _).mono ?_
  rintro e w' ⟨rfl, rfl⟩
  go_wp2_with fail
  refine (CheckK_c (r := 2) (c := 2) h_y3 h_y4 (v := 13) (by decide +kernel)).mono ?_
  rintro e w_44 ⟨rfl, b_⟩
  replace h_y3 := h_y3.below b_
  replace h_y4 := h_y4.below b_
  replace hT := Lib.hid (hT.out.to b_)
  replace k := k.trans (b_.mono k.size)
  clear b_
  clear h_y3
  clear h_y4
  go_wp2_with fail
  refine (works_any _ hT.out).mono ?_
  rintro e w_45 ⟨rfl, b_⟩
  replace hT := Lib.hid (hT.out.to b_)
  replace k := k.trans (b_.mono k.size)
  clear b_
  go_wp2
  go_ret
  exact ⟨rfl, k⟩
end Go.Proofs.YtbhjphcomppjgaaDoor
