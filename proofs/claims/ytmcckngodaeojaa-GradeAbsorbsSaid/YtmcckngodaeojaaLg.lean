/- Law of chapter 3: GradeAbsorbs. -/
import Derived.Test.YtmcckngodaeojaaXc
import Derived.Test.YtmcckngodaeojaaWR
namespace Grade03
theorem join_comm {a b : List Int} (ha : IsO a) (hb : IsO b) (hl : b.length = a.length) : joinO b a = joinO a b := by
  have h := join_is ha hb hl
  have h' := join_is hb ha hl.symm
  exact JoinIs.uniq h' ⟨h.ord, by rw [h.len, hl], h.right, h.left, fun c h1 h2 h3 h4 => h.least c h1 (by rw [h2, hl]) h4 h3⟩
theorem meet_comm {a b : List Int} (ha : IsO a) (hb : IsO b) (hl : b.length = a.length) : meetO b a = meetO a b := by
  have h := meet_is ha hb hl
  have h' := meet_is hb ha hl.symm
  exact MeetIs.uniq h' ⟨h.ord, by rw [h.len, hl], h.right, h.left, fun c h1 h2 h3 h4 => h.great c h1 (by rw [h2, hl]) h4 h3⟩
theorem meet_join {a b : List Int} (ha : IsO a) (hb : IsO b) (hl : b.length = a.length) : meetO a (joinO a b) = a := by
  have h := join_is ha hb hl
  exact MeetIs.uniq (meet_is ha h.ord h.len) ⟨ha, rfl, Bel.refl a, h.left, fun c _ _ h3 _ => h3⟩
theorem join_meet {a b : List Int} (ha : IsO a) (hb : IsO b) (hl : b.length = a.length) : joinO a (meetO a b) = a := by
  have h := meet_is ha hb hl
  exact JoinIs.uniq (join_is ha h.ord h.len) ⟨ha, rfl, Bel.refl a, h.left, fun c _ _ h3 _ => h3⟩
theorem join_self {a : List Int} (ha : IsO a) : joinO a a = a :=
  JoinIs.uniq (join_is ha ha rfl) ⟨ha, rfl, Bel.refl a, Bel.refl a, fun c _ _ h3 _ => h3⟩
theorem meet_self {a : List Int} (ha : IsO a) : meetO a a = a :=
  MeetIs.uniq (meet_is ha ha rfl) ⟨ha, rfl, Bel.refl a, Bel.refl a, fun c _ _ h3 _ => h3⟩
end Grade03
namespace Go.Proofs.Ytmcckngodaeojaa
open Go.RowKit Grade03

set_option maxHeartbeats 8000000 in
set_option maxRecDepth 100000 in
theorem GradeAbsorbs_l (L : List Value) (hL : BuyArg L) (w : World) : Calls Try.prog 8 #[.agg L.toArray] w fun e w' => e = .returned (.bool true) ∧ Below w.heap.size w w' := by
  obtain ⟨N, hN1, hN7, hmade⟩ := hL.2 7 (w.alloc (.cells L.toArray 46)) (by omega) (by omega)
  have HM := Lib.hid hmade
  have hrg := buy_range w L
  have hi46 := Lib.hid (info46 hL.1)
  clear hmade hL
  go_enter Try.func8, Try.ntmps8
  go_wp2_with (first
    | (refine wpList_load_mid rfl 46 (.tmp 1) rfl w.heap.size 0 rfl L _ hrg Try.underlying46 rfl hi46.out ?_)
    | (go_at_call 49; refine (HM.out).mono ?_))
  rintro e w0 ⟨a, c, b, d, D, E, rfl, h_l, h_m, k, hD, hE⟩
  replace k := ((Below.refl _ w).alloc (Nat.le_refl _) (.cells L.toArray 46)).trans (k.mono (by simp))
  have hDl := h_l.len
  have hEl := h_m.len
  clear HM hrg hi46
  have hlen : E.length = D.length := by omega
  have hJ := join_is hD hE hlen
  have hM := meet_is hD hE hlen
  obtain ⟨J, hj⟩ : ∃ J, joinO D E = J := ⟨_, rfl⟩
  obtain ⟨M, hm⟩ : ∃ M, meetO D E = M := ⟨_, rfl⟩
  have q1 := join_comm hD hE hlen
  have q2 := meet_comm hD hE hlen
  have q3 := meet_join hD hE hlen
  have q4 := join_meet hD hE hlen
  have q5 := join_self hD
  have q6 := meet_self hE
  rw [hj] at q1 q3 hJ
  rw [hm] at q2 q4 hM
  have b1 := both_ord hD hE hDl hEl hN1 hN7
  have b2 := both_ord hE hD hEl hDl hN1 hN7
  have b3 := both_ord hD hJ.ord hDl (by rw [hJ.len]; exact hDl) hN1 hN7
  have b4 := both_ord hD hM.ord hDl (by rw [hM.len]; exact hDl) hN1 hN7
  have b5 := both_ord hD hD hDl hDl hN1 hN7
  have b6 := both_ord hE hE hEl hEl hN1 hN7
  have K1 : Hid (joinE D E = J) := Lib.hid (by unfold joinE; rw [if_pos b1, hj])
  have K2 : Hid (meetE D E = M) := Lib.hid (by unfold meetE; rw [if_pos b1, hm])
  have K3 : Hid (joinE E D = J) := Lib.hid (by unfold joinE; rw [if_pos b2, q1])
  have K4 : Hid (meetE E D = M) := Lib.hid (by unfold meetE; rw [if_pos b2, q2])
  have K5 : Hid (meetE D J = D) := Lib.hid (by unfold meetE; rw [if_pos b3, q3])
  have K6 : Hid (joinE D M = D) := Lib.hid (by unfold joinE; rw [if_pos b4, q4])
  have K7 : Hid (joinE D D = D) := Lib.hid (by unfold joinE; rw [if_pos b5, q5])
  have K8 : Hid (meetE E E = E) := Lib.hid (by unfold meetE; rw [if_pos b6, q6])
  have B1 := Lib.hid b1
  have B2 := Lib.hid b2
  have B3 := Lib.hid b3
  have B4 := Lib.hid b4
  have B5 := Lib.hid b5
  have B6 := Lib.hid b6
  clear b1 b2 b3 b4 b5 b6 q1 q2 q3 q4 q5 q6 hJ hM hj hm hlen hD hE hDl hEl
  go_wp2_with fail
  refine (Join_c h_l h_m B1.out K1.out).mono ?_
  rintro e w_1 ⟨a_j, n_j, c_j, rfl, h_j, b_⟩
  replace h_l := h_l.below b_
  replace h_m := h_m.below b_
  replace k := k.trans (b_.mono k.size)
  clear b_
  go_wp2_with fail
  refine (Meet_c h_l h_m B1.out K2.out).mono ?_
  rintro e w_2 ⟨a_n, n_n, c_n, rfl, h_n, b_⟩
  replace h_l := h_l.below b_
  replace h_m := h_m.below b_
  replace h_j := h_j.below b_
  replace k := k.trans (b_.mono k.size)
  clear b_
  go_wp2_with fail
  refine (Join_c h_m h_l B2.out K3.out).mono ?_
  rintro e w_3 ⟨a_p, n_p, c_p, rfl, h_p, b_⟩
  replace h_l := h_l.below b_
  replace h_m := h_m.below b_
  replace h_j := h_j.below b_
  replace h_n := h_n.below b_
  replace k := k.trans (b_.mono k.size)
  clear b_
  go_wp2_with fail
  refine (Meet_c h_m h_l B2.out K4.out).mono ?_
  rintro e w_4 ⟨a_q, n_q, c_q, rfl, h_q, b_⟩
  replace h_l := h_l.below b_
  replace h_m := h_m.below b_
  replace h_j := h_j.below b_
  replace h_n := h_n.below b_
  replace h_p := h_p.below b_
  replace k := k.trans (b_.mono k.size)
  clear b_
  go_wp2_with fail
  refine (same_c h_j h_p).mono ?_
  rintro e w_5 ⟨rfl, b_⟩
  replace h_l := h_l.below b_
  replace h_m := h_m.below b_
  replace h_j := h_j.below b_
  replace h_n := h_n.below b_
  replace h_p := h_p.below b_
  replace h_q := h_q.below b_
  replace k := k.trans (b_.mono k.size)
  clear b_
  clear h_p
  go_wp2_with fail
  refine (same_c h_n h_q).mono ?_
  rintro e w_6 ⟨rfl, b_⟩
  replace h_l := h_l.below b_
  replace h_m := h_m.below b_
  replace h_j := h_j.below b_
  replace h_n := h_n.below b_
  replace h_q := h_q.below b_
  replace k := k.trans (b_.mono k.size)
  clear b_
  clear h_q
  go_wp2_with fail
  refine (Meet_c h_l h_j B3.out K5.out).mono ?_
  rintro e w_7 ⟨a_x, n_x, c_x, rfl, h_x, b_⟩
  replace h_l := h_l.below b_
  replace h_m := h_m.below b_
  replace h_j := h_j.below b_
  replace h_n := h_n.below b_
  replace k := k.trans (b_.mono k.size)
  clear b_
  clear h_j
  go_wp2_with fail
  refine (Join_c h_l h_n B4.out K6.out).mono ?_
  rintro e w_8 ⟨a_z, n_z, c_z, rfl, h_z, b_⟩
  replace h_l := h_l.below b_
  replace h_m := h_m.below b_
  replace h_n := h_n.below b_
  replace h_x := h_x.below b_
  replace k := k.trans (b_.mono k.size)
  clear b_
  clear h_n
  go_wp2_with fail
  refine (Join_c h_l h_l B5.out K7.out).mono ?_
  rintro e w_9 ⟨a_o, n_o, c_o, rfl, h_o, b_⟩
  replace h_l := h_l.below b_
  replace h_m := h_m.below b_
  replace h_x := h_x.below b_
  replace h_z := h_z.below b_
  replace k := k.trans (b_.mono k.size)
  clear b_
  go_wp2_with fail
  refine (Meet_c h_m h_m B6.out K8.out).mono ?_
  rintro e w_10 ⟨a_t, n_t, c_t, rfl, h_t, b_⟩
  replace h_l := h_l.below b_
  replace h_m := h_m.below b_
  replace h_x := h_x.below b_
  replace h_z := h_z.below b_
  replace h_o := h_o.below b_
  replace k := k.trans (b_.mono k.size)
  clear b_
  go_wp2_with fail
  refine (same_c h_x h_l).mono ?_
  rintro e w_11 ⟨rfl, b_⟩
  replace h_l := h_l.below b_
  replace h_m := h_m.below b_
  replace h_x := h_x.below b_
  replace h_z := h_z.below b_
  replace h_o := h_o.below b_
  replace h_t := h_t.below b_
  replace k := k.trans (b_.mono k.size)
  clear b_
  clear h_x
  go_wp2_with fail
  refine (same_c h_z h_l).mono ?_
  rintro e w_12 ⟨rfl, b_⟩
  replace h_l := h_l.below b_
  replace h_m := h_m.below b_
  replace h_z := h_z.below b_
  replace h_o := h_o.below b_
  replace h_t := h_t.below b_
  replace k := k.trans (b_.mono k.size)
  clear b_
  clear h_z
  go_wp2_with fail
  refine (same_c h_o h_l).mono ?_
  rintro e w_13 ⟨rfl, b_⟩
  replace h_l := h_l.below b_
  replace h_m := h_m.below b_
  replace h_o := h_o.below b_
  replace h_t := h_t.below b_
  replace k := k.trans (b_.mono k.size)
  clear b_
  clear h_o
  clear h_l
  go_wp2_with fail
  refine (same_c h_t h_m).mono ?_
  rintro e w_14 ⟨rfl, b_⟩
  replace h_m := h_m.below b_
  replace h_t := h_t.below b_
  replace k := k.trans (b_.mono k.size)
  clear b_
  clear h_t
  clear h_m
  go_wp2_with fail
  refine (works_any _).mono ?_
  rintro e w_15 ⟨rfl, b_⟩
  replace k := k.trans (b_.mono k.size)
  clear b_
  go_wp2
  go_ret
  exact ⟨rfl, k⟩
end Go.Proofs.Ytmcckngodaeojaa
