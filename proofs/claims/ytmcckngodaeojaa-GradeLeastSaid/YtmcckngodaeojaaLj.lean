/- Law of chapter 3: GradeLeast. -/
import Derived.Test.YtmcckngodaeojaaXf
import Derived.Test.YtmcckngodaeojaaWR
namespace Go.Proofs.Ytmcckngodaeojaa
open Go.RowKit Grade03

set_option maxHeartbeats 8000000 in
set_option maxRecDepth 100000 in
theorem GradeLeast_l (L : List Value) (hL : BuyArg L) (w : World) : Calls Try.prog 13 #[.agg L.toArray] w fun e w' => e = .returned (.bool true) ∧ Below w.heap.size w w' := by
  obtain ⟨N, hN1, hN7, hmade⟩ := hL.2 6 (w.alloc (.cells L.toArray 46)) (by omega) (by omega)
  have HM := Lib.hid hmade
  have hrg := buy_range w L
  have hi46 := Lib.hid (info46 hL.1)
  clear hmade hL
  go_enter Try.func13, Try.ntmps13
  go_wp2_with (first
    | (refine wpList_load_mid rfl 46 (.tmp 1) rfl w.heap.size 0 rfl L _ hrg Try.underlying46 rfl hi46.out ?_)
    | (go_at_call 49; refine (HM.out).mono ?_))
  rintro e w0 ⟨a, c, b, d, D, E, rfl, h_l, h_m, k, hD, hE⟩
  replace k := ((Below.refl _ w).alloc (Nat.le_refl _) (.cells L.toArray 46)).trans (k.mono (by simp))
  have hDl := h_l.len
  have hEl := h_m.len
  clear HM hrg hi46
  have hlen : E.length = D.length := by omega
  have hN7' : N ≤ 7 := by omega
  have hJ := join_is hD hE hlen
  have hMt := meet_is hD hE hlen
  have b1 := both_ord hD hE hDl hEl hN1 hN7'
  have HF : Hid (∀ s t u v, TurnS D s → TurnS E t → TurnS (joinO D E) u → TurnS (meetO D E) v → FourS D E s t u v) := Lib.hid fun s t u v h1 h2 h3 h4 => ⟨hlen, hD, hE, by omega, h1, h2, h3, h4⟩
  have K1 : Hid (joinE D E = joinO D E) := Lib.hid (by unfold joinE; rw [if_pos b1])
  have K2 : Hid (meetE D E = meetO D E) := Lib.hid (by unfold meetE; rw [if_pos b1])
  have B1 := Lib.hid b1
  have C1 := Lib.hid (chk_ord hJ.ord (hJ.len.trans hDl) hN1 hN7')
  have C2 := Lib.hid (chk_ord hMt.ord (hMt.len.trans hDl) hN1 hN7')
  have JO := Lib.hid hJ.ord
  have MO := Lib.hid hMt.ord
  have JL := Lib.hid (hJ.len.trans hDl)
  have ML := Lib.hid (hMt.len.trans hDl)
  have HD := Lib.hid hD
  have HE := Lib.hid hE
  have HDL := Lib.hid hDl
  clear b1 hlen hJ hMt hD hE hDl hEl
  have t1 : ((N : Int) != (N : Int)) = false := by simp
  go_wp2_with fail
  refine (Join_c h_l h_m B1.out K1.out).mono ?_
  rintro e w1 ⟨a_j, n_j, c_j, rfl, h_j, b_⟩
  obtain rfl : n_j = N := by rw [← h_j.len]; exact JL.out
  replace h_l := h_l.below b_
  replace h_m := h_m.below b_
  replace k := k.trans (b_.mono k.size)
  clear b_
  go_wp2_with fail
  refine (Meet_c h_l h_m B1.out K2.out).mono ?_
  rintro e w2 ⟨a_d, n_d, c_d, rfl, h_d, b_⟩
  obtain rfl : n_d = n_j := by rw [← h_d.len]; exact ML.out
  replace h_l := h_l.below b_
  replace h_m := h_m.below b_
  replace h_j := h_j.below b_
  replace k := k.trans (b_.mono k.size)
  clear b_
  go_wp2_with fail
  refine (Check_c h_j C1.out).mono ?_
  rintro e w3 ⟨rfl, b_⟩
  replace h_l := h_l.below b_
  replace h_m := h_m.below b_
  replace h_j := h_j.below b_
  replace h_d := h_d.below b_
  replace k := k.trans (b_.mono k.size)
  clear b_
  go_wp2_with fail
  refine (Check_c h_d C2.out).mono ?_
  rintro e w4 ⟨rfl, b_⟩
  replace h_l := h_l.below b_
  replace h_m := h_m.below b_
  replace h_j := h_j.below b_
  replace h_d := h_d.below b_
  replace k := k.trans (b_.mono k.size)
  clear b_
  go_wp2_with fail
  refine (turned_set _ _ _ _ _ h_j JO.out hN7').mono ?_
  rintro e w5 ⟨u, rfl, hu, rfl⟩
  have HU := Lib.hid hu
  clear hu
  go_wp2_with fail
  refine (turned_set _ _ _ _ _ h_d MO.out hN7').mono ?_
  rintro e w6 ⟨v, rfl, hv, rfl⟩
  have HV := Lib.hid hv
  clear hv h_j h_d
  have hb2 : Below w4.heap.size w4 ((w4.alloc (.cells #[.int .u64 (u : Int)] 50)).alloc (.cells #[.int .u64 (v : Int)] 50)) := ((Below.refl _ _).alloc (Nat.le_refl _) _).alloc (by simp) _
  replace h_l := h_l.below hb2
  replace h_m := h_m.below hb2
  go_wp2_with fail
  refine (turned_set _ _ _ _ _ h_l HD.out hN7').mono ?_
  rintro e w7 ⟨s, rfl, hs, rfl⟩
  have HS := Lib.hid hs
  clear hs
  go_wp2_with fail
  refine (turned_set _ _ _ _ _ h_m HE.out hN7').mono ?_
  rintro e w8 ⟨t, rfl, ht, rfl⟩
  have HF4 := Lib.hid (HF.out s t u v HS.out ht HU.out HV.out)
  obtain ⟨P, V, f1, f2, f3, f4⟩ := HF4.out.good
  have f5 : ((0 : Int) == 0) = true := by decide
  clear ht h_l h_m HS HU HV HF
  have kk := k.size
  go_wp2_with fail
  have hb5 : Below w4.heap.size w4 (((((w4.alloc (.cells #[.int .u64 (u : Int)] 50)).alloc (.cells #[.int .u64 (v : Int)] 50)).alloc (.cells #[.int .u64 (s : Int)] 50)).alloc (.cells #[.int .u64 (t : Int)] 50)).alloc (.cells #[.bool true] 4)) := ((((((Below.refl _ _).alloc (Nat.le_refl _) _).alloc (by simp) _).alloc (by simp; omega) _).alloc (by simp; omega) _).alloc (by simp; omega) _)
  obtain ⟨W, hW⟩ : ∃ W, (((((w4.alloc (.cells #[.int .u64 (u : Int)] 50)).alloc (.cells #[.int .u64 (v : Int)] 50)).alloc (.cells #[.int .u64 (s : Int)] 50)).alloc (.cells #[.int .u64 (t : Int)] 50)).alloc (.cells #[.bool true] 4)) = W := ⟨_, rfl⟩
  have q1 : W.cell? ⟨w4.heap.size + 1 + 1, 0, none⟩ = some (.int .u64 (s : Int)) := by rw [← hW]; simp [go_sem]
  have q2 : W.cell? ⟨w4.heap.size + 1 + 1 + 1, 0, none⟩ = some (.int .u64 (t : Int)) := by rw [← hW]; simp [go_sem]
  have q3 : W.cell? ⟨w4.heap.size, 0, none⟩ = some (.int .u64 (u : Int)) := by rw [← hW]; simp [go_sem]
  have q4 : W.cell? ⟨w4.heap.size + 1, 0, none⟩ = some (.int .u64 (v : Int)) := by rw [← hW]; simp [go_sem]
  have q5 : W.cell? ⟨w4.heap.size + 1 + 1 + 1 + 1, 0, none⟩ = some (.bool true) := by rw [← hW]; simp [go_sem]
  have hWs : W.heap.size = w4.heap.size + 1 + 1 + 1 + 1 + 1 := by rw [← hW]; simp
  rw [hW] at hb5 ⊢
  clear hW hb2
  have hcl : ∀ {w2 : World} {p : Nat} {x : Value}, Below W.heap.size W w2 → W.cell? ⟨p, 0, none⟩ = some x → w2.cell? ⟨p, 0, none⟩ = some x := fun {w2 p x} h1 h2 => (h1.cell (p := ⟨p, 0, none⟩) (World.block_lt_of_cell? W _ h2)).trans h2
  refine (all_walk n_d W.heap.size _ _ (fun _ w2 => Below W.heap.size W w2) hN7' (fun _ _ => rfl) (Lib.hid fun _ w1 w2 h1 h2 => h1.trans (h2.mono h1.size)) (Lib.hid ?_) W (Nat.le_refl _) (Below.refl _ _)).mono ?_
  · intro i l w1 a1 m c1 hl hI h1 ha hB
    obtain ⟨hi, hg⟩ := List.getElem?_eq_some_iff.1 hl
    have hm : l ∈ allO n_d n_d [] := by rw [← hg]; exact List.getElem_mem _
    obtain ⟨hO, hll⟩ := allO_mem.1 hm
    refine (least1 HF4.out _ _ _ _ _ a1 m c1 l w1 h1 hO (by rw [hll, HDL.out]) (by rw [← h1.len, hll]; exact hN7') (hcl hI q1) (hcl hI q2) (hcl hI q3) (hcl hI q4)).mono ?_
    rintro e w2 ⟨rfl, rfl⟩
    exact ⟨rfl, hI, Above.refl _ _⟩
  rintro e w9 ⟨rfl, hb9, _⟩
  have z5 := hcl hb9 q5
  replace k := k.trans ((hb5.trans (hb9.mono hb5.size)).mono kk)
  clear q1 q2 q3 q4 q5 hcl hb5 hb9 kk
  have kk := k.size
  go_wp2_with fail
  refine (works_any _).mono ?_
  rintro e w20 ⟨rfl, b_⟩
  go_wp2
  go_ret
  exact ⟨rfl, k.trans (b_.mono kk)⟩
end Go.Proofs.Ytmcckngodaeojaa
