/- Law of chapter 3: GradeLines. -/
import Derived.Test.YtmcckngodaeojaaXg
import Derived.Test.YtmcckngodaeojaaWR
namespace Grade03
theorem lin_comm {n : Nat} {a b l : List Int} : Lin n (btwR b a) l ↔ Lin n (btwR a b) l :=
  ⟨fun h x hx y hy hr => h x hx y hy ⟨hr.2, hr.1⟩, fun h x hx y hy hr => h x hx y hy ⟨hr.2, hr.1⟩⟩
theorem fst_find {n : Nat} (a b : List Int) : fstI n a b (allO n n []).length = some (sortO n (btwR a b)) := by
  unfold fstI
  rw [List.take_length]
  exact (sortF_first (btw_spo n a b) n [] Beg.nil (by simp)).1
theorem fst_comm {n : Nat} (a b : List Int) : sortO n (btwR b a) = sortO n (btwR a b) := by
  have h1 := fst_find (n := n) a b
  have h2 := fst_find (n := n) b a
  have h3 : fstI n b a (allO n n []).length = fstI n a b (allO n n []).length := by
    unfold fstI
    congr 1
    funext l
    exact decide_eq_decide.2 lin_comm
  rw [h1, h2] at h3
  exact Option.some.inj h3
theorem cnt_all {n : Nat} (a b : List Int) : cntI n a b (allO n n []).length = (allO n n []).countP fun l => decide (Lin n (btwR a b) l) := by
  unfold cntI; rw [List.take_length]
theorem cnt_comm {n : Nat} (a b : List Int) : (allO n n []).countP (fun l => decide (Lin n (btwR b a) l)) = (allO n n []).countP fun l => decide (Lin n (btwR a b) l) := by
  congr 1
  funext l
  exact decide_eq_decide.2 lin_comm
end Grade03
namespace Go.Proofs.Ytmcckngodaeojaa
open Go.RowKit Grade03

set_option maxHeartbeats 8000000 in
set_option maxRecDepth 100000 in
theorem GradeLines_l (L : List Value) (hL : BuyArg L) (w : World) : Calls Try.prog 12 #[.agg L.toArray] w fun e w' => e = .returned (.bool true) ∧ Below w.heap.size w w' := by
  obtain ⟨N, hN1, hN7, hmade⟩ := hL.2 6 (w.alloc (.cells L.toArray 46)) (by omega) (by omega)
  have HM := Lib.hid hmade
  have hrg := buy_range w L
  have hi46 := Lib.hid (info46 hL.1)
  clear hmade hL
  go_enter Try.func12, Try.ntmps12
  go_wp2_with (first
    | (refine wpList_load_mid rfl 46 (.tmp 1) rfl w.heap.size 0 rfl L _ hrg Try.underlying46 rfl hi46.out ?_)
    | (go_at_call 49; refine (HM.out).mono ?_))
  rintro e w0 ⟨a, c, b, d, D, E, rfl, h_l, h_m, k, hD, hE⟩
  replace k := ((Below.refl _ w).alloc (Nat.le_refl _) (.cells L.toArray 46)).trans (k.mono (by simp))
  have hDl := h_l.len
  have hEl := h_m.len
  clear HM hrg hi46
  have hN7' : N ≤ 7 := by omega
  have b1 := both_ord hD hE hDl hEl hN1 hN7'
  have b2 := both_ord hE hD hEl hDl hN1 hN7'
  have K1 : Hid (jntE D E = (cntI N D E (allO N N []).length : Nat)) := Lib.hid (by unfold jntE; rw [if_pos b1, hDl, cnt_all])
  have K2 : Hid (jntE E D = (cntI N D E (allO N N []).length : Nat)) := Lib.hid (by unfold jntE; rw [if_pos b2, hEl, cnt_all, cnt_comm])
  have K3 : Hid (fstE D E = sortO N (btwR D E)) := Lib.hid (by unfold fstE; rw [if_pos b1, hDl])
  have K4 : Hid (fstE E D = sortO N (btwR D E)) := Lib.hid (by unfold fstE; rw [if_pos b2, hEl, fst_comm])
  have K5 := Lib.hid (fst_find (n := N) D E)
  have B1 := Lib.hid b1
  have B2 := Lib.hid b2
  have HD := Lib.hid hD
  have HE := Lib.hid hE
  have H_L := Lib.hid h_l
  have H_M := Lib.hid h_m
  clear b1 b2 hD hE hDl hEl h_l h_m
  have kk := k.size
  go_wp2_with fail
  have hLI : LinI w0 w0.heap.size (.slice a N c) (.slice b N d) N D E 0 (((((w0.alloc (.cells #[.slice a N c] 22)).alloc (.cells #[.slice b N d] 22)).alloc (.cells #[.int .i64 0] 3)).alloc (.cells #[.bool true] 4)).alloc (.cells #[.slice none 0 0] 22)) := by
    refine ⟨.slice none 0 0, ⟨by simp, ?_, ?_, ?_, ?_, ?_, ?_⟩, .inl ⟨rfl, rfl⟩⟩
    · rw [heap_old _ _ _ (by simp <;> omega), heap_old _ _ _ (by simp <;> omega), heap_old _ _ _ (by simp <;> omega), heap_old _ _ _ (by simp), heap_new _ _ _ rfl]
    · rw [heap_old _ _ _ (by simp <;> omega), heap_old _ _ _ (by simp <;> omega), heap_old _ _ _ (by simp), heap_new _ _ _ (by simp)]
    · rw [heap_old _ _ _ (by simp <;> omega), heap_old _ _ _ (by simp), heap_new _ _ _ (by simp)]
      rfl
    · rw [heap_old _ _ _ (by simp), heap_new _ _ _ (by simp)]
    · rw [heap_new _ _ _ (by simp)]
    · exact ((((((Below.refl _ _).alloc (Nat.le_refl _) _).alloc (by simp) _).alloc (by simp; omega) _).alloc (by simp; omega) _).alloc (by simp; omega) _)
  obtain ⟨W, hW⟩ : ∃ W, (((((w0.alloc (.cells #[.slice a N c] 22)).alloc (.cells #[.slice b N d] 22)).alloc (.cells #[.int .i64 0] 3)).alloc (.cells #[.bool true] 4)).alloc (.cells #[.slice none 0 0] 22)) = W := ⟨_, rfl⟩
  rw [hW] at hLI ⊢
  clear hW
  have hsz : w0.heap.size + 5 ≤ W.heap.size := by obtain ⟨v, h, _⟩ := hLI; exact h.sz
  refine (all_walk N (w0.heap.size + 5) 60 #[.pointer (some ⟨w0.heap.size + 3, 0, none⟩), .pointer (some ⟨w0.heap.size, 0, none⟩), .pointer (some ⟨w0.heap.size + 1, 0, none⟩), .pointer (some ⟨w0.heap.size + 4, 0, none⟩), .pointer (some ⟨w0.heap.size + 2, 0, none⟩)] (LinI w0 w0.heap.size (.slice a N c) (.slice b N d) N D E) hN7' (fun _ _ => rfl) (Lib.hid fun i w1 w2 h1 h2 => h1.new h2) (Lib.hid fun i l w1 a1 m c1 hl hI h1 ha _ => lines1 w0 w0.heap.size rfl a b N c d D E HD.out HE.out H_L.out H_M.out hN1 hN7' i l w1 a1 m c1 hl hI h1 ha) W hsz hLI).mono ?_
  rintro e w2 ⟨rfl, ⟨v, hH, hV⟩, _⟩
  rw [K5.out] at hV
  obtain ⟨bb, ff, nn, cc, l0, rfl, hV2⟩ : ∃ bb ff nn cc, ∃ l0 : List Int, v = .slice (some ⟨bb, ff, none⟩) nn cc ∧ l0 = sortO N (btwR D E) ∧ IsL w2 (some ⟨bb, ff, none⟩) nn cc l0 := by
    rcases hV with ⟨h, _⟩ | ⟨bb, ff, nn, cc, l, h1, h2, h3, _⟩
    · cases h
    · exact ⟨bb, ff, nn, cc, l, h2, (Option.some.inj h1).symm, h3⟩
  obtain ⟨hl0, h_f⟩ := hV2
  obtain ⟨q, hq⟩ : ∃ q, cntI N D E (allO N N []).length = q := ⟨_, rfl⟩
  rw [hq] at hH
  rw [hq] at K1 K2
  rw [← hl0] at K3 K4
  have HH := Lib.hid hH
  have h_l := H_L.out.below hH.bel
  have h_m := H_M.out.below hH.bel
  have z0 := hH.k0
  have z1 := hH.k1
  replace k := k.trans (hH.bel.mono kk)
  clear hH hV hl0 hq hLI hsz kk
  have kk := k.size
  go_wp2_with fail
  refine (Joint_c h_l h_m B1.out K1.out).mono ?_
  rintro e w3 ⟨rfl, b_⟩
  have HH3 := Lib.hid (HH.out.new b_)
  replace h_l := h_l.below b_
  replace h_m := h_m.below b_
  replace h_f := h_f.below b_
  replace k := k.trans (b_.mono kk)
  clear b_ kk HH z0 z1
  have z0 := HH3.out.k0
  have z1 := HH3.out.k1
  have kk := k.size
  go_wp2_with fail
  refine (Joint_c h_m h_l B2.out K2.out).mono ?_
  rintro e w4 ⟨rfl, b_⟩
  have HH4 := Lib.hid (HH3.out.new b_)
  replace h_l := h_l.below b_
  replace h_m := h_m.below b_
  replace h_f := h_f.below b_
  replace k := k.trans (b_.mono kk)
  clear b_ kk HH3 z0 z1
  have z0 := HH4.out.k0
  have z1 := HH4.out.k1
  have kk := k.size
  go_wp2_with fail
  refine (First_c h_l h_m B1.out K3.out).mono ?_
  rintro e w5 ⟨a5, n5, c5, rfl, h_5, b_⟩
  have HH5 := Lib.hid (HH4.out.new b_)
  replace h_l := h_l.below b_
  replace h_m := h_m.below b_
  replace h_f := h_f.below b_
  replace k := k.trans (b_.mono kk)
  clear b_ kk HH4 z0 z1
  have z0 := HH5.out.k0
  have z1 := HH5.out.k1
  have kk := k.size
  go_wp2_with fail
  refine (First_c h_m h_l B2.out K4.out).mono ?_
  rintro e w6 ⟨a6, n6, c6, rfl, h_6, b_⟩
  have HH6 := Lib.hid (HH5.out.new b_)
  replace h_f := h_f.below b_
  replace h_5 := h_5.below b_
  replace k := k.trans (b_.mono kk)
  clear b_ kk HH5 z0 z1 h_l h_m
  have z2 := HH6.out.k2
  have z3 := HH6.out.k3
  have z4 := HH6.out.k4
  have t1 : ((q : Int) == (q : Int)) = true := by simp
  have kk := k.size
  go_wp2_with fail
  refine (same_c h_5 h_f).mono ?_
  rintro e w7 ⟨rfl, b_⟩
  have HH7 := Lib.hid (HH6.out.new b_)
  replace h_f := h_f.below b_
  replace h_6 := h_6.below b_
  replace k := k.trans (b_.mono kk)
  clear b_ kk HH6 z2 z3 z4 h_5
  have z4 := HH7.out.k4
  have kk := k.size
  go_wp2_with fail
  refine (same_c h_6 h_f).mono ?_
  rintro e w8 ⟨rfl, b_⟩
  replace k := k.trans (b_.mono kk)
  clear b_ kk HH7 z4 h_6 h_f
  have kk := k.size
  go_wp2_with fail
  refine (works_any _).mono ?_
  rintro e w20 ⟨rfl, b_⟩
  go_wp2
  go_ret
  exact ⟨rfl, k.trans (b_.mono kk)⟩
end Go.Proofs.Ytmcckngodaeojaa
