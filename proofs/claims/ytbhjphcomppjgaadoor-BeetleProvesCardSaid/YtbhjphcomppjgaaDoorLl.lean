/- Law of chapter 9: BeetleProves. -/
import Derived.Test.YtbhjphcomppjgaaDoorLa
import Derived.Test.YtbhjphcomppjgaaDoorRg
import Derived.Test.YtbhjphcomppjgaaDoorRk
namespace Go.Proofs.YtbhjphcomppjgaaDoor
open Go.RowKit Beetle09
section
variable {r c : Int} {S F l : List Int} {a b : Option Addr} {n m k j : Nat} {w : World}
theorem rIdle_c (hS : IsL w a n k S) (hF : IsL w b m j F) {v : Int} (hx : openE r c S F = v) (hr : idleE r c S F = l) : Calls Tryd.prog 21 #[stV r c a b n k m j] w (LP v l w) := lp_c (rIdle_any hS hF) hx hr
theorem rBlocks_c (hS : IsL w a n k S) (hF : IsL w b m j F) {v : Int} {q : List Q4} (hx : blkE r c S F = v) (hr : blkL r c S F = q) : Calls Tryd.prog 19 #[stV r c a b n k m j] w (BP v q w) := bp_c (rBlocks_any hS hF) hx hr
theorem rProves_c {x : Option Addr} {nx cx : Nat} {Z : List Int} (hS : IsL w a n k S) (hF : IsL w b m j F) (hZ : IsL w x nx cx Z) {v : Int} (hx : provE r c S F Z = v) : Calls Tryd.prog 25 #[stV r c a b n k m j, .slice x nx cx] w (EP v w) := ep_c (rProves_any hS hF hZ) hx
end
set_option maxHeartbeats 16000000 in
set_option maxRecDepth 100000 in
theorem BeetleProves_any (r c : Int) (a b : Option Addr) (n k0 m j : Nat) (S F : List Int) (x : Option Addr) (nx cx : Nat) (Z : List Int) (w : World) (h_s : IsL w a n k0 S) (h_f : IsL w b m j F) (h_z : IsL w x nx cx Z) (hT : Tab w) : Calls Tryd.prog 3 #[stV r c a b n k0 m j, .slice x nx cx] w fun e w' => e = .returned (.bool true) ∧ Below w.heap.size w w' := by
  replace hT := Lib.hid hT
  obtain ⟨E, eE⟩ : ∃ v, openE r c S F = v := ⟨_, rfl⟩
  replace eE := Lib.hid eE
  obtain ⟨L, eL⟩ : ∃ v, idleE r c S F = v := ⟨_, rfl⟩
  replace eL := Lib.hid eL
  obtain ⟨U, eU⟩ : ∃ v, blkE r c S F = v := ⟨_, rfl⟩
  replace eU := Lib.hid eU
  obtain ⟨V, eV⟩ : ∃ v, blkL r c S F = v := ⟨_, rfl⟩
  replace eV := Lib.hid eV
  obtain ⟨P, eP⟩ : ∃ v, provE r c S F Z = v := ⟨_, rfl⟩
  replace eP := Lib.hid eP
  have tE : (E == E) = true := by simp
  have tU : (U == U) = true := by simp
  have tP : (P == P) = true := by simp
  go_enter Tryd.func3, Tryd.ntmps3
  have k := Below.refl w.heap.size w
  have b_ : Below w.heap.size w (w.alloc (.cells #[.int .i64 r, .int .i64 c, .slice a n k0, .slice b m j] 24)) := (Below.refl _ _).alloc (Nat.le_refl _) _
  have x0 : (w.alloc (.cells #[.int .i64 r, .int .i64 c, .slice a n k0, .slice b m j] 24)).cell? ⟨w.heap.size, 0, none⟩ = some (.int .i64 r) := by simp
  have x1 : (w.alloc (.cells #[.int .i64 r, .int .i64 c, .slice a n k0, .slice b m j] 24)).cell? ⟨w.heap.size, 1, none⟩ = some (.int .i64 c) := by simp
  have x2 : (w.alloc (.cells #[.int .i64 r, .int .i64 c, .slice a n k0, .slice b m j] 24)).cell? ⟨w.heap.size, 2, none⟩ = some (.slice a n k0) := by simp
  have x3 : (w.alloc (.cells #[.int .i64 r, .int .i64 c, .slice a n k0, .slice b m j] 24)).cell? ⟨w.heap.size, 3, none⟩ = some (.slice b m j) := by simp
  go_wp2_with fail
  generalize w.alloc (.cells #[.int .i64 r, .int .i64 c, .slice a n k0, .slice b m j] 24) = w_1 at *
  obtain ⟨g_x, hg_x⟩ : ∃ g, w.heap.size = g := ⟨_, rfl⟩
  simp only [hg_x] at x0 x1 x2 x3 ⊢
  replace h_s := h_s.below b_
  replace h_f := h_f.below b_
  replace h_z := h_z.below b_
  replace hT := Lib.hid (hT.out.to b_)
  replace k := k.trans (b_.mono k.size)
  clear b_
  obtain ⟨BL, hBL⟩ := large_any r c a b n k0 m j w_1
  refine hBL.mono ?_
  clear hBL
  rintro e w_2 ⟨rfl, b_⟩
  replace h_s := h_s.below b_
  replace h_f := h_f.below b_
  replace h_z := h_z.below b_
  replace hT := Lib.hid (hT.out.to b_)
  replace x0 := (b_.cell (p := ⟨g_x, 0, none⟩) (World.block_lt_of_cell? _ _ x0)).trans x0
  replace x1 := (b_.cell (p := ⟨g_x, 1, none⟩) (World.block_lt_of_cell? _ _ x1)).trans x1
  replace x2 := (b_.cell (p := ⟨g_x, 2, none⟩) (World.block_lt_of_cell? _ _ x2)).trans x2
  replace x3 := (b_.cell (p := ⟨g_x, 3, none⟩) (World.block_lt_of_cell? _ _ x3)).trans x3
  replace k := k.trans (b_.mono k.size)
  clear b_
  cases BL with
  | true =>
    go_wp2_with fail
    refine (works_any _ hT.out).mono ?_
    rintro e w_3 ⟨rfl, b_⟩
    replace h_s := h_s.below b_
    replace h_f := h_f.below b_
    replace h_z := h_z.below b_
    replace hT := Lib.hid (hT.out.to b_)
    replace x0 := (b_.cell (p := ⟨g_x, 0, none⟩) (World.block_lt_of_cell? _ _ x0)).trans x0
    replace x1 := (b_.cell (p := ⟨g_x, 1, none⟩) (World.block_lt_of_cell? _ _ x1)).trans x1
    replace x2 := (b_.cell (p := ⟨g_x, 2, none⟩) (World.block_lt_of_cell? _ _ x2)).trans x2
    replace x3 := (b_.cell (p := ⟨g_x, 3, none⟩) (World.block_lt_of_cell? _ _ x3)).trans x3
    replace k := k.trans (b_.mono k.size)
    clear b_
    go_wp2
    go_ret
    exact ⟨rfl, k⟩
  | false =>
    by_cases hnx : 60 < nx
    · have hq : (60 : Int) < (nx : Int) := by omega
      clear hnx
      go_wp2_with fail
      refine (works_any _ hT.out).mono ?_
      rintro e w_4 ⟨rfl, b_⟩
      replace h_s := h_s.below b_
      replace h_f := h_f.below b_
      replace h_z := h_z.below b_
      replace hT := Lib.hid (hT.out.to b_)
      replace x0 := (b_.cell (p := ⟨g_x, 0, none⟩) (World.block_lt_of_cell? _ _ x0)).trans x0
      replace x1 := (b_.cell (p := ⟨g_x, 1, none⟩) (World.block_lt_of_cell? _ _ x1)).trans x1
      replace x2 := (b_.cell (p := ⟨g_x, 2, none⟩) (World.block_lt_of_cell? _ _ x2)).trans x2
      replace x3 := (b_.cell (p := ⟨g_x, 3, none⟩) (World.block_lt_of_cell? _ _ x3)).trans x3
      replace k := k.trans (b_.mono k.size)
      clear b_
      go_wp2
      go_ret
      exact ⟨rfl, k⟩
    · have hq : ¬ (60 : Int) < (nx : Int) := by omega
      clear hnx
      have b_ : Below w_2.heap.size w_2 (w_2.alloc (.cells #[.int .i64 r, .int .i64 c, .slice a n k0, .slice b m j] 27)) := (Below.refl _ _).alloc (Nat.le_refl _) _
      have zx0 := (b_.cell (p := ⟨g_x, 0, none⟩) (World.block_lt_of_cell? _ _ x0)).trans x0
      have zx1 := (b_.cell (p := ⟨g_x, 1, none⟩) (World.block_lt_of_cell? _ _ x1)).trans x1
      have zx2 := (b_.cell (p := ⟨g_x, 2, none⟩) (World.block_lt_of_cell? _ _ x2)).trans x2
      have zx3 := (b_.cell (p := ⟨g_x, 3, none⟩) (World.block_lt_of_cell? _ _ x3)).trans x3
      have y0 : (w_2.alloc (.cells #[.int .i64 r, .int .i64 c, .slice a n k0, .slice b m j] 27)).cell? ⟨w_2.heap.size, 0, none⟩ = some (.int .i64 r) := by simp
      have y1 : (w_2.alloc (.cells #[.int .i64 r, .int .i64 c, .slice a n k0, .slice b m j] 27)).cell? ⟨w_2.heap.size, 1, none⟩ = some (.int .i64 c) := by simp
      have y2 : (w_2.alloc (.cells #[.int .i64 r, .int .i64 c, .slice a n k0, .slice b m j] 27)).cell? ⟨w_2.heap.size, 2, none⟩ = some (.slice a n k0) := by simp
      have y3 : (w_2.alloc (.cells #[.int .i64 r, .int .i64 c, .slice a n k0, .slice b m j] 27)).cell? ⟨w_2.heap.size, 3, none⟩ = some (.slice b m j) := by simp
      go_wp2_with fail
      replace x0 := zx0
      clear zx0
      replace x1 := zx1
      clear zx1
      replace x2 := zx2
      clear zx2
      replace x3 := zx3
      clear zx3
      generalize w_2.alloc (.cells #[.int .i64 r, .int .i64 c, .slice a n k0, .slice b m j] 27) = w_5 at *
      obtain ⟨g_y, hg_y⟩ : ∃ g, w_2.heap.size = g := ⟨_, rfl⟩
      simp only [hg_y] at y0 y1 y2 y3 ⊢
      replace h_s := h_s.below b_
      replace h_f := h_f.below b_
      replace h_z := h_z.below b_
      replace hT := Lib.hid (hT.out.to b_)
      replace k := k.trans (b_.mono k.size)
      clear b_
      refine (Blocks_c h_s h_f hT.out eU.out eV.out).mono ?_
      rintro e w_6 ⟨a_a, n_a, c_a, B_a, rfl, h_a, b_⟩
      replace h_s := h_s.below b_
      replace h_f := h_f.below b_
      replace h_z := h_z.below b_
      replace hT := Lib.hid (hT.out.to b_)
      replace x0 := (b_.cell (p := ⟨g_x, 0, none⟩) (World.block_lt_of_cell? _ _ x0)).trans x0
      replace x1 := (b_.cell (p := ⟨g_x, 1, none⟩) (World.block_lt_of_cell? _ _ x1)).trans x1
      replace x2 := (b_.cell (p := ⟨g_x, 2, none⟩) (World.block_lt_of_cell? _ _ x2)).trans x2
      replace x3 := (b_.cell (p := ⟨g_x, 3, none⟩) (World.block_lt_of_cell? _ _ x3)).trans x3
      replace y0 := (b_.cell (p := ⟨g_y, 0, none⟩) (World.block_lt_of_cell? _ _ y0)).trans y0
      replace y1 := (b_.cell (p := ⟨g_y, 1, none⟩) (World.block_lt_of_cell? _ _ y1)).trans y1
      replace y2 := (b_.cell (p := ⟨g_y, 2, none⟩) (World.block_lt_of_cell? _ _ y2)).trans y2
      replace y3 := (b_.cell (p := ⟨g_y, 3, none⟩) (World.block_lt_of_cell? _ _ y3)).trans y3
      replace k := k.trans (b_.mono k.size)
      clear b_
      go_wp2_with fail
      refine (rBlocks_c h_s h_f eU.out eV.out).mono ?_
      rintro e w_7 ⟨a_b, n_b, c_b, B_b, rfl, h_b, b_⟩
      replace h_s := h_s.below b_
      replace h_f := h_f.below b_
      replace h_z := h_z.below b_
      replace h_a := h_a.below b_
      replace hT := Lib.hid (hT.out.to b_)
      replace x0 := (b_.cell (p := ⟨g_x, 0, none⟩) (World.block_lt_of_cell? _ _ x0)).trans x0
      replace x1 := (b_.cell (p := ⟨g_x, 1, none⟩) (World.block_lt_of_cell? _ _ x1)).trans x1
      replace x2 := (b_.cell (p := ⟨g_x, 2, none⟩) (World.block_lt_of_cell? _ _ x2)).trans x2
      replace x3 := (b_.cell (p := ⟨g_x, 3, none⟩) (World.block_lt_of_cell? _ _ x3)).trans x3
      replace y0 := (b_.cell (p := ⟨g_y, 0, none⟩) (World.block_lt_of_cell? _ _ y0)).trans y0
      replace y1 := (b_.cell (p := ⟨g_y, 1, none⟩) (World.block_lt_of_cell? _ _ y1)).trans y1
      replace y2 := (b_.cell (p := ⟨g_y, 2, none⟩) (World.block_lt_of_cell? _ _ y2)).trans y2
      replace y3 := (b_.cell (p := ⟨g_y, 3, none⟩) (World.block_lt_of_cell? _ _ y3)).trans y3
      replace k := k.trans (b_.mono k.size)
      clear b_
      go_wp2_with fail
      refine (Idle_c h_s h_f hT.out eE.out eL.out).mono ?_
      rintro e w_8 ⟨a_c, n_c, c_c, rfl, h_c, b_⟩
      replace h_s := h_s.below b_
      replace h_f := h_f.below b_
      replace h_z := h_z.below b_
      replace h_a := h_a.below b_
      replace h_b := h_b.below b_
      replace hT := Lib.hid (hT.out.to b_)
      replace x0 := (b_.cell (p := ⟨g_x, 0, none⟩) (World.block_lt_of_cell? _ _ x0)).trans x0
      replace x1 := (b_.cell (p := ⟨g_x, 1, none⟩) (World.block_lt_of_cell? _ _ x1)).trans x1
      replace x2 := (b_.cell (p := ⟨g_x, 2, none⟩) (World.block_lt_of_cell? _ _ x2)).trans x2
      replace x3 := (b_.cell (p := ⟨g_x, 3, none⟩) (World.block_lt_of_cell? _ _ x3)).trans x3
      replace y0 := (b_.cell (p := ⟨g_y, 0, none⟩) (World.block_lt_of_cell? _ _ y0)).trans y0
      replace y1 := (b_.cell (p := ⟨g_y, 1, none⟩) (World.block_lt_of_cell? _ _ y1)).trans y1
      replace y2 := (b_.cell (p := ⟨g_y, 2, none⟩) (World.block_lt_of_cell? _ _ y2)).trans y2
      replace y3 := (b_.cell (p := ⟨g_y, 3, none⟩) (World.block_lt_of_cell? _ _ y3)).trans y3
      replace k := k.trans (b_.mono k.size)
      clear b_
      go_wp2_with fail
      refine (rIdle_c h_s h_f eE.out eL.out).mono ?_
      rintro e w_9 ⟨a_d, n_d, c_d, rfl, h_d, b_⟩
      replace h_s := h_s.below b_
      replace h_f := h_f.below b_
      replace h_z := h_z.below b_
      replace h_a := h_a.below b_
      replace h_b := h_b.below b_
      replace h_c := h_c.below b_
      replace hT := Lib.hid (hT.out.to b_)
      replace x0 := (b_.cell (p := ⟨g_x, 0, none⟩) (World.block_lt_of_cell? _ _ x0)).trans x0
      replace x1 := (b_.cell (p := ⟨g_x, 1, none⟩) (World.block_lt_of_cell? _ _ x1)).trans x1
      replace x2 := (b_.cell (p := ⟨g_x, 2, none⟩) (World.block_lt_of_cell? _ _ x2)).trans x2
      replace x3 := (b_.cell (p := ⟨g_x, 3, none⟩) (World.block_lt_of_cell? _ _ x3)).trans x3
      replace y0 := (b_.cell (p := ⟨g_y, 0, none⟩) (World.block_lt_of_cell? _ _ y0)).trans y0
      replace y1 := (b_.cell (p := ⟨g_y, 1, none⟩) (World.block_lt_of_cell? _ _ y1)).trans y1
      replace y2 := (b_.cell (p := ⟨g_y, 2, none⟩) (World.block_lt_of_cell? _ _ y2)).trans y2
      replace y3 := (b_.cell (p := ⟨g_y, 3, none⟩) (World.block_lt_of_cell? _ _ y3)).trans y3
      replace k := k.trans (b_.mono k.size)
      clear b_
      have HSS := Lib.hid h_s
      have HFF := Lib.hid h_f
      have HAA := Lib.hid h_a
      have HBB := Lib.hid h_b
      have HCC := Lib.hid h_c
      have HDD := Lib.hid h_d
      have HZZ := Lib.hid h_z
      have H22 : Hid (∀ w', GoodW w_9 w' → Calls Tryd.prog 22 #[.slice a_a n_a c_a, .slice a_b n_b c_b] w' fun e w2 => e = .returned (.bool true) ∧ GoodW w_9 w2) := Lib.hid fun w' h => (blocks_c (HAA.out.below h) (HBB.out.below h)).mono fun _ _ ⟨he, hb⟩ => ⟨he, h.to hb⟩
      have H23 : Hid (∀ w', GoodW w_9 w' → Calls Tryd.prog 23 #[.slice a_c n_c c_c, .slice a_d n_d c_d] w' fun e w2 => e = .returned (.bool true) ∧ GoodW w_9 w2) := Lib.hid fun w' h => (same_c (HCC.out.below h) (HDD.out.below h)).mono fun _ _ ⟨he, hb⟩ => ⟨he, h.to hb⟩
      have H24 : Hid (∀ w', GoodW w_9 w' → Calls Tryd.prog 24 #[stV r c a b n k0 m j, .slice x nx cx] w' fun e w2 => e = .returned (.int .i64 P) ∧ GoodW w_9 w2) := Lib.hid fun w' h => (Proves_c (HSS.out.below h) (HFF.out.below h) (HZZ.out.below h) (hT.out.to h) eP.out).mono fun _ _ ⟨he, hb⟩ => ⟨he, h.to hb⟩
      have H25 : Hid (∀ w', GoodW w_9 w' → Calls Tryd.prog 25 #[stV r c a b n k0 m j, .slice x nx cx] w' fun e w2 => e = .returned (.int .i64 P) ∧ GoodW w_9 w2) := Lib.hid fun w' h => (rProves_c (HSS.out.below h) (HFF.out.below h) (HZZ.out.below h) eP.out).mono fun _ _ ⟨he, hb⟩ => ⟨he, h.to hb⟩
      have H17 : Hid (∀ w', GoodW w_9 w' → Calls Tryd.prog 17 #[] w' fun e w2 => e = .returned (.bool true) ∧ GoodW w_9 w2) := Lib.hid fun w' h => (works_any _ (hT.out.to h)).mono fun _ _ ⟨he, hb⟩ => ⟨he, h.to hb⟩
      have HG0 : GoodW w_9 w_9.drew := (Below.refl _ _).drew
      clear h_s h_f h_a h_b h_c h_d h_z
      go_wp2_with fail
      go_region_held3 (fun w' => w'.cell? ⟨g_x, 0, none⟩ = some (.int .i64 r) ∧ w'.cell? ⟨g_x, 1, none⟩ = some (.int .i64 c) ∧ w'.cell? ⟨g_x, 2, none⟩ = some (.slice a n k0) ∧ w'.cell? ⟨g_x, 3, none⟩ = some (.slice b m j) ∧ w'.cell? ⟨g_y, 0, none⟩ = some (.int .i64 r) ∧ w'.cell? ⟨g_y, 1, none⟩ = some (.int .i64 c) ∧ w'.cell? ⟨g_y, 2, none⟩ = some (.slice a n k0) ∧ w'.cell? ⟨g_y, 3, none⟩ = some (.slice b m j)) (first | go_keep | exact ⟨hG.cell x0, hG.cell x1, hG.cell x2, hG.cell x3, hG.cell y0, hG.cell y1, hG.cell y2, hG.cell y3⟩)
        (first
          | ((go_at_call 22; with_reducible refine (H22.out _ ?_).mono ?_; assumption; rintro e w5 ⟨rfl, hG⟩))
          | ((go_at_call 23; with_reducible refine (H23.out _ ?_).mono ?_; assumption; rintro e w5 ⟨rfl, hG⟩))
          | ((go_at_call 24; with_reducible refine (H24.out _ ?_).mono ?_; assumption; rintro e w5 ⟨rfl, hG⟩))
          | ((go_at_call 25; with_reducible refine (H25.out _ ?_).mono ?_; assumption; rintro e w5 ⟨rfl, hG⟩))
          | ((go_at_call 17; with_reducible refine (H17.out _ ?_).mono ?_; assumption; rintro e w5 ⟨rfl, hG⟩)))
      all_goals
        go_wp2_with fail
        go_ret
        exact ⟨rfl, k.trans (hG.mono k.size)⟩
end Go.Proofs.YtbhjphcomppjgaaDoor
