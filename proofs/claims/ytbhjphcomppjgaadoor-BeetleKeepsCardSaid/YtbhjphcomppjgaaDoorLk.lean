/- Law of chapter 9: BeetleKeeps. -/
import Derived.Test.YtbhjphcomppjgaaDoorLa
import Derived.Test.YtbhjphcomppjgaaDoorRj
namespace Go.Proofs.YtbhjphcomppjgaaDoor
open Go.RowKit Beetle09
set_option maxHeartbeats 16000000 in
set_option maxRecDepth 100000 in
theorem BeetleKeeps_any (r c : Int) (a b : Option Addr) (n k m j : Nat) (S F : List Int) (x : Int) (w : World) (hS : IsL w a n k S) (hF : IsL w b m j F) (hT : Tab w) : Calls Tryd.prog 5 #[stV r c a b n k m j, .int .i64 x] w fun e w' => e = .returned (.bool true) ∧ Below w.heap.size w w' := by
  have HB0 := Lib.hid (BoxS.start w (bxL r c a b n k m j) 24)
  have HS := Lib.hid hS
  have HF := Lib.hid hF
  have HT := Lib.hid hT
  obtain ⟨E, hE⟩ : ∃ v, keepE r c S F x = v := ⟨_, rfl⟩
  obtain ⟨L, hL⟩ : ∃ v, keepL r c S F x = v := ⟨_, rfl⟩
  have H1 : Hid (∀ w', Below w.heap.size w w' → Calls Tryd.prog 30 #[stV r c a b n k m j, .int .i64 x] w' (LP E L w')) := Lib.hid fun w' h => Keep_c (HS.out.below h) (HF.out.below h) (HT.out.to h) x hE hL
  have H2 : Hid (∀ w', Below w.heap.size w w' → Calls Tryd.prog 31 #[stV r c a b n k m j, .int .i64 x] w' (LP E L w')) := Lib.hid fun w' h => by
    have := rKeep_any (r := r) (c := c) x (HS.out.below h) (HF.out.below h)
    rw [hE, hL] at this
    exact this
  have tE : (E == E) = true := by simp
  have x0 := val HB0.out.box 0 rfl
  have x1 := val HB0.out.box 1 rfl
  have x2 := val HB0.out.box 2 rfl
  have x3 := val HB0.out.box 3 rfl
  clear hE hL hT hS hF
  go_enter Tryd.func5, Tryd.ntmps5
  go_wp2_with fail
  obtain ⟨BL, hBL⟩ := large_any r c a b n k m j (w.alloc (.cells (bxL r c a b n k m j).toArray 24))
  refine hBL.mono ?_
  clear hBL
  rintro e w1 ⟨rfl, b1⟩
  have HB1 := Lib.hid (HB0.out.to b1)
  have k1 := HB1.out.below.size
  clear x0 x1 x2 x3 b1 HB0
  have x0 := val HB1.out.box 0 rfl
  have x1 := val HB1.out.box 1 rfl
  have x2 := val HB1.out.box 2 rfl
  have x3 := val HB1.out.box 3 rfl
  cases BL with
  | true =>
    go_wp2_with fail
    refine (works_any _ (HT.out.to HB1.out.below)).mono ?_
    rintro e w3 ⟨rfl, b3⟩
    go_wp2_with fail
    go_ret
    exact ⟨rfl, HB1.out.below.trans (b3.mono k1)⟩
  | false =>
    go_wp2_with fail
    refine (H1.out _ HB1.out.below).mono ?_
    rintro e w3 ⟨a3, n3, c3, rfl, hI3, b3⟩
    have HI3 := Lib.hid hI3
    have HB3 := Lib.hid (HB1.out.to b3)
    clear hI3 b3 x0 x1 x2 x3 HB1
    have x0 := val HB3.out.box 0 rfl
    have x1 := val HB3.out.box 1 rfl
    have x2 := val HB3.out.box 2 rfl
    have x3 := val HB3.out.box 3 rfl
    go_wp2_with fail
    refine (H2.out _ HB3.out.below).mono ?_
    rintro e w4 ⟨a4, n4, c4, rfl, hI4, b4⟩
    have HS4 := Lib.hid (same_c (HI3.out.below b4) hI4)
    have HB4 := Lib.hid (HB3.out.to b4)
    have k4 := HB4.out.below.size
    clear hI4 b4 x0 x1 x2 x3
    go_wp2_with fail
    refine HS4.out.mono ?_
    rintro e w5 ⟨rfl, b5⟩
    have b6 := HB4.out.below.trans (b5.mono k4)
    have k6 := b6.size
    have HW := Lib.hid (works_any w5 (HT.out.to b6))
    clear b5
    go_wp2_with fail
    refine HW.out.mono ?_
    rintro e w6 ⟨rfl, b8⟩
    go_wp2_with fail
    go_ret
    exact ⟨rfl, b6.trans (b8.mono k6)⟩
end Go.Proofs.YtbhjphcomppjgaaDoor
