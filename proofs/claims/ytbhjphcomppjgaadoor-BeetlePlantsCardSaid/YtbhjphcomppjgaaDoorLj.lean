/- Law of chapter 9: BeetlePlants. -/
import Derived.Test.YtbhjphcomppjgaaDoorWs
import Derived.Test.YtbhjphcomppjgaaDoorRh
namespace Go.Proofs.YtbhjphcomppjgaaDoor
open Go.RowKit Beetle09
set_option maxHeartbeats 16000000 in
set_option maxRecDepth 100000 in
theorem BeetlePlants_any (r c : Int) (w : World) (hT : Tab w) : Calls Tryd.prog 4 #[.int .i64 r, .int .i64 c] w fun e w' => e = .returned (.bool true) ∧ Below w.heap.size w w' := by
  have HT := Lib.hid hT
  obtain ⟨E, hE⟩ : ∃ v : Int, (if sdB r c = true then 0 else 1) = v := ⟨_, rfl⟩
  obtain ⟨X, hX⟩ : ∃ v : Int, (if sdB r c = true then (r + c + 1) / 2 else 0) = v := ⟨_, rfl⟩
  obtain ⟨L, hL⟩ : ∃ v, plantE r c = v := ⟨_, rfl⟩
  have H1 := Lib.hid (fun w => Least_c (r := r) (c := c) w hX hE)
  have H2 : Hid (∀ w, Calls Tryd.prog 27 #[.int .i64 r, .int .i64 c] w fun e w' => e = .returned (.tuple #[.int .i64 X, .int .i64 E]) ∧ w = w') := Lib.hid fun w => by
    have := rLeast_any r c w
    rw [hE, hX] at this
    exact this
  have H3 : Hid (Calls Tryd.prog 28 #[.int .i64 r, .int .i64 c] w (LP E L w)) := Lib.hid (Plant_c hT hE hL)
  have H4 : Hid (∀ w, Calls Tryd.prog 29 #[.int .i64 r, .int .i64 c] w (LP E L w)) := Lib.hid fun w => by
    have := rPlant_any r c w
    rw [hE, hL] at this
    exact this
  have tE : (E == E) = true := by simp
  have tX : (X == X) = true := by simp
  clear hE hX hL hT
  go_enter Tryd.func4, Tryd.ntmps4
  go_wp2_with fail
  refine (H1.out _).mono ?_
  rintro e w1 ⟨rfl, rfl⟩
  go_wp2_with fail
  refine (H2.out _).mono ?_
  rintro e w1 ⟨rfl, rfl⟩
  go_wp2_with fail
  refine H3.out.mono ?_
  rintro e w3 ⟨a3, n3, c3, rfl, hI3, b3⟩
  have HI3 := Lib.hid hI3
  have k3 := b3.size
  clear hI3
  go_wp2_with fail
  refine (H4.out _).mono ?_
  rintro e w4 ⟨a4, n4, c4, rfl, hI4, b4⟩
  have HS := Lib.hid (same_c (HI3.out.below b4) hI4)
  have b5 := b3.trans (b4.mono k3)
  have k5 := b5.size
  clear hI4 b4
  go_wp2_with fail
  refine HS.out.mono ?_
  rintro e w5 ⟨rfl, b6⟩
  have b7 := b5.trans (b6.mono k5)
  have k7 := b7.size
  have HW := Lib.hid (works_any w5 (HT.out.to b7))
  clear b6
  go_wp2_with fail
  refine HW.out.mono ?_
  rintro e w6 ⟨rfl, b8⟩
  go_wp2_with fail
  go_ret
  exact ⟨rfl, b7.trans (b8.mono k7)⟩
end Go.Proofs.YtbhjphcomppjgaaDoor
