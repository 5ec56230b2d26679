/- Walks of chapter 3: the least order above two others. -/
import Derived.Test.YtmcckngodaeojaaWJ
import Derived.Test.YtmcckngodaeojaaPa
namespace Go.Proofs.Ytmcckngodaeojaa
open Go.RowKit Grade03

abbrev BV : Bool → Value := Value.bool
set_option maxHeartbeats 4000000 in
set_option maxRecDepth 100000 in
theorem join1_any (g n x y : Nat) (M : Nat → Nat → Bool) (w : World) (hA : ArrV BV w g 95 (matB M)) (hn : n ≤ 7) (hx : x < n) (hy : y < n) (B : Bool) (hB : decide (relT M x y) = B) :
    Calls Try.prog 99 #[.int .i64 (x : Int), .int .i64 (y : Int), .pointer (some ⟨g, 0, none⟩)] w fun e w' => e = .returned (.bool B) ∧ w = w' := by
  have m1 := hA.cell (x * 7 + y) false (by rw [matB_len]; omega)
  have m2 := hA.cell (y * 7 + x) false (by rw [matB_len]; omega)
  rw [matB_get M (by omega) (by omega)] at m1 m2
  have q1 : (x : Int) < 7 := by omega
  have q2 : (y : Int) < 7 := by omega
  have q3 : x < 7 := by omega
  have q4 : y < 7 := by omega
  have hB2 : B = (M x y || (decide (x < y) && !M y x)) := by
    rw [← hB, Bool.eq_iff_iff, decide_eq_true_iff]
    unfold relT
    simp
  obtain ⟨b1, hb1⟩ : ∃ b1, M x y = b1 := ⟨_, rfl⟩
  obtain ⟨b2, hb2⟩ : ∃ b2, M y x = b2 := ⟨_, rfl⟩
  rw [hb1] at m1 hB2
  rw [hb2] at m2 hB2
  clear hb1 hb2 hA hB
  cases b1 with
  | true =>
    have HB : Hid (B = true) := Lib.hid (by rw [hB2]; simp)
    clear hB2
    go_enter Try.func99, Try.ntmps99
    go_wp2_with fail
    go_ret
    exact ⟨by rw [HB.out]; rfl, rfl⟩
  | false =>
    by_cases hxy : x < y
    · have q5 : (x : Int) < (y : Int) := by omega
      have HB : Hid (B = !b2) := Lib.hid (by rw [hB2]; simp [hxy])
      clear hB2
      go_enter Try.func99, Try.ntmps99
      go_wp2_with fail
      go_ret
      exact ⟨by rw [HB.out]; rfl, rfl⟩
    · have q5 : ¬ (x : Int) < (y : Int) := by omega
      have HB : Hid (B = false) := Lib.hid (by rw [hB2]; simp [hxy])
      clear hB2
      go_enter Try.func99, Try.ntmps99
      go_wp2_with fail
      go_ret
      exact ⟨by rw [HB.out]; rfl, rfl⟩
end Go.Proofs.Ytmcckngodaeojaa
