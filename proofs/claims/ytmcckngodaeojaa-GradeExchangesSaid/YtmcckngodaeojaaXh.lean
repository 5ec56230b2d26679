/- Walks of chapter 3: comparing two pairs. -/
import Derived.Test.YtmcckngodaeojaaXd
namespace Go.Proofs.Ytmcckngodaeojaa
open Go.RowKit Grade03

set_option maxHeartbeats 2000000 in
set_option maxRecDepth 100000 in
theorem isNaN_any (x : Int) (w : World) : Calls Try.prog 103 #[.int .i64 x] w fun e w' => e = .returned (.bool false) ∧ w = w' := by
  have e1 : (x != x) = false := by simp
  go_enter Try.func103, Try.ntmps103
  go_wp2
  go_ret
  exact ⟨rfl, rfl⟩
set_option maxHeartbeats 2000000 in
set_option maxRecDepth 100000 in
theorem cmp_lt (x y : Int) (w : World) (h : x < y) : Calls Try.prog 92 #[.int .i64 x, .int .i64 y] w fun e w' => e = .returned (.int .i64 (-1)) ∧ w = w' := by
  go_enter Try.func92, Try.ntmps92
  go_wp2_with (go_at_call 103; refine (isNaN_any _ _).mono ?_; rintro e w9 ⟨rfl, rfl⟩)
  go_ret
  exact ⟨rfl, rfl⟩
set_option maxHeartbeats 2000000 in
set_option maxRecDepth 100000 in
theorem cmp_eq (x : Int) (w : World) : Calls Try.prog 92 #[.int .i64 x, .int .i64 x] w fun e w' => e = .returned (.int .i64 0) ∧ w = w' := by
  have e1 : ¬ x < x := by omega
  go_enter Try.func92, Try.ntmps92
  go_wp2_with (go_at_call 103; refine (isNaN_any _ _).mono ?_; rintro e w9 ⟨rfl, rfl⟩)
  go_ret
  exact ⟨rfl, rfl⟩
set_option maxHeartbeats 2000000 in
set_option maxRecDepth 100000 in
theorem Compare_pair (b1 o1 c b2 o2 d : Nat) (x0 x1 y0 y1 : Int) (w : World) (h0 : w.cell? ⟨b1, o1, none⟩ = some (.int .i64 x0)) (h1 : w.cell? ⟨b1, o1 + 1, none⟩ = some (.int .i64 x1)) (g0 : w.cell? ⟨b2, o2, none⟩ = some (.int .i64 y0)) (g1 : w.cell? ⟨b2, o2 + 1, none⟩ = some (.int .i64 y1)) (hc : 2 ≤ c) (hd : 2 ≤ d) (hlex : x0 < y0 ∨ (x0 = y0 ∧ x1 < y1)) :
    Calls Try.prog 63 #[.slice (some ⟨b1, o1, none⟩) 2 c, .slice (some ⟨b2, o2, none⟩) 2 d] w fun e w' => e = .returned (.int .i64 (-1)) ∧ w = w' := by
  go_enter Try.func63, Try.ntmps63
  go_wp2_with fail
  go_loopw [11] (fun vi wr => ∃ i : Nat, i ≤ 1 ∧ vi = .int .i64 (i : Int) ∧ (i = 1 → x0 = y0) ∧ w = wr) (fun vi _ => 2 - (intOf vi).toNat)
  case atStart => exact ⟨0, by omega, rfl, fun h => by omega, rfl⟩
  case round =>
    obtain ⟨i, hi, rfl, hq, rfl⟩ := hrel
    by_cases hi0 : i = 0
    · subst hi0
      by_cases hlt : x0 < y0
      · clear hlex hq
        go_wp2_with (go_at_call 92; refine (cmp_lt _ _ _ hlt).mono ?_; rintro e w9 ⟨rfl, rfl⟩)
        go_ret
        exact ⟨rfl, rfl⟩
      · obtain rfl : x0 = y0 := by omega
        clear hlex hq hlt
        go_wp2_with (go_at_call 92; refine (cmp_eq _ _).mono ?_; rintro e w9 ⟨rfl, rfl⟩)
        go_roundw
        case rel => exact ⟨1, by omega, rfl, fun _ => by trivial, by trivial⟩
        case measure => (simp [intOf] <;> omega)
    · obtain rfl : i = 1 := by omega
      have hxy := hq rfl
      have hlt : x1 < y1 := by omega
      clear hlex hq hxy hi0
      go_wp2_with (go_at_call 92; refine (cmp_lt _ _ _ hlt).mono ?_; rintro e w9 ⟨rfl, rfl⟩)
      go_ret
      exact ⟨rfl, rfl⟩
end Go.Proofs.Ytmcckngodaeojaa
