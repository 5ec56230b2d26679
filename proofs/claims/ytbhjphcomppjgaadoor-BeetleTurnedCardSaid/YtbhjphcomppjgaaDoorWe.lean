/- Walks of chapter 9: a store is opened. -/
import Derived.Test.YtbhjphcomppjgaaDoorWd
import Derived.Test.YtbhjphcomppjgaaDoorPf
namespace Go.Proofs.YtbhjphcomppjgaaDoor
open Go.RowKit Beetle09

set_option maxHeartbeats 4000000 in
theorem sided_any (r c : Int) (w : World) (B : Bool) (hB : sdB r c = B) : Calls Tryd.prog 64 #[.int .i64 r, .int .i64 c] w fun e w' => e = .returned (.bool B) ∧ w = w' := by
  have hB' : decide (1 ≤ r ∧ r ≤ 5 ∧ 1 ≤ c ∧ c ≤ 5) = B := hB
  clear hB
  have hlt : r < c ∨ r = c ∨ c < r := by omega
  have hb : B = true ∨ B = false := by cases B <;> simp
  rcases hlt with h | rfl | h
  · by_cases h1 : 1 ≤ r
    · by_cases h2 : c ≤ 5
      · obtain rfl : B = true := by rw [← hB']; simp; omega
        clear hB' hb
        go_enter Tryd.func64, Tryd.ntmps64
        go_wp2
        go_ret
        exact ⟨rfl, rfl⟩
      · obtain rfl : B = false := by rw [← hB']; simp; omega
        clear hB' hb
        go_enter Tryd.func64, Tryd.ntmps64
        go_wp2
        go_ret
        exact ⟨rfl, rfl⟩
    · obtain rfl : B = false := by rw [← hB']; simp; omega
      clear hB' hb
      have h3 : decide (1 ≤ r) = false := by simpa using h1
      go_enter Tryd.func64, Tryd.ntmps64
      go_wp2
      go_ret
      exact ⟨rfl, rfl⟩
  · by_cases h1 : 1 ≤ r
    · by_cases h2 : r ≤ 5
      · obtain rfl : B = true := by rw [← hB']; simp; omega
        clear hB' hb
        go_enter Tryd.func64, Tryd.ntmps64
        go_wp2
        go_ret
        exact ⟨rfl, rfl⟩
      · obtain rfl : B = false := by rw [← hB']; simp; omega
        clear hB' hb
        go_enter Tryd.func64, Tryd.ntmps64
        go_wp2
        go_ret
        exact ⟨rfl, rfl⟩
    · obtain rfl : B = false := by rw [← hB']; simp; omega
      clear hB' hb
      have h3 : decide (1 ≤ r) = false := by simpa using h1
      go_enter Tryd.func64, Tryd.ntmps64
      go_wp2
      go_ret
      exact ⟨rfl, rfl⟩
  · by_cases h1 : 1 ≤ c
    · by_cases h2 : r ≤ 5
      · obtain rfl : B = true := by rw [← hB']; simp; omega
        clear hB' hb
        go_enter Tryd.func64, Tryd.ntmps64
        go_wp2
        go_ret
        exact ⟨rfl, rfl⟩
      · obtain rfl : B = false := by rw [← hB']; simp; omega
        clear hB' hb
        go_enter Tryd.func64, Tryd.ntmps64
        go_wp2
        go_ret
        exact ⟨rfl, rfl⟩
    · obtain rfl : B = false := by rw [← hB']; simp; omega
      clear hB' hb
      have h3 : decide (1 ≤ c) = false := by simpa using h1
      go_enter Tryd.func64, Tryd.ntmps64
      go_wp2
      go_ret
      exact ⟨rfl, rfl⟩
end Go.Proofs.YtbhjphcomppjgaaDoor
