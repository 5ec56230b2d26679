/- Walks of chapter 11: the law's finer. -/
import Derived.Test.YtjedmiegcbdedaaXl
import Derived.Test.YtjedmiegcbdedaaPw
import Derived.Test.YtjedmiegcbdedaaWa
namespace Go.Proofs.Ytjedmiegcbdedaa
open Go.RowKit Store11

set_option maxHeartbeats 4000000 in
set_option maxRecDepth 100000 in
theorem fin_any (a b : Option Addr) (n c d : Nat) (A B : List Int) (w : World) (h_A : IsL w a n c A) (h_B : IsL w b n d B) :
    Calls Try.prog 54 #[.slice a n c, .slice b n d] w fun e w' => e = .returned (.bool (finB A B)) ∧ Below w.heap.size w w' := by
  have hcap := h_A.cap
  have hle := h_A.le
  have hl := h_A.len
  have HL := Lib.hid hl
  clear hl
  have k := Below.refl w.heap.size w
  go_enter Try.func54, Try.ntmps54
  go_wp2_with fail
  go_loopw [9] (fun vi wr => ∃ i : Nat, i ≤ n ∧ vi = .int .i64 (i : Int) ∧ IsL wr a n c A ∧ IsL wr b n d B ∧ Below w.heap.size w wr ∧ Hid (∀ i', i' < i → ∀ k, k < i' → A.getD i' 0 = A.getD k 0 → B.getD i' 0 = B.getD k 0)) (fun vi _ => n - (intOf vi).toNat)
  case atStart => exact ⟨0, by omega, rfl, h_A, h_B, k, Lib.hid (fun i' h => by omega)⟩
  case round =>
    clear h_A h_B k
    obtain ⟨i, hi, rfl, h1, h2, k, HO⟩ := hrel
    by_cases hlt : i < n
    · have q1 : (i : Int) < (n : Int) := by omega
      go_wp2_with fail
      go_loopw [13] (fun vi wr => ∃ j : Nat, j ≤ i ∧ vi = .int .i64 (j : Int) ∧ IsL wr a n c A ∧ IsL wr b n d B ∧ Below w.heap.size w wr ∧ Hid (∀ k, k < j → A.getD i 0 = A.getD k 0 → B.getD i 0 = B.getD k 0)) (fun vi _ => i - (intOf vi).toNat)
      case atStart => exact ⟨0, by omega, rfl, h1, h2, k, Lib.hid (fun i' h => by omega)⟩
      case round =>
        clear h1 h2 k
        obtain ⟨j, hj, rfl, h1, h2, k, HI⟩ := hrel
        by_cases hjt : j < i
        · have q2 : (j : Int) < (i : Int) := by omega
          have q3 : (j : Int) < (n : Int) := by omega
          obtain ⟨p1, o1, rfl, _, g1⟩ := h1.cells (by omega)
          obtain ⟨p2, o2, rfl, _, g2⟩ := h2.cells (by omega)
          have x1 := g1 i hlt
          have x2 := g1 j (by omega)
          have x3 := g2 i hlt
          have x4 := g2 j (by omega)
          obtain ⟨u1, hu1⟩ : ∃ u, A.getD i 0 = u := ⟨_, rfl⟩
          obtain ⟨u2, hu2⟩ : ∃ u, A.getD j 0 = u := ⟨_, rfl⟩
          obtain ⟨u3, hu3⟩ : ∃ u, B.getD i 0 = u := ⟨_, rfl⟩
          obtain ⟨u4, hu4⟩ : ∃ u, B.getD j 0 = u := ⟨_, rfl⟩
          have HT : (u1 = u2 → u3 = u4) → Hid (∀ k, k < j + 1 → A.getD i 0 = A.getD k 0 → B.getD i 0 = B.getD k 0) := fun ht => Lib.hid (fun k hk e => by
            by_cases ek : k = j
            · rw [ek, hu3, hu4]; rw [ek, hu1, hu2] at e; exact ht e
            · exact HI.out k (by omega) e)
          have HX : (u1 = u2 → u3 ≠ u4 → finB A B = false) := fun e1 e2 => decide_eq_false fun hf => e2 (by
            have := hf i (by rw [HL.out]; exact hlt) j hjt (by rw [hu1, hu2]; exact e1)
            rwa [hu3, hu4] at this)
          rw [hu1] at x1
          rw [hu2] at x2
          rw [hu3] at x3
          rw [hu4] at x4
          clear hu1 hu2 hu3 hu4 g1 g2
          by_cases hu : u1 = u2
          · by_cases hv : u3 = u4
            · have HN := HT (fun _ => hv)
              obtain rfl := hu
              obtain rfl := hv
              have e1 : (u1 == u1) = true := by simp
              have e2 : (u3 == u3) = true := by simp
              have e3 : (u3 != u3) = false := by simp
              clear HX HT
              go_wp2_with fail
              go_quiet (fail)
              go_wp2
              go_roundw
              case rel => first | exact ⟨j + 1, by omega, by go_num, h1.drewN _, h2.drewN _, belowN k _, HN⟩ | ((repeat apply Exists.intro); exact ⟨⟨j + 1, by omega, by go_num, h1.drewN _, h2.drewN _, belowN k _, HN⟩, rfl⟩)
              case measure => (simp [intOf] <;> omega)
            · have HR := Lib.hid (HX hu hv)
              obtain rfl := hu
              have e1 : (u1 == u1) = true := by simp
              have e2 : (u3 == u4) = false := by simpa using hv
              have e3 : (u3 != u4) = true := by simpa using hv
              clear HX HT hv
              go_wp2_with fail
              go_quiet (fail)
              go_wp2
              go_ret
              exact ⟨ret_b HR.out.symm, belowN k _⟩
          · have HN := HT (fun e => absurd e hu)
            have e1 : (u1 == u2) = false := by simpa using hu
            clear HX HT hu
            go_wp2_with fail
            go_quiet (fail)
            go_wp2
            go_roundw
            case rel => first | exact ⟨j + 1, by omega, by go_num, h1.drewN _, h2.drewN _, belowN k _, HN⟩ | ((repeat apply Exists.intro); exact ⟨⟨j + 1, by omega, by go_num, h1.drewN _, h2.drewN _, belowN k _, HN⟩, rfl⟩)
            case measure => (simp [intOf] <;> omega)
        · obtain rfl : j = i := by omega
          have HO2 : Hid (∀ i', i' < j + 1 → ∀ k, k < i' → A.getD i' 0 = A.getD k 0 → B.getD i' 0 = B.getD k 0) := Lib.hid (fun i' hi' => by
            by_cases e : i' = j
            · rw [e]; exact HI.out
            · exact HO.out i' (by omega))
          go_wp2
          go_roundw
          case rel => first | exact ⟨j + 1, by omega, by go_num, h1, h2, k, HO2⟩ | ((repeat apply Exists.intro); exact ⟨⟨j + 1, by omega, by go_num, h1, h2, k, HO2⟩, rfl⟩)
          case measure => (simp [intOf] <;> omega)
    · obtain rfl : i = n := by omega
      have HR : Hid (true = finB A B) := Lib.hid (decide_eq_true (by intro i' hi'; exact HO.out i' (by rw [HL.out] at hi'; exact hi'))).symm
      go_wp2
      go_ret
      exact ⟨ret_b HR.out, k⟩
end Go.Proofs.Ytjedmiegcbdedaa
