/- Walks of the top chapter: orders in which a blend comes first. -/
import Derived.Test.YtpfaoagddgcmbaaDoorBd
namespace Go.Proofs.YtpfaoagddgcmbaaDoor
open Go.RowKit Blend04 Grade03
set_option maxRecDepth 100000
/-- what is not in a blend, of the first i -/
def othK (l : List Int) (i : Nat) : List Int := (rngI i).filter fun x => decide (x ∉ l)
theorem othK_next (l : List Int) (i : Nat) : othK l (i + 1) = othK l i ++ (if (i : Int) ∈ l then [] else [(i : Int)]) := by
  simp only [othK, rngI, List.range_succ, List.map_append, List.filter_append]
  congr 1
  by_cases h : (i : Int) ∈ l <;> simp [h]
theorem othK_len (l : List Int) (i : Nat) : (othK l i).length ≤ i := Nat.le_trans (List.length_filter_le _ _) (by simp [rngI])
theorem Clone_nil (a : Option Addr) (c : Nat) (w : World) (h : IsL w a 0 c []) : Calls Tryd.prog 87 #[.slice a 0 c] w fun e w' => ∃ a' c', e = .returned (.slice a' 0 c') ∧ OwnL w' 3 w.heap.size a' 0 c' [] ∧ Below w.heap.size w w' := by
  cases a with
  | none =>
    have e1 : (binOp .eql 23 (.slice none 0 c) (.slice none 0 0)).run Tryd.prog w = .ok (.bool true) w := by rw [Lib.run_eql_slice_nil w 23 3 _ _ _ _ _ Tryd.underlying23]; rfl
    go_enter Tryd.func87, Tryd.ntmps87
    go_wp2
    go_ret
    exact ⟨none, 0, rfl, OwnL.nilL _ _ _, Below.refl _ _⟩
  | some b =>
    have hB := own_lit w 3 w.heap.size (Nat.le_refl _) ([] : List Int) #[] 0 rfl rfl (by decide)
    have h2 := h.alloc (.cells #[] 3)
    have e1 : (binOp .eql 23 (.slice (some b) 0 c) (.slice none 0 0)).run Tryd.prog w = .ok (.bool false) w := by rw [Lib.run_eql_slice_nil w 23 3 _ _ _ _ _ Tryd.underlying23]; rfl
    go_enter Tryd.func87, Tryd.ntmps87
    go_wp2_with (at_builtin; refine wl_app_own Tryd.underlying23 elem3 w.heap.size (.tmp 5) (.tmp 6) rfl rfl rfl rfl hB h2 (by simp) (by omega) ?_)
    intro a2 c2 w2 ho hg hb2 _
    have hbb := ((Below.refl _ w).alloc (Nat.le_refl _) (.cells #[] 3)).trans hb2
    clear hg hb2
    go_wp2
    go_ret
    exact ⟨_, _, rfl, ho, hbb⟩
set_option maxHeartbeats 4000000 in
theorem ahead_any (n : Nat) (a : Option Addr) (k c : Nat) (l : List Int) (w : World) (h : IsL w a k c l) (h7 : n ≤ 7) (hk : k ≤ 7) :
    Calls Tryd.prog 42 #[.int .i64 (n : Int), .slice a k c] w fun e w' => ∃ a' z c', e = .returned (.slice a' z c') ∧ OwnL w' 3 w.heap.size a' z c' (ahdL n l) ∧ Below w.heap.size w w' := by
  have HCL : Hid (Calls Tryd.prog 87 #[.slice a k c] w fun e w' => ∃ a' c', e = .returned (.slice a' k c') ∧ OwnL w' 3 w.heap.size a' k c' l ∧ Below w.heap.size w w') := Lib.hid (by
    cases k with
    | zero =>
      obtain rfl : l = [] := List.eq_nil_of_length_eq_zero h.len
      exact Clone_nil a c w h
    | succ k => exact Clone_any a (k + 1) c l w h (by omega) (by omega))
  have HH := Lib.hid h
  clear h
  go_enter Tryd.func42, Tryd.ntmps42
  go_wp2_with fail
  refine HCL.out.mono ?_
  rintro e w1 ⟨a1, c1, rfl, o1, b1⟩
  go_wp2_with fail
  go_loopw [10, 5] (fun vx vo wr => ∃ (x z : Nat) (a2 : Option Addr) (c2 : Nat), x ≤ n ∧ z ≤ k + x ∧ vx = .int .i64 (x : Int) ∧ vo = .slice a2 z c2 ∧ Hid (OwnL wr 3 w.heap.size a2 z c2 (l ++ othK l x)) ∧ Below w.heap.size w wr) (fun vx _ _ => n - (intOf vx).toNat)
  case atStart => exact ⟨0, k, a1, c1, by omega, by omega, rfl, rfl, Lib.hid (by simpa [othK, rngI] using o1), b1⟩
  case round =>
    clear o1 b1
    obtain ⟨x, z, a2, c2, hx, hz, rfl, rfl, hO, kr⟩ := hrel
    have w9 : IntKind.i64.wrap ((x : Int) + 1) = (x : Int) + 1 := IntWalk.i64_in _ (by omega)
    have hsr := kr.size
    by_cases hlt : x < n
    · have q1 : (x : Int) < (n : Int) := by omega
      have hnx := othK_next l x
      by_cases hin : (x : Int) ∈ l
      · rw [if_pos hin, List.append_nil] at hnx
        have HC := Lib.hid (contains_yes a k c l (x : Int) wr (HH.out.below kr) hin)
        have hO2 : Hid (OwnL wr 3 w.heap.size a2 z c2 (l ++ othK l (x + 1))) := Lib.hid (by rw [hnx]; exact hO.out)
        clear hnx hin hO
        go_wp2_with fail
        refine HC.out.mono ?_
        rintro e w3 ⟨rfl, rfl⟩
        go_wp2_with fail
        exact ⟨⟨x + 1, z, a2, c2, by omega, by omega, by go_num, rfl, hO2, kr⟩, by simp [intOf]; omega⟩
      · rw [if_neg hin] at hnx
        have HC := Lib.hid (contains_no a k c l (x : Int) wr (HH.out.below kr) hin)
        have HNX := Lib.hid hnx
        have hO1 := hO.out
        clear hnx hin hO
        go_wp2_with fail
        refine HC.out.mono ?_
        rintro e w3 ⟨rfl, rfl⟩
        go_wp2_with (at_builtin; refine wl_app_own Tryd.underlying23 elem3 w.heap.size (.tmp 17) (.tmp 19) rfl rfl rfl rfl (hO1.alloc _) (isL_oneAt _ _ 3 _ rfl) (by simp; omega) (by omega) ?_)
        intro a5 c5 x5 o5 g5 b5 v5
        have hO5 : Hid (OwnL x5 3 w.heap.size a5 (z + 1) c5 (l ++ othK l (x + 1))) := Lib.hid (by rw [HNX.out]; exact o5)
        have kr5 := (kr.alloc hsr (.cells #[.int .i64 (x : Int)] 3)).trans b5
        clear o5 g5 b5 v5 hO1 kr
        go_wp2_with fail
        exact ⟨⟨x + 1, z + 1, a5, c5, by omega, by omega, by go_num, rfl, hO5, kr5⟩, by simp [intOf]; omega⟩
    · obtain rfl : x = n := by omega
      go_wp2
      go_ret
      exact ⟨a2, z, c2, rfl, hO.out, kr⟩
end Go.Proofs.YtpfaoagddgcmbaaDoor
