/- Walks of chapter 11: contracts with their results written out. -/
import Derived.Test.YtjedmiegcbdedaaWs
import Derived.Test.YtjedmiegcbdedaaWt
import Derived.Test.YtjedmiegcbdedaaWn
import Derived.Test.YtjedmiegcbdedaaWi
namespace Go.Proofs.Ytjedmiegcbdedaa
open Go.RowKit Store11
variable (a b : Option Addr) (n c m d : Nat) (w : World) {l l' r : List Int} {u v x : Int}

instance (l : List Int) : Decidable (Wf l) := inferInstanceAs (Decidable (∀ x ∈ l, (Lit.int .i64 x).wf = true))
theorem Of_c (h : IsL w a n c l) (hr : ofL l = r) (hv : sizeE l.length = v) (hw : Wf l) :
    Calls Try.prog 16 #[.slice a n c] w fun e w' => ∃ a' n' c', e = .returned (.tuple #[.slice a' n' c', .int .i64 v]) ∧ IsL w' a' n' c' r ∧ Below w.heap.size w w' := by
  subst hr hv; exact Of_any a n c l w h hw
theorem Count_c (n : Int) (hv : countV n = v) (hx : countE n = x) : Calls Try.prog 23 #[.int .i64 n] w fun e w' => e = .returned (.tuple #[.int .i64 v, .int .i64 x]) ∧ Below w.heap.size w w' := by
  subst hv hx; exact Count_any n w
theorem Into_c (n k : Int) (hv : intoV n k = v) (hx : intoE n k = x) : Calls Try.prog 25 #[.int .i64 n, .int .i64 k] w fun e w' => e = .returned (.tuple #[.int .i64 v, .int .i64 x]) ∧ Below w.heap.size w w' := by
  subst hv hx; exact Into_any n k w
theorem At_c (n k : Int) (hr : atL n k = r) (hx : atE n k = x) : Calls Try.prog 27 #[.int .i64 n, .int .i64 k] w fun e w' => ∃ a m c, e = .returned (.tuple #[.slice a m c, .int .i64 x]) ∧ IsL w' a m c r ∧ Below w.heap.size w w' := by
  subst hr hx; exact At_any n k w
theorem Number_c (h : IsL w a n c l) (hv : numV l = v) (hx : chkL l = x) : Calls Try.prog 18 #[.slice a n c] w fun e w' => e = .returned (.tuple #[.int .i64 v, .int .i64 x]) ∧ Below w.heap.size w w' := by
  subst hv hx; exact Number_any a n c l w h
theorem Finer_c {v : Bool} (h : IsL w a n c l) (h' : IsL w b m d l') (hv : finerB l l' = v) (hx : bothE l l' = x) (hw : Wf l) (hw' : Wf l') :
    Calls Try.prog 29 #[.slice a n c, .slice b m d] w fun e w' => e = .returned (.tuple #[.bool v, .int .i64 x]) ∧ Below w.heap.size w w' := by
  subst hv hx; exact Finer_any a b n c m d l l' w h h' hw hw'
theorem Join_c (h : IsL w a n c l) (h' : IsL w b m d l') (hr : joinL l l' = r) (hx : bothE l l' = x) (hw : Wf l) :
    Calls Try.prog 31 #[.slice a n c, .slice b m d] w fun e w' => ∃ a' n' c', e = .returned (.tuple #[.slice a' n' c', .int .i64 x]) ∧ IsL w' a' n' c' r ∧ Below w.heap.size w w' := by
  subst hr hx; exact Join_any a b n c m d l l' w h h' hw
theorem Meet_c (h : IsL w a n c l) (h' : IsL w b m d l') (hr : meetL l l' = r) (hx : bothE l l' = x) (hw : Wf l) (hw' : Wf l') :
    Calls Try.prog 33 #[.slice a n c, .slice b m d] w fun e w' => ∃ a' n' c', e = .returned (.tuple #[.slice a' n' c', .int .i64 x]) ∧ IsL w' a' n' c' r ∧ Below w.heap.size w w' := by
  subst hr hx; exact Meet_any a b n c m d l l' w h h' hw hw'
theorem Arcs_c (h : IsL w a n c l) (hv : cnL l = (u, v)) (hx : chkL l = x) (hw : Wf l) : Calls Try.prog 35 #[.slice a n c] w fun e w' => e = .returned (.tuple #[.int .i64 u, .int .i64 v, .int .i64 x]) ∧ Below w.heap.size w w' := by
  have := Arcs_any a n c l w h hw
  rw [hv, hx] at this; exact this
theorem Flat_c (n : Int) (hv : flatV n = v) (hx : countE n = x) : Calls Try.prog 37 #[.int .i64 n] w fun e w' => e = .returned (.tuple #[.int .i64 v, .int .i64 x]) ∧ Below w.heap.size w w' := by
  subst hv hx; exact Flat_any n w
theorem Gaps_c (h : IsL w a n c l) (hr : gapL l = r) (hx : flatE l = x) (hw : Wf l) :
    Calls Try.prog 39 #[.slice a n c] w fun e w' => ∃ a' n' c', e = .returned (.tuple #[.slice a' n' c', .int .i64 x]) ∧ IsL w' a' n' c' r ∧ Below w.heap.size w w' := by
  subst hr hx; exact Gaps_any a n c l w h hw
theorem Back_c (h : IsL w a n c l) (hr : backL l = r) (hx : flatE l = x) (hw : Wf l) :
    Calls Try.prog 41 #[.slice a n c] w fun e w' => ∃ a' n' c', e = .returned (.tuple #[.slice a' n' c', .int .i64 x]) ∧ IsL w' a' n' c' r ∧ Below w.heap.size w w' := by
  subst hr hx; exact Back_any a n c l w h hw
variable {a b n c m d w}
theorem same_c (h : IsL w a n c l) (h' : IsL w b m d l) : Calls Try.prog 20 #[.slice a n c, .slice b m d] w fun e w' => e = .returned (.bool true) ∧ Below w.heap.size w w' :=
  same_yes a b n c m d l l w h h' rfl
theorem P_any (w : World) : Calls Try.prog 45 #[] w fun e w' => ∃ a n c, e = .returned (.slice a n c) ∧ IsL w' a n c [0, 1, 0, 1, 2] ∧ Below w.heap.size w w' := by
  have h := isL_lit w ([0, 1, 0, 1, 2] : List Int) #[.int .i64 0, .int .i64 1, .int .i64 0, .int .i64 1, .int .i64 2] 3 5 rfl rfl (by decide)
  go_enter Try.func45, Try.ntmps45
  go_wp2_with (go_at_call 44; refine (list_any _ _ _ _).mono ?_; rintro e w' ⟨rfl, rfl⟩)
  go_ret
  exact ⟨_, _, _, rfl, h, (Below.refl _ _).alloc (Nat.le_refl _) _⟩
theorem Q_any (w : World) : Calls Try.prog 46 #[] w fun e w' => ∃ a n c, e = .returned (.slice a n c) ∧ IsL w' a n c [0, 1, 1, 0, 2] ∧ Below w.heap.size w w' := by
  have h := isL_lit w ([0, 1, 1, 0, 2] : List Int) #[.int .i64 0, .int .i64 1, .int .i64 1, .int .i64 0, .int .i64 2] 3 5 rfl rfl (by decide)
  go_enter Try.func46, Try.ntmps46
  go_wp2_with (go_at_call 44; refine (list_any _ _ _ _).mono ?_; rintro e w' ⟨rfl, rfl⟩)
  go_ret
  exact ⟨_, _, _, rfl, h, (Below.refl _ _).alloc (Nat.le_refl _) _⟩
end Go.Proofs.Ytjedmiegcbdedaa
