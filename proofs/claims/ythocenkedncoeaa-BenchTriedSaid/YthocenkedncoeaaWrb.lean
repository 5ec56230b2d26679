/- Walks of chapter 06: the reference, second part. -/
import Derived.Test.YthocenkedncoeaaWra
namespace Go.Proofs.Ythocenkedncoeaa
open Go.RowKit Bench06

theorem in_yes (n lo hi : Int) (w : World) (h0 : lo ≤ n) (h1 : n ≤ hi) :
    Calls Try.prog 50 #[.int .i64 n, .int .i64 lo, .int .i64 hi] w fun e w' => e = .returned (.bool true) ∧ w = w' := by
  have hd : decide (n ≤ hi) = true := by simpa using h1
  go_enter Try.func50, Try.ntmps50
  go_wp2
  go_ret
  exact ⟨rfl, rfl⟩
theorem in_no (n lo hi : Int) (w : World) (h : ¬ (lo ≤ n ∧ n ≤ hi)) :
    Calls Try.prog 50 #[.int .i64 n, .int .i64 lo, .int .i64 hi] w fun e w' => e = .returned (.bool false) ∧ w = w' := by
  have : n < lo ∨ (lo ≤ n ∧ hi < n) := by omega
  clear h
  rcases this with h | ⟨h1, h2⟩
  rotate_right
  have hd : decide (n ≤ hi) = false := by simpa using h2
  all_goals
    go_enter Try.func50, Try.ntmps50
    go_wp2
    go_ret
    exact ⟨rfl, rfl⟩

theorem rOrder_ok (r c : Int) (w : World) (h0 : 1 ≤ r) (h1 : r ≤ 20) (h2 : 1 ≤ c) (h3 : c ≤ 1000000000) :
    Calls Try.prog 14 #[.int .i64 r, .int .i64 c] w fun e w' => ∃ a c', e = .returned (.tuple #[.slice a r.toNat c', .int .i64 0]) ∧ OwnL w' 3 w.heap.size a r.toNat c' (ordL r.toNat c.toNat) ∧ Below w.heap.size w w' := by
  go_enter Try.func14, Try.ntmps14
  go_wp2_with (first
    | (go_at_call 46; refine (counted_ok _ _ _ h0 h1 h2 h3).mono ?_; rintro e w' ⟨rfl, rfl⟩) | (go_at_call 47; refine (rorder_any _ _ _ h0 h1 h2 h3).mono ?_; rintro e w1 ⟨a, ca, rfl, hown, hb⟩))
  go_ret2
  exact ⟨a, ca, rfl, hown, hb⟩
theorem rOrder_err (r c : Int) (w : World) (h : ¬ (1 ≤ r ∧ r ≤ 20 ∧ 1 ≤ c ∧ c ≤ 1000000000)) :
    Calls Try.prog 14 #[.int .i64 r, .int .i64 c] w fun e w' => e = .returned (.tuple #[.slice none 0 0, .int .i64 1]) ∧ w = w' := by
  have H := Lib.hid h
  clear h
  go_enter Try.func14, Try.ntmps14
  go_wp2_with (go_at_call 46; refine (counted_err _ _ _ H.out).mono ?_; rintro e w' ⟨rfl, rfl⟩)
  go_ret2
  exact ⟨rfl, rfl⟩
theorem rLast_ok (r c : Int) (w : World) (h0 : 1 ≤ r) (h1 : r ≤ 20) (h2 : 1 ≤ c) (h3 : c ≤ 1000000000) :
    Calls Try.prog 16 #[.int .i64 r, .int .i64 c] w fun e w' => e = .returned (.tuple #[.int .i64 ((ordL r.toNat c.toNat).getD (r.toNat - 1) 0), .int .i64 0]) ∧ Below w.heap.size w w' := by
  have i0 : (0 : Int) ≤ r - 1 := by omega
  have i1 : r - 1 < (r.toNat : Int) := by omega
  go_enter Try.func16, Try.ntmps16
  go_wp2_with (first
    | (go_at_call 46; refine (counted_ok _ _ _ h0 h1 h2 h3).mono ?_; rintro e w' ⟨rfl, rfl⟩)
    | (go_at_call 47; refine (rorder_any _ _ _ h0 h1 h2 h3).mono ?_; rintro e w1 ⟨a, ca, rfl, hown, hb⟩; obtain ⟨bb, of, rfl, hbl, hcells⟩ := hown.isL.cells (by omega); have hcell := hcells (r.toNat - 1) (by omega); clear hcells hown))
  go_ret2
  exact ⟨ret_i2 (by simp [List.getD]), hb⟩
theorem rLast_err (r c : Int) (w : World) (h : ¬ (1 ≤ r ∧ r ≤ 20 ∧ 1 ≤ c ∧ c ≤ 1000000000)) :
    Calls Try.prog 16 #[.int .i64 r, .int .i64 c] w fun e w' => e = .returned (.tuple #[.int .i64 0, .int .i64 1]) ∧ w = w' := by
  have H := Lib.hid h
  clear h
  go_enter Try.func16, Try.ntmps16
  go_wp2_with (go_at_call 46; refine (counted_err _ _ _ H.out).mono ?_; rintro e w' ⟨rfl, rfl⟩)
  go_ret2
  exact ⟨rfl, rfl⟩

set_option maxHeartbeats 400000 in
theorem rWhen_ok (r c n : Int) (w : World) (h0 : 1 ≤ r) (h1 : r ≤ 20) (h2 : 1 ≤ c) (h3 : c ≤ 1000000000) (h4 : 0 ≤ n) (h5 : n ≤ r - 1) :
    Calls Try.prog 19 #[.int .i64 r, .int .i64 c, .int .i64 n] w fun e w' => e = .returned (.tuple #[.int .i64 (idxI (ordL r.toNat c.toNat) n), .int .i64 0]) ∧ Below w.heap.size w w' := by
  go_enter Try.func19, Try.ntmps19
  go_wp2_with (first
    | (go_at_call 46; refine (counted_ok _ _ _ h0 h1 h2 h3).mono ?_; rintro e w' ⟨rfl, rfl⟩)
    | (go_at_call 50; refine (in_yes _ _ _ _ h4 h5).mono ?_; rintro e w' ⟨rfl, rfl⟩)
    | (go_at_call 47; refine (rorder_any _ _ _ h0 h1 h2 h3).mono ?_; rintro e w1 ⟨a, ca, rfl, hown, hb⟩; have hl := hown.isL)
    | (go_at_call 51; refine (rplace_any _ _ _ _ _ _ hl).mono ?_; rintro e w' ⟨rfl, rfl⟩))
  go_ret2
  exact ⟨rfl, hb⟩
theorem rWhen_none (r c n : Int) (w : World) (h0 : 1 ≤ r) (h1 : r ≤ 20) (h2 : 1 ≤ c) (h3 : c ≤ 1000000000) (h : ¬ (0 ≤ n ∧ n ≤ r - 1)) :
    Calls Try.prog 19 #[.int .i64 r, .int .i64 c, .int .i64 n] w fun e w' => e = .returned (.tuple #[.int .i64 0, .int .i64 2]) ∧ w = w' := by
  have H := Lib.hid h
  clear h
  go_enter Try.func19, Try.ntmps19
  go_wp2_with (first
    | (go_at_call 46; refine (counted_ok _ _ _ h0 h1 h2 h3).mono ?_; rintro e w' ⟨rfl, rfl⟩)
    | (go_at_call 50; refine (in_no _ _ _ _ H.out).mono ?_; rintro e w' ⟨rfl, rfl⟩))
  go_ret2
  exact ⟨rfl, rfl⟩
theorem rWhen_err (r c n : Int) (w : World) (h : ¬ (1 ≤ r ∧ r ≤ 20 ∧ 1 ≤ c ∧ c ≤ 1000000000)) :
    Calls Try.prog 19 #[.int .i64 r, .int .i64 c, .int .i64 n] w fun e w' => e = .returned (.tuple #[.int .i64 0, .int .i64 1]) ∧ w = w' := by
  have H := Lib.hid h
  clear h
  go_enter Try.func19, Try.ntmps19
  go_wp2_with (go_at_call 46; refine (counted_err _ _ _ H.out).mono ?_; rintro e w' ⟨rfl, rfl⟩)
  go_ret2
  exact ⟨rfl, rfl⟩

set_option maxHeartbeats 400000 in
theorem rWho_ok (r c n : Int) (w : World) (h0 : 1 ≤ r) (h1 : r ≤ 20) (h2 : 1 ≤ c) (h3 : c ≤ 1000000000) (h4 : 0 ≤ n) (h5 : n ≤ r - 1) :
    Calls Try.prog 21 #[.int .i64 r, .int .i64 c, .int .i64 n] w fun e w' => e = .returned (.tuple #[.int .i64 ((ordL r.toNat c.toNat).getD n.toNat 0), .int .i64 0]) ∧ Below w.heap.size w w' := by
  have i1 : n < (r.toNat : Int) := by omega
  go_enter Try.func21, Try.ntmps21
  go_wp2_with (first
    | (go_at_call 46; refine (counted_ok _ _ _ h0 h1 h2 h3).mono ?_; rintro e w' ⟨rfl, rfl⟩)
    | (go_at_call 50; refine (in_yes _ _ _ _ h4 h5).mono ?_; rintro e w' ⟨rfl, rfl⟩)
    | (go_at_call 47; refine (rorder_any _ _ _ h0 h1 h2 h3).mono ?_; rintro e w1 ⟨a, ca, rfl, hown, hb⟩; obtain ⟨bb, of, rfl, hbl, hcells⟩ := hown.isL.cells (by omega); have hcell := hcells n.toNat (by omega); clear hcells hown))
  go_ret2
  exact ⟨ret_i2 (by simp [List.getD]), hb⟩
theorem rWho_none (r c n : Int) (w : World) (h0 : 1 ≤ r) (h1 : r ≤ 20) (h2 : 1 ≤ c) (h3 : c ≤ 1000000000) (h : ¬ (0 ≤ n ∧ n ≤ r - 1)) :
    Calls Try.prog 21 #[.int .i64 r, .int .i64 c, .int .i64 n] w fun e w' => e = .returned (.tuple #[.int .i64 0, .int .i64 2]) ∧ w = w' := by
  have H := Lib.hid h
  clear h
  go_enter Try.func21, Try.ntmps21
  go_wp2_with (first
    | (go_at_call 46; refine (counted_ok _ _ _ h0 h1 h2 h3).mono ?_; rintro e w' ⟨rfl, rfl⟩)
    | (go_at_call 50; refine (in_no _ _ _ _ H.out).mono ?_; rintro e w' ⟨rfl, rfl⟩))
  go_ret2
  exact ⟨rfl, rfl⟩
theorem rWho_err (r c n : Int) (w : World) (h : ¬ (1 ≤ r ∧ r ≤ 20 ∧ 1 ≤ c ∧ c ≤ 1000000000)) :
    Calls Try.prog 21 #[.int .i64 r, .int .i64 c, .int .i64 n] w fun e w' => e = .returned (.tuple #[.int .i64 0, .int .i64 1]) ∧ w = w' := by
  have H := Lib.hid h
  clear h
  go_enter Try.func21, Try.ntmps21
  go_wp2_with (go_at_call 46; refine (counted_err _ _ _ H.out).mono ?_; rintro e w' ⟨rfl, rfl⟩)
  go_ret2
  exact ⟨rfl, rfl⟩
end Go.Proofs.Ythocenkedncoeaa
