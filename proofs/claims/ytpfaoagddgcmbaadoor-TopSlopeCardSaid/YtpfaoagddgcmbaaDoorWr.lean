/- Walks of chapter 5 at the top seat: wrappers are checked; marks; one more turn. -/
import Derived.Test.YtpfaoagddgcmbaaDoorSl
import Derived.Test.YtpfaoagddgcmbaaDoorTh
import Derived.RegionTactic
import Derived.BigRegion
import Derived.BigQuiet
import Derived.Deep.QuietTactic
import Derived.Deep.RegionWith
namespace Go.Proofs.YtpfaoagddgcmbaaDoor
open Go.RowKit Wrap05
set_option maxRecDepth 100000
abbrev WrpA (M s T : Nat) : Value := .agg #[.int .i64 (M : Int), .int .i64 (s : Int), .int .i64 (T : Int)]
abbrev WrpV (w : World) (g M s T : Nat) : Prop := ArrV VT w g 54 [.int .i64 (M : Int), .int .i64 (s : Int), .int .i64 (T : Int)]
abbrev WdV (w : World) (g M s T : Nat) (p : Nat × Nat) : Prop := ArrV VT w g 155 [.int .i64 (M : Int), .int .i64 (s : Int), .int .i64 (T : Int), .int .i64 (p.1 : Int), .int .i64 (p.2 : Int)]
theorem round_yes (M s : Nat) (w : World) (h1 : 1 ≤ M) (h2 : M ≤ 100) (h3 : s < M) : Calls Tryd.prog 141 #[.int .i64 (M : Int), .int .i64 (s : Int)] w fun e w' => e = .returned (.bool true) ∧ w = w' := by
  have d1 : decide (1 ≤ M) = true := by simpa using h1
  have d2 : decide ((M : Int) ≤ 100) = true := by simp; omega
  have d3 : decide ((0 : Int) ≤ (s : Int)) = true := by simp
  have d4 : decide (s < M) = true := by simpa using h3
  have d5 : (1 : Int) ≤ (M : Int) := by omega
  go_enter Tryd.func141, Tryd.ntmps141
  go_wp2
  go_ret
  exact ⟨rfl, rfl⟩
set_option maxHeartbeats 1000000 in
theorem common_any (a b : Nat) (w : World) (ha : a ≤ 100) (hb : b ≤ 100) : Calls Tryd.prog 149 #[.int .i64 (a : Int), .int .i64 (b : Int)] w fun e w' => e = .returned (.int .i64 ((Nat.gcd a b : Nat) : Int)) ∧ ∃ m, w' = w.drewN m := by
  go_enter Tryd.func149, Tryd.ntmps149
  go_wp2_with fail
  go_loopw [0, 1] (fun va vb wr => ∃ x y : Nat, x ≤ 100 ∧ y ≤ 100 ∧ va = .int .i64 (x : Int) ∧ vb = .int .i64 (y : Int) ∧ Hid (Nat.gcd x y = Nat.gcd a b) ∧ Hid (∃ m, wr = w.drewN m)) (fun _ vb _ => (intOf vb).toNat)
  case atStart => exact ⟨a, b, ha, hb, rfl, rfl, Lib.hid rfl, Lib.hid ⟨0, rfl⟩⟩
  case round =>
    obtain ⟨x, y, hx, hy, rfl, rfl, hg, hk⟩ := hrel
    by_cases hy0 : 0 < y
    · have q1 : (0 : Int) < (y : Int) := by omega
      have q2 : ¬ (y : Int) = 0 := by omega
      obtain ⟨r, hr⟩ : ∃ r, x % y = r := ⟨_, rfl⟩
      have hr2 : r < y := by rw [← hr]; exact Nat.mod_lt _ hy0
      have q3 : (x : Int) % (y : Int) = (r : Int) := by rw [← hr]; omega
      have q4 : (x : Int).tmod (y : Int) = (r : Int) := by rw [Int.tmod_eq_emod_of_nonneg (by omega)]; exact q3
      have HG : Hid (Nat.gcd y r = Nat.gcd a b) := Lib.hid (by rw [← hr, ← hg.out, Nat.gcd_comm x y, Nat.gcd_rec y x, Nat.gcd_comm])
      clear hr hg
      go_wp2_with fail
      go_quiet (fail)
      go_wp2_with fail
      exact ⟨⟨y, r, hy, by omega, rfl, by simp [q3], HG, Lib.hid (by obtain ⟨m, hm⟩ := hk.out; exact ⟨_, by rw [hm, World.drewN_drewN]⟩)⟩, by simp [intOf, q3]; omega⟩
    · obtain rfl : y = 0 := by omega
      have HG : Hid (((Nat.gcd a b : Nat) : Int) = (x : Int)) := Lib.hid (by rw [← hg.out, Nat.gcd_zero_right])
      clear hg
      go_wp2
      go_ret
      exact ⟨by rw [HG.out]; rfl, hk.out⟩
set_option maxHeartbeats 2000000 in
theorem all_any (M s T : Nat) (w : World) (hM1 : 1 ≤ M) (hM : M ≤ 100) (hs : s < M) : Calls Tryd.prog 142 #[WrpA M s T] w fun e w' => e = .returned (.int .i64 ((M / Nat.gcd M s : Nat) : Int)) ∧ Below w.heap.size w w' := by
  have hW : WrpV (w.alloc (.cells #[.int .i64 (M : Int), .int .i64 (s : Int), .int .i64 (T : Int)] 54)) w.heap.size M s T := ArrV.new _ _ _ _ _ rfl rfl
  have hb : Below w.heap.size w (w.alloc (.cells #[.int .i64 (M : Int), .int .i64 (s : Int), .int .i64 (T : Int)] 54)) := (Below.refl _ w).alloc (Nat.le_refl _) _
  obtain ⟨W, hWe⟩ : ∃ W, w.alloc (.cells #[.int .i64 (M : Int), .int .i64 (s : Int), .int .i64 (T : Int)] 54) = W := ⟨_, rfl⟩
  rw [hWe] at hW hb
  have c0 : W.cell? ⟨w.heap.size, 0, none⟩ = some (.int .i64 (M : Int)) := cellT hW 0 rfl
  have c1 : W.cell? ⟨w.heap.size, 1, none⟩ = some (.int .i64 (s : Int)) := cellT hW 1 rfl
  have HC := Lib.hid (fun w => common_any M s w hM (by omega))
  have hg0 : 0 < Nat.gcd M s := Nat.gcd_pos_of_pos_left _ (by omega)
  have hgM : Nat.gcd M s ≤ M := Nat.le_of_dvd (by omega) (Nat.gcd_dvd_left M s)
  generalize Nat.gcd M s = g at *
  have q1 : (0 : Int) < (g : Int) := by omega
  have q2 : ¬ (g : Int) = 0 := by omega
  obtain ⟨r, hr⟩ : ∃ r, M / g = r := ⟨_, rfl⟩
  have q3 : (M : Int) / (g : Int) = (r : Int) := by rw [← hr]; omega
  have q4 : (M : Int).tdiv (g : Int) = (r : Int) := by rw [Int.tdiv_eq_ediv_of_nonneg (by omega)]; exact q3
  have hrb : r ≤ M := by rw [← hr]; exact Nat.div_le_self _ _
  have w1 : IntKind.i64.wrap (r : Int) = (r : Int) := IntWalk.i64_in _ (by omega)
  rw [hr]
  clear hW hr
  go_enter Tryd.func142, Tryd.ntmps142
  go_wp2_with fail
  go_quiet ((go_at_call 149; exact Calls.quiet_of (HC.out _)))
  go_wp2
  go_ret
  exact ⟨by simp [q3, q4, w1], belowN hb _⟩
theorem mark_any (M s T t : Nat) (w : World) (hM1 : 1 ≤ M) (hM : M ≤ 100) (hs : s < M) (ht : t ≤ 100) : Calls Tryd.prog 143 #[WrpA M s T, .int .i64 (t : Int)] w fun e w' => e = .returned (.int .i64 ((t * s % M : Nat) : Int)) ∧ Below w.heap.size w w' := by
  have hW : WrpV (w.alloc (.cells #[.int .i64 (M : Int), .int .i64 (s : Int), .int .i64 (T : Int)] 54)) w.heap.size M s T := ArrV.new _ _ _ _ _ rfl rfl
  have hb : Below w.heap.size w (w.alloc (.cells #[.int .i64 (M : Int), .int .i64 (s : Int), .int .i64 (T : Int)] 54)) := (Below.refl _ w).alloc (Nat.le_refl _) _
  have hm : t * s ≤ 100 * 100 := Nat.mul_le_mul ht (by omega)
  obtain ⟨m, hme⟩ : ∃ m, t * s = m := ⟨_, rfl⟩
  obtain ⟨r, hr⟩ : ∃ r, m % M = r := ⟨_, rfl⟩
  rw [hme] at hm ⊢
  rw [hr]
  have w1 : IntKind.i64.wrap ((t : Int) * (s : Int)) = (m : Int) := by
    have : (t : Int) * (s : Int) = (m : Int) := by rw [← hme]; push_cast; rfl
    rw [this]; exact IntWalk.i64_in _ (by omega)
  have q1 : (0 : Int) < (M : Int) := by omega
  have q3 : (m : Int) % (M : Int) = (r : Int) := by rw [← hr]; omega
  clear hme hr
  obtain ⟨W, hWe⟩ : ∃ W, w.alloc (.cells #[.int .i64 (M : Int), .int .i64 (s : Int), .int .i64 (T : Int)] 54) = W := ⟨_, rfl⟩
  rw [hWe] at hW hb
  have c0 : W.cell? ⟨w.heap.size, 0, none⟩ = some (.int .i64 (M : Int)) := cellT hW 0 rfl
  have c1 : W.cell? ⟨w.heap.size, 1, none⟩ = some (.int .i64 (s : Int)) := cellT hW 1 rfl
  clear hW
  go_enter Tryd.func143, Tryd.ntmps143
  go_wp2
  go_ret
  exact ⟨by simp [q3], hb⟩
set_option maxHeartbeats 2000000 in
theorem wCheck_ok (M s T : Nat) (w : World) (hM1 : 1 ≤ M) (hM : M ≤ 100) (hs : s < M) (hT : 1 ≤ T) (hA : T ≤ M / Nat.gcd M s) : Calls Tryd.prog 123 #[WrpA M s T] w fun e w' => e = .returned (.int .i64 0) ∧ Below w.heap.size w w' := by
  have hW : WrpV (w.alloc (.cells #[.int .i64 (M : Int), .int .i64 (s : Int), .int .i64 (T : Int)] 54)) w.heap.size M s T := ArrV.new _ _ _ _ _ rfl rfl
  have hb : Below w.heap.size w (w.alloc (.cells #[.int .i64 (M : Int), .int .i64 (s : Int), .int .i64 (T : Int)] 54)) := (Below.refl _ w).alloc (Nat.le_refl _) _
  obtain ⟨W, hWe⟩ : ∃ W, w.alloc (.cells #[.int .i64 (M : Int), .int .i64 (s : Int), .int .i64 (T : Int)] 54) = W := ⟨_, rfl⟩
  rw [hWe] at hW hb
  have H1 := Lib.hid (fun w => round_yes M s w hM1 hM hs)
  have H2 := Lib.hid (fun w => all_any M s T w hM1 hM hs)
  have c0 : W.cell? ⟨w.heap.size, 0, none⟩ = some (.int .i64 (M : Int)) := cellT hW 0 rfl
  have c1 : W.cell? ⟨w.heap.size, 1, none⟩ = some (.int .i64 (s : Int)) := cellT hW 1 rfl
  have c2 : W.cell? ⟨w.heap.size, 2, none⟩ = some (.int .i64 (T : Int)) := cellT hW 2 rfl
  have HW := Lib.hid hW
  obtain ⟨r, hr⟩ : ∃ r, M / Nat.gcd M s = r := ⟨_, rfl⟩
  rw [hr] at hA H2
  have q1 : ¬ (T : Int) < 1 := by omega
  have q2 : ¬ r < T := by omega
  have d : Below W.heap.size W W.drew := (Below.refl _ _).drew
  clear hr hW
  go_enter Tryd.func123, Tryd.ntmps123
  go_wp2_with fail
  refine (H1.out _).mono ?_
  rintro e w1 ⟨rfl, rfl⟩
  go_wp2_with fail
  go_region_with ((with_reducible refine (H2.out _).mono ?_); rintro e w2 ⟨rfl, b2⟩; have e2 : w2.cell? ⟨w.heap.size, 2, none⟩ = some (.int .i64 (T : Int)) := cellT (ArrV.below HW.out (d.trans (b2.mono d.size))) 2 rfl)
  all_goals
    go_wp2
    go_ret
    exact ⟨rfl, hb.trans ((d.trans (b2.mono d.size)).mono hb.size)⟩
end Go.Proofs.YtpfaoagddgcmbaaDoor
