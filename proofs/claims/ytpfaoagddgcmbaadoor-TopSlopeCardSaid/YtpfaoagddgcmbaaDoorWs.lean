/- Walks of chapter 5 at the top seat: one more turn; the turn that follows. -/
import Derived.Test.YtpfaoagddgcmbaaDoorWr
import Derived.StillTailTactics
namespace Go.Proofs.YtpfaoagddgcmbaaDoor
open Go.RowKit Wrap05
set_option maxRecDepth 100000
set_option maxHeartbeats 4000000 in
theorem more_any (g M s T : Nat) (p : Nat × Nat) (w : World) (hW : WdV w g M s T p) (hM1 : 1 ≤ M) (hM : M ≤ 100) (hs : s < M) (hT1 : 1 ≤ T) (hT : T ≤ 99) (h1 : p.1 ≤ 100) (h2 : p.2 ≤ 100) :
    Calls Tryd.prog 124 #[.pointer (some ⟨g, 0, none⟩)] w fun e w' => e = .returned (.tuple #[]) ∧ But (fun k => k = g) w w' ∧ WdV w' g M s (T + 1) (mrN M s T p) := by
  rw [mrN_eq]
  obtain ⟨a, b⟩ := p
  simp only [] at h1 h2 ⊢
  have c0 : w.cell? ⟨g, 0, none⟩ = some (.int .i64 (M : Int)) := cellT hW 0 rfl
  have c1 : w.cell? ⟨g, 1, none⟩ = some (.int .i64 (s : Int)) := cellT hW 1 rfl
  have c2 : w.cell? ⟨g, 2, none⟩ = some (.int .i64 (T : Int)) := cellT hW 2 rfl
  have c3 : w.cell? ⟨g, 3, none⟩ = some (.int .i64 (a : Int)) := cellT hW 3 rfl
  have c4 : w.cell? ⟨g, 4, none⟩ = some (.int .i64 (b : Int)) := cellT hW 4 rfl
  have f2 := ArrV.frozen hW 2
  have f3 := ArrV.frozen hW 3
  have f4 := ArrV.frozen hW 4
  have w9 : IntKind.i64.wrap ((T : Int) + 1) = (T : Int) + 1 := IntWalk.i64_in _ (by omega)
  have hT9 : ((T + 1 : Nat) : Int) = (T : Int) + 1 := by omega
  have HW : Hid (ArrV VT w g 155 [.int .i64 (M : Int), .int .i64 (s : Int), .int .i64 (T : Int), .int .i64 (a : Int), .int .i64 (b : Int)]) := Lib.hid hW
  have HT9 := Lib.hid hT9
  clear hW
  by_cases ht : T = 1
  · rw [if_pos ht]
    have q1 : ((T : Int) == 1) = true := by simp [ht]
    clear ht hT9
    go_enter Tryd.func124, Tryd.ntmps124
    go_wp2
    (first | go_end0 | (refine bodyPost_ret (results_none rfl _ _ _) rfl ?_))
    refine ⟨rfl, ?_, ?_⟩
    · exact (((But.refl (fun k => k = g) w).setCell rfl _).setCell rfl _).setCell rfl _
    · rw [WdV, HT9.out]
      exact ((ArrV.set HW.out 2 (VT (.int .i64 ((T : Int) + 1)))).set 3 (VT (.int .i64 1))).set 4 (VT (.int .i64 1))
  · rw [if_neg ht]
    have q1 : ((T : Int) == 1) = false := by simp; omega
    have HMK : Hid (∀ (t : Nat) w, t ≤ 100 → Calls Tryd.prog 143 #[.agg #[.int .i64 (M : Int), .int .i64 (s : Int), .int .i64 ((T : Int) + 1)], .int .i64 (t : Int)] w fun e w' => e = .returned (.int .i64 ((t * s % M : Nat) : Int)) ∧ Below w.heap.size w w') := Lib.hid (fun (t : Nat) w h => by
      have h9 := mark_any M s (T + 1) t w hM1 hM hs h
      rw [WrpA, hT9] at h9
      exact h9)
    have M1 := Lib.hid (fun w => HMK.out T w (by omega))
    have M2 := Lib.hid (fun w => HMK.out a w h1)
    have M3 := Lib.hid (fun w => HMK.out b w h2)
    have hW1 : ArrV VT (w.setCell ⟨g, 2, none⟩ (.int .i64 ((T : Int) + 1))) g 155 [.int .i64 (M : Int), .int .i64 (s : Int), .int .i64 ((T : Int) + 1), .int .i64 (a : Int), .int .i64 (b : Int)] := ArrV.set HW.out 2 (VT (.int .i64 ((T : Int) + 1)))
    have B1 : But (fun k => k = g) w (w.setCell ⟨g, 2, none⟩ (.int .i64 ((T : Int) + 1))) := (But.refl (fun k => k = g) w).setCell rfl _
    have HW1 := Lib.hid hW1
    clear ht hW1 hT9
    generalize T * s % M = mt at *
    generalize a * s % M = ma at *
    generalize b * s % M = mb at *
    by_cases h3 : mt < ma
    · rw [if_pos h3]
      have e1 : decide (mt < ma) = true := by simpa using h3
      go_enter Tryd.func124, Tryd.ntmps124
      go_wp2_with fail
      refine (M1.out _).mono ?_
      rintro e w2 ⟨rfl, b2⟩
      have W2 := Lib.hid (ArrV.below HW1.out b2)
      have B2 := B1.trans (But.of_below b2)
      have d0 : w2.cell? ⟨g, 0, none⟩ = some (.int .i64 (M : Int)) := cellT W2.out 0 rfl
      have d1 : w2.cell? ⟨g, 1, none⟩ = some (.int .i64 (s : Int)) := cellT W2.out 1 rfl
      have d2 : w2.cell? ⟨g, 2, none⟩ = some (.int .i64 ((T : Int) + 1)) := cellT W2.out 2 rfl
      have d3 : w2.cell? ⟨g, 3, none⟩ = some (.int .i64 (a : Int)) := cellT W2.out 3 rfl
      have d4 : w2.cell? ⟨g, 4, none⟩ = some (.int .i64 (b : Int)) := cellT W2.out 4 rfl
      clear c0 c1 c2 c3 c4 f2 f3 f4 B1 b2 w9
      go_wp2_with fail
      have d : Below w2.heap.size w2 w2.drew := (Below.refl _ _).drew
      go_region_with ((with_reducible refine (M2.out _).mono ?_); rintro e w3 ⟨rfl, b3⟩; have W3 := Lib.hid (ArrV.below W2.out (d.trans (b3.mono d.size))); have B3 := B2.trans (But.of_below (d.trans (b3.mono d.size))); have p0 : w3.cell? ⟨g, 0, none⟩ = some (.int .i64 (M : Int)) := cellT W3.out 0 rfl; have p1 : w3.cell? ⟨g, 1, none⟩ = some (.int .i64 (s : Int)) := cellT W3.out 1 rfl; have p2 : w3.cell? ⟨g, 2, none⟩ = some (.int .i64 ((T : Int) + 1)) := cellT W3.out 2 rfl; have p3 : w3.cell? ⟨g, 3, none⟩ = some (.int .i64 (a : Int)) := cellT W3.out 3 rfl; have p4 : w3.cell? ⟨g, 4, none⟩ = some (.int .i64 (b : Int)) := cellT W3.out 4 rfl; have k3 := ArrV.frozen W3.out 3; have k4 := ArrV.frozen W3.out 4)
      all_goals
        (try go_wp2)
        (first | go_end0 | (refine bodyPost_ret (results_none rfl _ _ _) rfl ?_))
        refine ⟨rfl, B3.setCell rfl _, ?_⟩
        rw [WdV, HT9.out]
        exact ArrV.set W3.out 3 (VT (.int .i64 (T : Int)))
    · rw [if_neg h3]
      have e1 : decide (mt < ma) = false := by simpa using h3
      by_cases h4 : mb < mt
      · rw [if_pos h4]
        have e2 : decide (mb < mt) = true := by simpa using h4
        go_enter Tryd.func124, Tryd.ntmps124
        go_wp2_with fail
        refine (M1.out _).mono ?_
        rintro e w2 ⟨rfl, b2⟩
        have W2 := Lib.hid (ArrV.below HW1.out b2)
        have B2 := B1.trans (But.of_below b2)
        have d0 : w2.cell? ⟨g, 0, none⟩ = some (.int .i64 (M : Int)) := cellT W2.out 0 rfl
        have d1 : w2.cell? ⟨g, 1, none⟩ = some (.int .i64 (s : Int)) := cellT W2.out 1 rfl
        have d2 : w2.cell? ⟨g, 2, none⟩ = some (.int .i64 ((T : Int) + 1)) := cellT W2.out 2 rfl
        have d3 : w2.cell? ⟨g, 3, none⟩ = some (.int .i64 (a : Int)) := cellT W2.out 3 rfl
        have d4 : w2.cell? ⟨g, 4, none⟩ = some (.int .i64 (b : Int)) := cellT W2.out 4 rfl
        clear c0 c1 c2 c3 c4 f2 f3 f4 B1 b2 w9
        go_wp2_with fail
        have d : Below w2.heap.size w2 w2.drew := (Below.refl _ _).drew
        go_region_with ((with_reducible refine (M2.out _).mono ?_); rintro e w3 ⟨rfl, b3⟩; have W3 := Lib.hid (ArrV.below W2.out (d.trans (b3.mono d.size))); have B3 := B2.trans (But.of_below (d.trans (b3.mono d.size))); have p0 : w3.cell? ⟨g, 0, none⟩ = some (.int .i64 (M : Int)) := cellT W3.out 0 rfl; have p1 : w3.cell? ⟨g, 1, none⟩ = some (.int .i64 (s : Int)) := cellT W3.out 1 rfl; have p2 : w3.cell? ⟨g, 2, none⟩ = some (.int .i64 ((T : Int) + 1)) := cellT W3.out 2 rfl; have p3 : w3.cell? ⟨g, 3, none⟩ = some (.int .i64 (a : Int)) := cellT W3.out 3 rfl; have p4 : w3.cell? ⟨g, 4, none⟩ = some (.int .i64 (b : Int)) := cellT W3.out 4 rfl; have k3 := ArrV.frozen W3.out 3; have k4 := ArrV.frozen W3.out 4)
        all_goals
          clear d0 d1 d2 d3 d4 d
          go_wp2_with fail
          have d9 : Below w3.heap.size w3 w3.drew := (Below.refl _ _).drew
          go_region_with ((with_reducible refine (M3.out _).mono ?_); rintro e w4 ⟨rfl, b4⟩; have W4 := Lib.hid (ArrV.below W3.out (d9.trans (b4.mono d9.size))); have B4 := B3.trans (But.of_below (d9.trans (b4.mono d9.size))); have r0 : w4.cell? ⟨g, 0, none⟩ = some (.int .i64 (M : Int)) := cellT W4.out 0 rfl; have r1 : w4.cell? ⟨g, 1, none⟩ = some (.int .i64 (s : Int)) := cellT W4.out 1 rfl; have r2 : w4.cell? ⟨g, 2, none⟩ = some (.int .i64 ((T : Int) + 1)) := cellT W4.out 2 rfl; have r3 : w4.cell? ⟨g, 3, none⟩ = some (.int .i64 (a : Int)) := cellT W4.out 3 rfl; have r4 : w4.cell? ⟨g, 4, none⟩ = some (.int .i64 (b : Int)) := cellT W4.out 4 rfl; have m3 := ArrV.frozen W4.out 3; have m4 := ArrV.frozen W4.out 4)
          all_goals
            (try go_wp2)
            (first | go_end0 | (refine bodyPost_ret (results_none rfl _ _ _) rfl ?_))
            refine ⟨rfl, B4.setCell rfl _, ?_⟩
            rw [WdV, HT9.out]
            exact ArrV.set W4.out 4 (VT (.int .i64 (T : Int)))
      · rw [if_neg h4]
        have e2 : decide (mb < mt) = false := by simpa using h4
        go_enter Tryd.func124, Tryd.ntmps124
        go_wp2_with fail
        refine (M1.out _).mono ?_
        rintro e w2 ⟨rfl, b2⟩
        have W2 := Lib.hid (ArrV.below HW1.out b2)
        have B2 := B1.trans (But.of_below b2)
        have d0 : w2.cell? ⟨g, 0, none⟩ = some (.int .i64 (M : Int)) := cellT W2.out 0 rfl
        have d1 : w2.cell? ⟨g, 1, none⟩ = some (.int .i64 (s : Int)) := cellT W2.out 1 rfl
        have d2 : w2.cell? ⟨g, 2, none⟩ = some (.int .i64 ((T : Int) + 1)) := cellT W2.out 2 rfl
        have d3 : w2.cell? ⟨g, 3, none⟩ = some (.int .i64 (a : Int)) := cellT W2.out 3 rfl
        have d4 : w2.cell? ⟨g, 4, none⟩ = some (.int .i64 (b : Int)) := cellT W2.out 4 rfl
        clear c0 c1 c2 c3 c4 f2 f3 f4 B1 b2 w9
        go_wp2_with fail
        have d : Below w2.heap.size w2 w2.drew := (Below.refl _ _).drew
        go_region_with ((with_reducible refine (M2.out _).mono ?_); rintro e w3 ⟨rfl, b3⟩; have W3 := Lib.hid (ArrV.below W2.out (d.trans (b3.mono d.size))); have B3 := B2.trans (But.of_below (d.trans (b3.mono d.size))); have p0 : w3.cell? ⟨g, 0, none⟩ = some (.int .i64 (M : Int)) := cellT W3.out 0 rfl; have p1 : w3.cell? ⟨g, 1, none⟩ = some (.int .i64 (s : Int)) := cellT W3.out 1 rfl; have p2 : w3.cell? ⟨g, 2, none⟩ = some (.int .i64 ((T : Int) + 1)) := cellT W3.out 2 rfl; have p3 : w3.cell? ⟨g, 3, none⟩ = some (.int .i64 (a : Int)) := cellT W3.out 3 rfl; have p4 : w3.cell? ⟨g, 4, none⟩ = some (.int .i64 (b : Int)) := cellT W3.out 4 rfl; have k3 := ArrV.frozen W3.out 3; have k4 := ArrV.frozen W3.out 4)
        all_goals
          clear d0 d1 d2 d3 d4 d
          go_wp2_with fail
          have d9 : Below w3.heap.size w3 w3.drew := (Below.refl _ _).drew
          go_region_with ((with_reducible refine (M3.out _).mono ?_); rintro e w4 ⟨rfl, b4⟩; have W4 := Lib.hid (ArrV.below W3.out (d9.trans (b4.mono d9.size))); have B4 := B3.trans (But.of_below (d9.trans (b4.mono d9.size))); have r0 : w4.cell? ⟨g, 0, none⟩ = some (.int .i64 (M : Int)) := cellT W4.out 0 rfl; have r1 : w4.cell? ⟨g, 1, none⟩ = some (.int .i64 (s : Int)) := cellT W4.out 1 rfl; have r2 : w4.cell? ⟨g, 2, none⟩ = some (.int .i64 ((T : Int) + 1)) := cellT W4.out 2 rfl; have r3 : w4.cell? ⟨g, 3, none⟩ = some (.int .i64 (a : Int)) := cellT W4.out 3 rfl; have r4 : w4.cell? ⟨g, 4, none⟩ = some (.int .i64 (b : Int)) := cellT W4.out 4 rfl; have m3 := ArrV.frozen W4.out 3; have m4 := ArrV.frozen W4.out 4)
          all_goals
            (try go_wp2)
            (first | go_end0 | (refine bodyPost_ret (results_none rfl _ _ _) rfl ?_))
            refine ⟨rfl, B4, ?_⟩
            rw [WdV, HT9.out]
            exact W4.out
end Go.Proofs.YtpfaoagddgcmbaaDoor
