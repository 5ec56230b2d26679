/- Walks of chapter 5 at the top seat: the turn that follows; wrappers are wound; all turns around the circle. -/
import Derived.Test.YtpfaoagddgcmbaaDoorWs
import Derived.Deep.LoopGhost
namespace Go.Proofs.YtpfaoagddgcmbaaDoor
open Go.RowKit Wrap05
set_option maxRecDepth 100000
set_option maxHeartbeats 2000000 in
theorem next_any (g M s T x : Nat) (p : Nat × Nat) (w : World) (hW : WdV w g M s T p) (hT : T ≤ 100) (h1 : p.1 ≤ T) (h2 : p.2 ≤ T) (hx : x < T) :
    Calls Tryd.prog 110 #[.pointer (some ⟨g, 0, none⟩), .int .i64 (x : Int)] w fun e w' => e = .returned (.int .i64 (nxN T p x : Int)) ∧ Below w.heap.size w w' := by
  have hno := (nxN_lt (p := p) h1 h2 hx).2
  rw [nxN_eq]
  obtain ⟨a, b⟩ := p
  simp only [] at h1 h2 hno ⊢
  have c2 : w.cell? ⟨g, 2, none⟩ = some (.int .i64 (T : Int)) := cellT hW 2 rfl
  have c3 : w.cell? ⟨g, 3, none⟩ = some (.int .i64 (a : Int)) := cellT hW 3 rfl
  have c4 : w.cell? ⟨g, 4, none⟩ = some (.int .i64 (b : Int)) := cellT hW 4 rfl
  have w1 : IntKind.i64.wrap ((T : Int) - (a : Int)) = (T : Int) - (a : Int) := IntWalk.i64_in _ (by omega)
  have w2 : IntKind.i64.wrap ((x : Int) + (a : Int)) = (x : Int) + (a : Int) := IntWalk.i64_in _ (by omega)
  have w3 : IntKind.i64.wrap ((x : Int) - (b : Int)) = (x : Int) - (b : Int) := IntWalk.i64_in _ (by omega)
  have w4 : IntKind.i64.wrap ((x : Int) + (a : Int) - (b : Int)) = (x : Int) + (a : Int) - (b : Int) := IntWalk.i64_in _ (by omega)
  have bb : ∀ n, Below w.heap.size w (w.drewN n) := fun n => belowN (Below.refl _ _) n
  have HBB := Lib.hid bb
  clear hW bb
  by_cases t1 : x + a < T
  · rw [if_pos t1]
    have q1 : (x : Int) < (T : Int) - (a : Int) := by omega
    have HR : Hid (((x + a : Nat) : Int) = (x : Int) + (a : Int)) := Lib.hid (by omega)
    clear t1 hno
    rw [HR.out]
    go_enter Tryd.func110, Tryd.ntmps110
    go_wp2_with fail
    go_quiet (fail)
    go_wp2
    go_ret
    exact ⟨rfl, HBB.out _⟩
  · rw [if_neg t1]
    have q1 : ¬ (x : Int) < (T : Int) - (a : Int) := by omega
    by_cases t2 : x < b
    · rw [if_pos t2]
      have q2 : (x : Int) < (b : Int) := by omega
      have HR : Hid (((x + a - b : Nat) : Int) = (x : Int) + (a : Int) - (b : Int)) := Lib.hid (by have := hno t1 t2; omega)
      clear t1 hno
      rw [HR.out]
      go_enter Tryd.func110, Tryd.ntmps110
      go_wp2_with fail
      go_quiet (fail)
      go_wp2
      go_ret
      exact ⟨rfl, HBB.out _⟩
    · rw [if_neg t2]
      have q2 : ¬ (x : Int) < (b : Int) := by omega
      have HR : Hid (((x - b : Nat) : Int) = (x : Int) - (b : Int)) := Lib.hid (by omega)
      clear t1 hno
      rw [HR.out]
      go_enter Tryd.func110, Tryd.ntmps110
      go_wp2_with fail
      go_quiet (fail)
      go_wp2
      go_ret
      exact ⟨rfl, HBB.out _⟩
set_option maxHeartbeats 4000000 in
theorem opened_ok (M s T : Nat) (w : World) (hM1 : 1 ≤ M) (hM : M ≤ 100) (hs : s < M) (hT : 1 ≤ T) (hA : T ≤ M / Nat.gcd M s) :
    Calls Tryd.prog 109 #[WrpA M s T] w fun e w' => ∃ g, e = .returned (.tuple #[.pointer (some ⟨g, 0, none⟩), .int .i64 0]) ∧ w.heap.size ≤ g ∧ WdV w' g M s T (opK M s (T - 1)) ∧ Below w.heap.size w w' := by
  have hT99 : T ≤ 100 := Nat.le_trans hA (Nat.le_trans (Nat.div_le_self _ _) hM)
  have hW : WrpV (w.alloc (.cells #[.int .i64 (M : Int), .int .i64 (s : Int), .int .i64 (T : Int)] 54)) w.heap.size M s T := ArrV.new _ _ _ _ _ rfl rfl
  have hb : Below w.heap.size w (w.alloc (.cells #[.int .i64 (M : Int), .int .i64 (s : Int), .int .i64 (T : Int)] 54)) := (Below.refl _ w).alloc (Nat.le_refl _) _
  obtain ⟨W, hWe⟩ : ∃ W, w.alloc (.cells #[.int .i64 (M : Int), .int .i64 (s : Int), .int .i64 (T : Int)] 54) = W := ⟨_, rfl⟩
  have hlt : w.heap.size < W.heap.size := by rw [← hWe]; simp
  rw [hWe] at hW hb
  have HCK := Lib.hid (fun w => wCheck_ok M s T w hM1 hM hs hT hA)
  have c0 : W.cell? ⟨w.heap.size, 0, none⟩ = some (.int .i64 (M : Int)) := cellT hW 0 rfl
  have c1 : W.cell? ⟨w.heap.size, 1, none⟩ = some (.int .i64 (s : Int)) := cellT hW 1 rfl
  have c2 : W.cell? ⟨w.heap.size, 2, none⟩ = some (.int .i64 (T : Int)) := cellT hW 2 rfl
  have HW := Lib.hid hW
  clear hW hA
  go_enter Tryd.func109, Tryd.ntmps109
  go_wp2_with fail
  refine (HCK.out _).mono ?_
  rintro e w1 ⟨rfl, b1⟩
  have W1 := Lib.hid (ArrV.below HW.out b1)
  have k1 := hb.trans (b1.mono hb.size)
  have hlt1 : w.heap.size < w1.heap.size := Nat.lt_of_lt_of_le hlt b1.size
  have d0 : w1.cell? ⟨w.heap.size, 0, none⟩ = some (.int .i64 (M : Int)) := cellT W1.out 0 rfl
  have d1 : w1.cell? ⟨w.heap.size, 1, none⟩ = some (.int .i64 (s : Int)) := cellT W1.out 1 rfl
  clear c0 c1 c2 b1 hb hlt HW
  go_wp2_with fail
  obtain ⟨g, hg⟩ : ∃ g, w1.heap.size = g := ⟨_, rfl⟩
  rw [hg]
  have hgs : w.heap.size < g := by omega
  have hR0 : WdV (w1.alloc (.cells #[.int .i64 (M : Int), .int .i64 (s : Int), .int .i64 1, .int .i64 0, .int .i64 0] 155)) g M s 1 (opK M s (1 - 1)) := ArrV.new _ _ _ _ _ hg.symm rfl
  have hA0 : WrpV (w1.alloc (.cells #[.int .i64 (M : Int), .int .i64 (s : Int), .int .i64 1, .int .i64 0, .int .i64 0] 155)) w.heap.size M s T := ArrV.alloc W1.out _
  have hb0 : Below w.heap.size w (w1.alloc (.cells #[.int .i64 (M : Int), .int .i64 (s : Int), .int .i64 1, .int .i64 0, .int .i64 0] 155)) := k1.alloc k1.size _
  clear hg d0 d1 W1 k1 hlt1
  generalize (w1.alloc (.cells #[.int .i64 (M : Int), .int .i64 (s : Int), .int .i64 1, .int .i64 0, .int .i64 0] 155)) = W2 at *
  go_loopg [] 101 (fun gk wr => ∃ t : Nat, gk = 102 - t ∧ 1 ≤ t ∧ t ≤ T ∧ Hid (WdV wr g M s t (opK M s (t - 1))) ∧ Hid (WrpV wr w.heap.size M s T) ∧ Hid (Below w.heap.size w wr))
  case atStart => exact ⟨1, rfl, by omega, hT, Lib.hid hR0, Lib.hid hA0, Lib.hid hb0⟩
  case round =>
    clear hR0 hA0 hb0
    obtain ⟨t, rfl, ht1, htT, hR, hA, hk⟩ := hrel
    have c2 : wr.cell? ⟨g, 2, none⟩ = some (.int .i64 (t : Int)) := cellT hR.out 2 rfl
    have d2 : wr.cell? ⟨w.heap.size, 2, none⟩ = some (.int .i64 (T : Int)) := cellT hA.out 2 rfl
    by_cases hlt : t < T
    · have e1 : decide (t < T) = true := by simpa using hlt
      have hle := opK_le M s (t - 1)
      have HMO : Hid (∀ nq, Calls Tryd.prog 124 #[.pointer (some ⟨g, 0, none⟩)] (wr.drewN nq) fun e w' => e = .returned (.tuple #[]) ∧ But (fun k => k = g) (wr.drewN nq) w' ∧ WdV w' g M s (t + 1) (mrN M s t (opK M s (t - 1)))) := Lib.hid (fun nq => more_any g M s t _ (wr.drewN nq) (ArrV.drewN hR.out nq) hM1 hM hs ht1 (by omega) (by omega) (by omega))
      have HN : Hid (mrN M s t (opK M s (t - 1)) = opK M s (t + 1 - 1)) := Lib.hid (by
        obtain ⟨u, rfl⟩ : ∃ u, t = u + 1 := ⟨t - 1, by omega⟩
        rfl)
      clear hle
      go_wp2_with fail
      go_quiet (fail)
      go_wp2_with fail
      refine (HMO.out _).mono ?_
      rintro e w3 ⟨rfl, B3, W3⟩
      rw [HN.out] at W3
      have A3 := Lib.hid (B3.arr (ArrV.drewN hA.out nq) (by omega))
      have k3 := Lib.hid ((belowN hk.out nq).trans (B3.below (belowN hk.out nq).size (fun k hk => by omega)))
      have HW3 := Lib.hid W3
      clear W3 B3 HMO c2 d2
      go_wp2
      go_roundg (102 - (t + 1))
      case measure => omega
      case rel => exact ⟨t + 1, rfl, by omega, by omega, HW3, A3, k3⟩
    · obtain rfl : t = T := by omega
      have e1 : decide (t < t) = false := by simp
      go_wp2_with fail
      go_quiet (fail)
      go_wp2
      go_ret2
      exact ⟨g, rfl, by omega, ArrV.drewN hR.out nq, belowN hk.out nq⟩
set_option maxHeartbeats 4000000 in
theorem around_ok (M s T : Nat) (w : World) (hM1 : 1 ≤ M) (hM : M ≤ 100) (hs : s < M) (hT : 1 ≤ T) (hA : T ≤ M / Nat.gcd M s) :
    Calls Tryd.prog 79 #[WrpA M s T, .func (.func 80) #[] #[]] w fun e w' => ∃ a c, e = .returned (.tuple #[.slice a T c, .int .i64 0]) ∧ IsL w' a T c (rdL M s T) ∧ Below w.heap.size w w' := by
  have hT99 : T ≤ 100 := Nat.le_trans hA (Nat.le_trans (Nat.div_le_self _ _) hM)
  have HO := Lib.hid (fun w => opened_ok M s T w hM1 hM hs hT hA)
  have hW : WrpV (w.alloc (.cells #[.int .i64 (M : Int), .int .i64 (s : Int), .int .i64 (T : Int)] 54)) w.heap.size M s T := ArrV.new _ _ _ _ _ rfl rfl
  have hb : Below w.heap.size w (w.alloc (.cells #[.int .i64 (M : Int), .int .i64 (s : Int), .int .i64 (T : Int)] 54)) := (Below.refl _ w).alloc (Nat.le_refl _) _
  obtain ⟨W, hWe⟩ : ∃ W, w.alloc (.cells #[.int .i64 (M : Int), .int .i64 (s : Int), .int .i64 (T : Int)] 54) = W := ⟨_, rfl⟩
  have hlt : w.heap.size < W.heap.size := by rw [← hWe]; simp
  rw [hWe] at hW hb
  have c0 : W.cell? ⟨w.heap.size, 0, none⟩ = some (.int .i64 (M : Int)) := cellT hW 0 rfl
  have c1 : W.cell? ⟨w.heap.size, 1, none⟩ = some (.int .i64 (s : Int)) := cellT hW 1 rfl
  have c2 : W.cell? ⟨w.heap.size, 2, none⟩ = some (.int .i64 (T : Int)) := cellT hW 2 rfl
  have HCL : Hid (∀ (p : Value) (x : Nat) w, Calls Tryd.prog 80 #[p, .int .i64 (x : Int)] w fun e w' => e = .returned (.int .i64 (x : Int)) ∧ w = w') := Lib.hid (fun p x w => by
    go_enter Tryd.func80, Tryd.ntmps80
    go_wp2
    go_ret
    exact ⟨rfl, rfl⟩)
  clear hA hW
  go_enter Tryd.func79, Tryd.ntmps79
  go_wp2_with fail
  refine (HO.out _).mono ?_
  rintro e w1 ⟨g, rfl, hgs, hR, b1⟩
  have k1 := hb.trans (b1.mono hb.size)
  have hgl := hR.lt
  have hgw : w.heap.size ≤ g := by omega
  have d2 : w1.cell? ⟨g, 2, none⟩ = some (.int .i64 (T : Int)) := cellT hR 2 rfl
  have hle := opK_le M s (T - 1)
  obtain ⟨p, hp⟩ : ∃ p, opK M s (T - 1) = p := ⟨_, rfl⟩
  have HRL : Hid (rdL M s T = rdI T p T) := Lib.hid (by rw [← hp]; rfl)
  rw [hp] at hR hle
  have hp1 : p.1 ≤ T := by omega
  have hp2 : p.2 ≤ T := by omega
  have HR := Lib.hid hR
  clear hR hp c0 c1 c2 b1 hb hlt hle hgs
  go_wp2_with fail
  obtain ⟨W3, rfl⟩ : ∃ W3, W3 = w1 := ⟨_, rfl⟩
  go_loopw [23, 8, 9] (fun vi vo vt wr => ∃ (i : Nat) (a : Option Addr) (c : Nat), i ≤ T ∧ vi = .int .i64 (i : Int) ∧ vo = .slice a i c ∧ vt = .int .i64 (trN T p i : Int) ∧ Hid (OwnL wr 3 W3.heap.size a i c (rdI T p i)) ∧ Below W3.heap.size W3 wr) (fun vi _ _ _ => T - (intOf vi).toNat)
  case atStart => exact ⟨0, none, 0, by omega, rfl, rfl, rfl, Lib.hid (OwnL.nilL _ _ _), Below.refl _ _⟩
  case round =>
    obtain ⟨i, a, c, hi, rfl, rfl, rfl, hO, kr⟩ := hrel
    have w9 : IntKind.i64.wrap ((i : Int) + 1) = (i : Int) + 1 := IntWalk.i64_in _ (by omega)
    have hsr := kr.size
    by_cases hlt : i < T
    · have q1 : (i : Int) < (T : Int) := by omega
      have HNX := Lib.hid (rdI_next T p i)
      have htl := trN_lt (T := T) (by omega) hp1 hp2 i
      have HTN : Hid (nxN T p (trN T p i) = trN T p (i + 1)) := Lib.hid rfl
      obtain ⟨x, hx⟩ : ∃ x, trN T p i = x := ⟨_, rfl⟩
      rw [hx] at HNX htl HTN ⊢
      have hO1 := hO.out
      clear hx hO
      go_wp2_with fail
      refine (HCL.out _ _ _).mono ?_
      rintro e x1 ⟨rfl, rfl⟩
      go_wp2_with (at_builtin; refine wl_app_own Tryd.underlying23 elem3 W3.heap.size (.tmp 25) (.tmp 30) rfl rfl rfl rfl (hO1.alloc _) (isL_oneAt _ _ 3 _ rfl) (by simp; omega) (by omega) ?_)
      intro a5 c5 x5 o5 g5 b5 v5
      have hO5 : Hid (OwnL x5 3 W3.heap.size a5 (i + 1) c5 (rdI T p (i + 1))) := Lib.hid (by rw [HNX.out]; exact o5)
      have kr5 := (kr.alloc hsr (.cells #[.int .i64 (x : Int)] 3)).trans b5
      have HNE := Lib.hid (next_any g M s T x p x5 (ArrV.below HR.out kr5) hT99 hp1 hp2 htl)
      clear o5 g5 b5 v5 hO1 kr
      go_wp2_with fail
      refine HNE.out.mono ?_
      rintro e x6 ⟨rfl, b6⟩
      have kr6 := kr5.trans (b6.mono kr5.size)
      have hO6 := Lib.hid (hO5.out.below b6)
      rw [HTN.out]
      clear hO5 kr5 HNE b6
      go_wp2_with fail
      exact ⟨⟨i + 1, a5, c5, by omega, by go_num, rfl, rfl, hO6, kr6⟩, by simp [intOf]; omega⟩
    · obtain rfl : i = T := by omega
      go_wp2
      go_ret2
      exact ⟨a, c, rfl, by rw [HRL.out]; exact hO.out.isL, k1.trans (kr.mono k1.size)⟩
theorem Round_ok (M s T : Nat) (w : World) (hM1 : 1 ≤ M) (hM : M ≤ 100) (hs : s < M) (hT : 1 ≤ T) (hA : T ≤ M / Nat.gcd M s) :
    Calls Tryd.prog 37 #[WrpA M s T] w fun e w' => ∃ a c, e = .returned (.tuple #[.slice a T c, .int .i64 0]) ∧ IsL w' a T c (rdL M s T) ∧ Below w.heap.size w w' := by
  have HC := Lib.hid (fun w => around_ok M s T w hM1 hM hs hT hA)
  have hb : Below w.heap.size w (w.alloc (.cells #[.int .i64 (M : Int), .int .i64 (s : Int), .int .i64 (T : Int)] 54)) := (Below.refl _ w).alloc (Nat.le_refl _) _
  have hsz := hb.size
  clear hA
  go_enter Tryd.func37, Tryd.ntmps37
  go_wp2_with fail
  refine (HC.out _).mono ?_
  rintro e w1 ⟨a, c, rfl, hl, b1⟩
  go_wp2
  go_ret2
  exact ⟨a, c, rfl, hl, hb.trans (b1.mono hsz)⟩
end Go.Proofs.YtpfaoagddgcmbaaDoor
