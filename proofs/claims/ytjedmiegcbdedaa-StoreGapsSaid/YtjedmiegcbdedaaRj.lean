/- Walks of chapter 11: the reference's flat divisions counted. -/
import Derived.Test.YtjedmiegcbdedaaRi
import Derived.Test.YtjedmiegcbdedaaPy
namespace Go.Proofs.Ytjedmiegcbdedaa
open Go.RowKit Store11

def Seq0 (pre : List Int) : Prop := manyL pre ≤ pre.length ∧ ∀ k, k < pre.length → 0 ≤ pre.getD k 0 ∧ pre.getD k 0 ≤ 100
theorem Seq0.app {pre : List Int} (h : Seq0 pre) (r : Nat) (hr : (r : Int) ≤ manyL pre) (hl : pre.length ≤ 9) : Seq0 (pre ++ [(r : Int)]) := by
  refine ⟨many_app pre h.1 r hr, fun k hk => ?_⟩
  have := h.1
  simp at hk
  by_cases e : k < pre.length
  · rw [app_getD _ _ _ e]; exact h.2 k e
  · obtain rfl : k = pre.length := by omega
    rw [app_last]; omega
set_option maxHeartbeats 4000000 in
set_option maxRecDepth 100000 in
theorem rflats_any : ∀ (m : Nat) (pre : List Int) (n K : Nat) (a : Option Addr) (c : Nat) (w : World), n + m = K → pre.length = n → K ≤ 9 → Seq0 pre → IsL w a n c pre →
    Calls Try.prog 78 #[.int .i64 (K : Int), .slice a n c] w fun e w' => e = .returned (.int .i64 (flN m pre)) ∧ Below w.heap.size w w' := by
  intro m
  induction m with
  | zero =>
    intro pre n K a c w hK hlen hl hS h
    obtain ⟨u, v, hcn⟩ : ∃ u v, cnR pre = (u, v) := ⟨_, _, rfl⟩
    have hf : flN 0 pre = if 0 < u then 0 else 1 := by rw [flN, hcn]
    have HC := Lib.hid hcn
    have HF := Lib.hid hf
    clear hcn hf hlen hS
    by_cases hu : 0 < u
    · have d1 : decide (0 < u) = true := by simpa using hu
      have HR : Hid ((0 : Int) = flN 0 pre) := Lib.hid (by rw [HF.out, if_pos hu])
      go_enter Try.func78, Try.ntmps78
      go_wp2_with fail
      refine (rcrossed_any _ _ _ _ _ h (by omega)).mono ?_
      rintro e w1 ⟨rfl, b1⟩
      rw [HC.out]
      simp only []
      go_wp2
      go_ret
      exact ⟨ret_i HR.out, b1⟩
    · have d1 : decide (0 < u) = false := by simpa using hu
      have HR : Hid ((1 : Int) = flN 0 pre) := Lib.hid (by rw [HF.out, if_neg hu])
      have e1 : ((n : Int) == (K : Int)) = true := by simp; omega
      go_enter Try.func78, Try.ntmps78
      go_wp2_with fail
      refine (rcrossed_any _ _ _ _ _ h (by omega)).mono ?_
      rintro e w1 ⟨rfl, b1⟩
      rw [HC.out]
      simp only []
      go_wp2
      go_ret
      exact ⟨ret_i HR.out, b1⟩
  | succ m ih =>
    intro pre n K a c w hK hlen hl hS h
    obtain ⟨u, v, hcn⟩ : ∃ u v, cnR pre = (u, v) := ⟨_, _, rfl⟩
    by_cases hu : 0 < u
    · have d1 : decide (0 < u) = true := by simpa using hu
      have HR : Hid ((0 : Int) = flN (m + 1) pre) := Lib.hid (by rw [flN_flat _ _ (by rw [hcn]; exact hu)])
      have HC := Lib.hid hcn
      clear hcn hlen hS ih
      go_enter Try.func78, Try.ntmps78
      go_wp2_with fail
      refine (rcrossed_any _ _ _ _ _ h (by omega)).mono ?_
      rintro e w1 ⟨rfl, b1⟩
      rw [HC.out]
      simp only []
      go_wp2
      go_ret
      exact ⟨ret_i HR.out, b1⟩
    · have d1 : decide (0 < u) = false := by simpa using hu
      have HR : Hid (flN (m + 1) pre = sm (fun r => flN m (pre ++ [(r : Int)])) ((manyL pre).toNat + 1)) := Lib.hid (flN_succ _ _ (by rw [hcn]; exact hu))
      have HC := Lib.hid hcn
      have hM0 := manyL_nonneg pre
      have hM1 := hS.1
      obtain ⟨M, hM⟩ : ∃ M : Nat, manyL pre = (M : Int) := ⟨(manyL pre).toNat, by omega⟩
      have hM9 : M ≤ n := by omega
      have HMM := Lib.hid hM
      have HS := Lib.hid hS
      have HIH := Lib.hid ih
      have HLEN := Lib.hid hlen
      have e1 : ((n : Int) == (K : Int)) = false := by simp; omega
      have hn9 : n ≤ 8 := by omega
      have HK := Lib.hid hK
      have HB : Hid (∀ r : Nat, r ≤ M → 0 ≤ flN m (pre ++ [(r : Int)]) ∧ flN m (pre ++ [(r : Int)]) ≤ 1000000000) := Lib.hid (fun r hr => by
        have h1 := flN_bd m (pre ++ [(r : Int)]) (many_app pre hS.1 r (by omega)) (by simp; omega)
        have h2 := capB_le m (by omega)
        omega)
      have HMC : Hid (∀ k, k < n → -1000000 ≤ pre.getD k 0 ∧ pre.getD k 0 ≤ 1000000) := Lib.hid (fun k hk => by have := hS.2 k (by omega); omega)
      clear hcn hlen hS ih hM hM0 hM1 hu hK
      go_enter Try.func78, Try.ntmps78
      go_wp2_with fail
      refine (rcrossed_any _ _ _ _ _ h (by omega)).mono ?_
      rintro e w1 ⟨rfl, b1⟩
      rw [HC.out]
      simp only []
      go_wp2_with fail
      go_loopw [8, 7] (fun vr vo wr => ∃ r : Nat, r ≤ M + 1 ∧ vr = .int .i64 (r : Int) ∧ vo = .int .i64 (sm (fun r => flN m (pre ++ [(r : Int)])) r) ∧ Below w.heap.size w wr) (fun vr _ _ => M + 1 - (intOf vr).toNat)
      case atStart => exact ⟨0, by omega, rfl, rfl, b1⟩
      case round =>
        clear b1
        obtain ⟨r, hr, rfl, rfl, hb⟩ := hrel
        have h0 := h.below hb
        have hsz := hb.size
        by_cases hrm : r ≤ M
        · have d2 : (r : Int) ≤ (M : Int) := by omega
          obtain ⟨v0, v1⟩ := HB.out r hrm
          have hsm := sm_le (f := fun r => flN m (pre ++ [(r : Int)])) 1000000000 r (fun i hi => HB.out i (by omega))
          have hr20 : (r : Int) * 1000000000 ≤ 20 * 1000000000 := Int.mul_le_mul_of_nonneg_right (by omega) (by omega)
          have hs1 : sm (fun r => flN m (pre ++ [(r : Int)])) r ≤ 100000000000 := by have := hsm.2; omega
          clear hr20
          have hs0 := hsm.1
          have HSS : Hid (sm (fun r => flN m (pre ++ [(r : Int)])) (r + 1) = sm (fun r => flN m (pre ++ [(r : Int)])) r + flN m (pre ++ [(r : Int)])) := Lib.hid rfl
          obtain ⟨s, hs⟩ : ∃ s, sm (fun r => flN m (pre ++ [(r : Int)])) r = s := ⟨_, rfl⟩
          obtain ⟨x, hx⟩ : ∃ x, flN m (pre ++ [(r : Int)]) = x := ⟨_, rfl⟩
          rw [hs] at hs0 hs1 HSS ⊢
          rw [hx] at v0 v1 HSS
          have HX := Lib.hid hx
          have o0 := own_lit wr 3 w.heap.size hsz ([] : List Int) #[] 0 rfl rfl (by omega)
          have h2 := h0.alloc (.cells #[] 3)
          clear hsm hs hx
          go_wp2_with (first
            | (go_at_call 66; refine (many_any _ _ _ _ _ h0 HMC.out).mono ?_; rintro e w9 ⟨rfl, rfl⟩; rw [HMM.out])
            | (at_builtin; refine wl_app_own Try.underlying22 elem3 w.heap.size (.tmp 28) (.tmp 29) rfl rfl rfl rfl o0 h2 (by simp; omega) (by omega) ?_))
          intro a2 c2 w2 o2 hg2 hb2 hv2
          have k2 := (hb.alloc hsz (.cells #[] 3)).trans hb2
          have hsz2 := k2.size
          clear hg2 hb2 hv2 o0 h2 h0 hb
          go_wp2_with (at_builtin; refine wl_app_own Try.underlying22 elem3 w.heap.size (.tmp 30) (.tmp 32) rfl rfl rfl rfl (o2.alloc _) (isL_one _ _ _) (by simp; omega) (by omega) ?_)
          intro a3 c3 w3 o3 hg3 hb3 hv3
          have k3 := (k2.alloc hsz2 (.cells #[.int .i64 (r : Int)] 3)).trans hb3
          have i3 := o3.isL
          have hcl := HIH.out (pre ++ [(r : Int)]) (n + 1) K a3 c3 w3 (by have := HK.out; omega) (by simp [HLEN.out]) hl (HS.out.app r (by rw [HMM.out]; omega) (by rw [HLEN.out]; omega)) i3
          rw [HX.out] at hcl
          have HCL := Lib.hid hcl
          clear hg3 hb3 hv3 o3 o2 k2 hcl hsz2
          go_wp2_with (go_at_call 78; refine HCL.out.mono ?_; rintro e w4 ⟨rfl, b4⟩)
          have k4 := k3.trans (b4.mono k3.size)
          clear HCL k3 b4 i3
          go_wp2
          go_roundw
          case rel => first | exact ⟨r + 1, by omega, by go_num, by rw [HSS.out], k4⟩ | ((repeat apply Exists.intro); exact ⟨⟨r + 1, by omega, by go_num, by rw [HSS.out], k4⟩, rfl⟩)
          case measure => (simp [intOf] <;> omega)
        · obtain rfl : r = M + 1 := by omega
          have d2 : ¬ ((M : Int) + 1 ≤ (M : Int)) := by omega
          have HRR : Hid (sm (fun r => flN m (pre ++ [(r : Int)])) (M + 1) = flN (m + 1) pre) := Lib.hid (by rw [HR.out, HMM.out, Int.toNat_natCast])
          go_wp2_with (go_at_call 66; refine (many_any _ _ _ _ _ h0 HMC.out).mono ?_; rintro e w9 ⟨rfl, rfl⟩; rw [HMM.out])
          go_ret
          exact ⟨ret_i HRR.out, hb⟩
theorem rFlat_any (n : Int) (w : World) : Calls Try.prog 38 #[.int .i64 n] w fun e w' => e = .returned (.tuple #[.int .i64 (flatV n), .int .i64 (countE n)]) ∧ Below w.heap.size w w' := by
  by_cases hn : 1 ≤ n ∧ n ≤ 9
  · obtain ⟨m, rfl⟩ : ∃ m : Nat, n = (m : Int) := ⟨n.toNat, by omega⟩
    have hcl := rflats_any m [] 0 m none 0
    have HV : Hid (flN m [] = flatV (m : Int)) := Lib.hid (flN_all m (by omega) (by omega))
    have HE : Hid (countE (m : Int) = 0) := Lib.hid (by rw [countE, if_pos hn])
    have HC : Hid (∀ w : World, Calls Try.prog 78 #[.int .i64 (m : Int), .slice none 0 0] w fun e w' => e = .returned (.int .i64 (flatV (m : Int))) ∧ Below w.heap.size w w') := Lib.hid (fun w => by
      have := hcl w (by omega) rfl (by omega) ⟨by decide, fun k hk => by simp at hk⟩ (IsL.nilL _)
      rwa [HV.out] at this)
    clear hcl
    go_enter Try.func38, Try.ntmps38
    go_wp2_with (first
      | (go_at_call 69; refine (in_yes _ _ _ _ hn.1 hn.2).mono ?_; rintro e w9 ⟨rfl, rfl⟩)
      | (go_at_call 78; refine (HC.out _).mono ?_; rintro e w4 ⟨rfl, b4⟩))
    go_ret2
    exact ⟨by rw [HE.out]; rfl, b4⟩
  · have HV : Hid (flatV n = 0) := Lib.hid (by rw [flatV, if_neg hn])
    have HE : Hid (countE n = 1) := Lib.hid (by rw [countE, if_neg hn])
    go_enter Try.func38, Try.ntmps38
    go_wp2_with (go_at_call 69; refine (in_no _ _ _ _ hn).mono ?_; rintro e w9 ⟨rfl, rfl⟩)
    go_ret2
    exact ⟨by rw [HE.out, HV.out]; rfl, Below.refl _ _⟩
end Go.Proofs.Ytjedmiegcbdedaa
