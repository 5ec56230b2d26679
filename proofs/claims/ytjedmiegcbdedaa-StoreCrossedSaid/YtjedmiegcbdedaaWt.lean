/- Walks of chapter 11: Flat. -/
import Derived.Test.YtjedmiegcbdedaaWf
import Derived.Test.YtjedmiegcbdedaaPb
import Derived.IntWalk
namespace Go.Proofs.Ytjedmiegcbdedaa
open Go.RowKit Store11

set_option maxHeartbeats 2000000 in
set_option maxRecDepth 100000 in
theorem Flat_any (n : Int) (w : World) : Calls Try.prog 37 #[.int .i64 n] w fun e w' => e = .returned (.tuple #[.int .i64 (flatV n), .int .i64 (countE n)]) ∧ Below w.heap.size w w' := by
  by_cases hn : 1 ≤ n ∧ n ≤ 9
  · obtain ⟨B, rfl⟩ : ∃ B : Nat, n = B := ⟨n.toNat, by omega⟩
    have HV : Hid (flatV (B : Int) = (flatK B).getD B 0) := Lib.hid (by rw [flatV, if_pos hn]; rfl)
    have HE : Hid (countE (B : Int) = 0) := Lib.hid (by rw [countE, if_pos hn])
    have hn1 := hn.1
    have hn2 := hn.2
    have o1 : OwnL (w.alloc (.cells #[.int .i64 1] 3)) 3 w.heap.size (some ⟨w.heap.size, 0, none⟩) 1 1 (flatK 0) := own_lit w 3 w.heap.size (Nat.le_refl _) [1] _ 1 rfl rfl (by omega)
    have b1 : Below w.heap.size w (w.alloc (.cells #[.int .i64 1] 3)) := (Below.refl _ _).alloc (Nat.le_refl _) _
    clear hn
    go_enter Try.func37, Try.ntmps37
    go_wp2_with (go_at_call 67; refine (ranged_yes _ _ hn1 hn2).mono ?_; rintro e w' ⟨rfl, rfl⟩)
    go_loopw [4, 5] (fun vf vn wr => ∃ (m : Nat) (a : Option Addr) (c : Nat), m ≤ B ∧ vn = .int .i64 ((m : Int) + 1) ∧ vf = .slice a (m + 1) c ∧ Hid (OwnL wr 3 w.heap.size a (m + 1) c (flatK m)) ∧ Below w.heap.size w wr) (fun _ vn _ => 20 - (intOf vn).toNat)
    case atStart => exact ⟨0, _, 1, by omega, rfl, rfl, Lib.hid o1, b1⟩
    case round =>
      clear o1 b1
      obtain ⟨m, a, c, hm, rfl, rfl, hO, hb⟩ := hrel
      by_cases hlt : m < B
      · have hd : decide (((m : Nat) : Int) + 1 ≤ (B : Int)) = true := by simp; omega
        obtain ⟨g, rfl⟩ := hO.out.gen.addr (by omega)
        obtain ⟨hc1, hc2⟩ := hO.out.gen.caps
        have hmi : (m : Int) ≤ 9 := by omega
        go_wp2_with fail
        go_loopw [6, 18] (fun vs vk wr => ∃ k : Nat, k ≤ m + 1 ∧ vk = .int .i64 (k : Int) ∧ vs = .int .i64 (sumK (flatK m) (m + 1) k) ∧ Hid (OwnL wr 3 w.heap.size (some ⟨g, 0, none⟩) (m + 1) c (flatK m)) ∧ Below w.heap.size w wr) (fun _ vk _ => m + 1 - (intOf vk).toNat)
        case atStart => exact ⟨0, by omega, rfl, rfl, hO, hb⟩
        case round =>
          clear hO hb
          obtain ⟨k, hk, rfl, rfl, hO, hb⟩ := hrel
          have hs := sumK_small m (by omega) k (by omega)
          by_cases hkm : k < m + 1
          · obtain ⟨j, hj⟩ : ∃ j, m = k + j := ⟨m - k, by omega⟩
            have hs2 : sumK (flatK m) (m + 1) (k + 1) = sumK (flatK m) (m + 1) k + (flatK m).getD k 0 * (flatK m).getD j 0 := by
              rw [sumK, show m + 1 - 1 - k = j by omega]
            have v1 := flatK_small m (by omega) k (by omega)
            have v2 := flatK_small m (by omega) j (by omega)
            have hsn := sumK_small m (by omega) (k + 1) (by omega)
            obtain ⟨x1, _⟩ := hO.out.gen.cell k 0 (by omega)
            obtain ⟨x2, _⟩ := hO.out.gen.cell j 0 (by omega)
            rw [hs2] at hsn
            have HS := Lib.hid hs2
            generalize (flatK m).getD k 0 = y1 at *
            generalize (flatK m).getD j 0 = y2 at *
            obtain ⟨s, hse⟩ : ∃ s, sumK (flatK m) (m + 1) k = s := ⟨_, rfl⟩
            obtain ⟨p, hp⟩ : ∃ p, y1 * y2 = p := ⟨_, rfl⟩
            have hpb : 0 ≤ p ∧ p ≤ 100000 := by
              have := Int.mul_nonneg v1.1 v2.1
              rw [hse, hp] at hsn; rw [hse] at hs; rw [hp] at this
              omega
            rw [hse] at hs hsn ⊢
            rw [hp] at hsn
            have w1 : IntKind.i64.wrap p = p := IntWalk.i64_in _ (by omega)
            have w2 : IntKind.i64.wrap (s + p) = s + p := IntWalk.i64_in _ (by omega)
            have w3 : IntKind.i64.wrap ((m : Nat) : Int) = ((m : Nat) : Int) := IntWalk.i64_in _ (by omega)
            have w4 : IntKind.i64.wrap (((m : Nat) : Int) - ((k : Nat) : Int)) = ((j : Nat) : Int) := by rw [IntWalk.i64_in _ (by omega)]; omega
            have i1 : ((k : Nat) : Int) < ((m + 1 : Nat) : Int) := by omega
            have i1' : ((k : Nat) : Int) < ((m : Nat) : Int) + 1 := by omega
            have i2 : ((j : Nat) : Int) < ((m + 1 : Nat) : Int) := by omega
            have i2' : ((j : Nat) : Int) < ((m : Nat) : Int) + 1 := by omega
            have HSE : Hid (sumK (flatK m) (m + 1) (k + 1) = s + p) := Lib.hid (by rw [HS.out, hse, hp])
            have j1 : j < m + 1 := by omega
            have hO2 : Hid (∀ nq, OwnL (wr.drewN nq) 3 w.heap.size (some ⟨g, 0, none⟩) (m + 1) c (flatK m)) := Lib.hid fun nq => hO.out.drewN nq
            clear hj hse hs2 HS hO
            go_wp2_with fail
            go_quiet (fail)
            have hO3 := Lib.hid (hO2.out nq)
            have hb3 := belowN hb nq
            clear w1 w2 w3 w4 hO2 hb
            go_wp2
            go_roundw
            case rel => first | exact ⟨k + 1, by omega, by go_num, by rw [HSE.out], hO3, hb3⟩ | ((repeat apply Exists.intro); exact ⟨⟨k + 1, by omega, by go_num, by rw [HSE.out], hO3, hb3⟩, rfl⟩)
            case measure => simp [intOf]; omega
          · obtain rfl : k = m + 1 := by omega
            have HS : Hid (flatK (m + 1) = flatK m ++ [sumK (flatK m) (m + 1) (m + 1)]) := Lib.hid rfl
            generalize sumK (flatK m) (m + 1) (m + 1) = s at *
            have ho := hO.out
            clear hO
            have hsz := hb.size
            go_wp2_with (at_builtin; refine wl_app_own Try.underlying22 elem3 w.heap.size (.tmp 36) (.tmp 38) rfl rfl rfl rfl (ho.alloc _) (isL_one _ _ _) (by simp; omega) (by omega) ?_)
            intro a2 c2 w4 ho2 hg2 hb2 hv2
            have hO4 : Hid (OwnL w4 3 w.heap.size a2 (m + 1 + 1) c2 (flatK (m + 1))) := Lib.hid (by rw [HS.out]; exact ho2)
            have hb4 := (hb.alloc hsz (.cells #[.int .i64 s] 3)).trans hb2
            clear hg2 hb2 hv2 ho ho2 hb
            go_wp2
            go_roundw
            case rel => first | exact ⟨m + 1, a2, c2, by omega, by go_num, rfl, hO4, hb4⟩ | ((repeat apply Exists.intro); exact ⟨⟨m + 1, a2, c2, by omega, by go_num, rfl, hO4, hb4⟩, rfl⟩)
            case measure => simp [intOf]; omega
      · obtain rfl : m = B := by omega
        obtain ⟨g, rfl⟩ := hO.out.gen.addr (by omega)
        obtain ⟨hc1, hc2⟩ := hO.out.gen.caps
        obtain ⟨x1, _⟩ := hO.out.gen.cell m 0 (by omega)
        have HF : Hid ((flatK m).getD m 0 = flatV (m : Int)) := Lib.hid HV.out.symm
        generalize (flatK m).getD m 0 = y at *
        clear hO
        have i1 : ((m : Nat) : Int) < ((m + 1 : Nat) : Int) := by omega
        have i1' : ((m : Nat) : Int) < ((m : Nat) : Int) + 1 := by omega
        go_wp2
        go_ret2
        exact ⟨ret_ii HF.out HE.out.symm, hb⟩
  · have HV : Hid (flatV n = 0) := Lib.hid (by rw [flatV, if_neg hn])
    have HE : Hid (countE n = 1) := Lib.hid (by rw [countE, if_neg hn])
    have HN := Lib.hid hn
    clear hn
    go_enter Try.func37, Try.ntmps37
    go_wp2_with (go_at_call 67; refine (ranged_no _ _ HN.out).mono ?_; rintro e w' ⟨rfl, rfl⟩)
    go_ret2
    exact ⟨ret_ii HV.out.symm HE.out.symm, Below.refl _ _⟩
end Go.Proofs.Ytjedmiegcbdedaa
