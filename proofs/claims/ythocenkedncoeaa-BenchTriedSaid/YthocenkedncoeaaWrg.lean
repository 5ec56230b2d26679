/- Walks of chapter 06: the reference's Smallest and First. -/
import Derived.Test.YthocenkedncoeaaWrb
import Derived.Test.YthocenkedncoeaaSpecC
namespace Go.Proofs.Ythocenkedncoeaa
open Go.RowKit Bench06

theorem small_ord (r n : Int) (k : Nat) (hr : 1 ≤ r) (hk : 1 ≤ k) : ((ordL r.toNat k).getD (r.toNat - 1) 0 == n) = smallP r n k := by
  unfold smallP
  rw [← last_eq r.toNat k hk (by omega)]

theorem try_yes (p : Nat → Bool) (k : Nat) (hk : k < 1000) (h : p (k + 1) = true) : tryG p (1000 - k) k = ((k : Int) + 1, 0) := by
  rw [show 1000 - k = (1000 - (k + 1)) + 1 by omega, tryG, if_pos h]
theorem try_no (p : Nat → Bool) (k : Nat) (hk : k < 1000) (h : p (k + 1) = false) : tryG p (1000 - k) k = tryG p (1000 - (k + 1)) (k + 1) := by
  rw [show 1000 - k = (1000 - (k + 1)) + 1 by omega, tryG, if_neg (by simp [h])]

set_option maxHeartbeats 800000 in
set_option maxRecDepth 100000 in
theorem rSmallest_ok (r n : Int) (w : World) (h0 : 1 ≤ r) (h1 : r ≤ 20) (h4 : 0 ≤ n) (h5 : n ≤ r - 1) :
    Calls Try.prog 34 #[.int .i64 r, .int .i64 n] w fun e w' => e = .returned (.tuple #[.int .i64 (tryL (smallP r n)).1, .int .i64 (tryL (smallP r n)).2]) ∧ Below w.heap.size w w' := by
  have i0 : (0 : Int) ≤ r - 1 := by omega
  have i1 : r - 1 < (r.toNat : Int) := by omega
  go_enter Try.func34, Try.ntmps34
  go_wp2_with fail
  refine (in_yes _ _ _ _ h0 h1).mono ?_
  rintro e w' ⟨rfl, rfl⟩
  go_wp2_with fail
  refine (in_yes _ _ _ _ h4 h5).mono ?_
  rintro e w' ⟨rfl, rfl⟩
  go_wp2
  go_loopw [6] (fun vk wr => ∃ k : Nat, k ≤ 1000 ∧ vk = .int .i64 ((k : Int) + 1) ∧ Below w.heap.size w wr ∧ Hid (tryG (smallP r n) (1000 - k) k = tryL (smallP r n))) (fun vk _ => 1002 - (intOf vk).toNat)
  case atStart => exact ⟨0, by omega, rfl, Below.refl _ _, Lib.hid rfl⟩
  case round =>
    obtain ⟨k, hk, rfl, hb, heq⟩ := hrel
    by_cases hlt : k < 1000
    · have ho := small_ord r n (k + 1) h0 (by omega)
      have hkt : ((k : Int) + 1).toNat = k + 1 := by omega
      have HKT := Lib.hid hkt
      have HO := Lib.hid ho
      clear hkt ho
      cases hp : smallP r n (k + 1) with
      | true =>
        have HS := Lib.hid (heq.out.symm.trans (try_yes _ k hlt hp))
        have HP := Lib.hid (HO.out.trans hp)
        clear heq hp
        go_wp2_with (go_at_call 47; refine (rorder_any _ _ _ h0 h1 (by omega) (by omega)).mono ?_; rintro e w1 ⟨a, ca, rfl, hown, hb1⟩; rw [HKT.out] at hown; obtain ⟨bb, of, rfl, hbl, hcells⟩ := hown.isL.cells (by omega); have hcell := hcells (r.toNat - 1) (by omega); have hP := HP.out; generalize (ordL r.toNat (k + 1)).getD (r.toNat - 1) 0 = x at *; clear hcells hown)
        go_ret2
        exact ⟨ret_ii (by rw [HS.out]) (by rw [HS.out]), hb.trans (hb1.mono hb.size)⟩
      | false =>
        have HS := Lib.hid ((try_no _ k hlt hp).symm.trans heq.out)
        have HP := Lib.hid (HO.out.trans hp)
        clear heq hp
        go_wp2_with (go_at_call 47; refine (rorder_any _ _ _ h0 h1 (by omega) (by omega)).mono ?_; rintro e w1 ⟨a, ca, rfl, hown, hb1⟩; rw [HKT.out] at hown; obtain ⟨bb, of, rfl, hbl, hcells⟩ := hown.isL.cells (by omega); have hcell := hcells (r.toNat - 1) (by omega); have hP := HP.out; generalize (ordL r.toNat (k + 1)).getD (r.toNat - 1) 0 = x at *; clear hcells hown)
        go_roundw
        case rel => exact ⟨k + 1, by omega, by go_num, hb.trans (hb1.mono hb.size), HS⟩
        case measure => simp [intOf]; omega
    · obtain rfl : k = 1000 := by omega
      have HS : Hid (tryL (smallP r n) = (0, 12)) := Lib.hid heq.out.symm
      clear heq
      go_wp2
      go_ret2
      exact ⟨ret_ii (by rw [HS.out]) (by rw [HS.out]), hb⟩
theorem rSmallest_none (r n : Int) (w : World) (h0 : 1 ≤ r) (h1 : r ≤ 20) (h : ¬ (0 ≤ n ∧ n ≤ r - 1)) :
    Calls Try.prog 34 #[.int .i64 r, .int .i64 n] w fun e w' => e = .returned (.tuple #[.int .i64 0, .int .i64 2]) ∧ w = w' := by
  have H := Lib.hid h
  clear h
  go_enter Try.func34, Try.ntmps34
  go_wp2_with fail
  refine (in_yes _ _ _ _ h0 h1).mono ?_
  rintro e w' ⟨rfl, rfl⟩
  go_wp2_with fail
  refine (in_no _ _ _ _ H.out).mono ?_
  rintro e w' ⟨rfl, rfl⟩
  go_wp2
  go_ret2
  exact ⟨rfl, rfl⟩
theorem rSmallest_err (r n : Int) (w : World) (h : ¬ (1 ≤ r ∧ r ≤ 20)) :
    Calls Try.prog 34 #[.int .i64 r, .int .i64 n] w fun e w' => e = .returned (.tuple #[.int .i64 0, .int .i64 1]) ∧ w = w' := by
  have H := Lib.hid h
  clear h
  go_enter Try.func34, Try.ntmps34
  go_wp2_with (go_at_call 50; refine (in_no _ _ _ _ H.out).mono ?_; rintro e w' ⟨rfl, rfl⟩)
  go_ret2
  exact ⟨rfl, rfl⟩
end Go.Proofs.Ythocenkedncoeaa
