/- Walks of chapter 8 at the top seat: the even word of eight boxes and three bands; places of bands. -/
import Derived.Test.YtpfaoagddgcmbaaDoorBm
import Derived.Test.YtpfaoagddgcmbaaDoorSp
namespace Go.Proofs.YtpfaoagddgcmbaaDoor
open Go.RowKit
set_option maxRecDepth 100000
theorem place_within (n lo hi : Int) (w : World) (h0 : lo ≤ n) (h1 : n ≤ hi) : Calls Tryd.prog 76 #[.int .i64 n, .int .i64 lo, .int .i64 hi] w fun e w' => e = .returned (.bool true) ∧ w = w' := by
  go_enter Tryd.func76, Tryd.ntmps76
  go_wp2
  go_ret
  exact ⟨rfl, rfl⟩
theorem given_ok (n k : Nat) (w : World) (h1 : 1 ≤ n) (h2 : n ≤ 16) (h3 : k ≤ n) : Calls Tryd.prog 75 #[.int .i64 (n : Int), .int .i64 (k : Int)] w fun e w' => e = .returned (.int .i64 0) ∧ w = w' := by
  have H1 := Lib.hid (fun w => place_within (n : Int) 1 16 w (by omega) (by omega))
  have H2 := Lib.hid (fun w => place_within (k : Int) 0 (n : Int) w (by omega) (by omega))
  go_enter Tryd.func75, Tryd.ntmps75
  go_wp2_with fail
  refine (H1.out _).mono ?_
  rintro e w1 ⟨rfl, rfl⟩
  go_wp2_with fail
  refine (H2.out _).mono ?_
  rintro e w1 ⟨rfl, rfl⟩
  go_wp2_with fail
  go_ret
  exact ⟨rfl, rfl⟩
set_option maxHeartbeats 1000000 in
theorem Place_ok (n k j : Nat) (w : World) (h2 : n ≤ 16) (hk : 1 ≤ k) (h3 : k ≤ n) (h10 : k ≤ 10) (hj : j < k) : Calls Tryd.prog 33 #[.int .i64 (n : Int), .int .i64 (k : Int), .int .i64 (j : Int)] w fun e w' => e = .returned (.tuple #[.int .i64 (spP n k j : Int), .int .i64 0]) ∧ w = w' := by
  have H1 := Lib.hid (fun w => given_ok n k w (by omega) h2 h3)
  have H2 := Lib.hid (fun w => place_within (j : Int) 0 ((k : Int) - 1) w (by omega) (by omega))
  have hone := (sp_facts h2 hk h3 h10 hj).one
  have hlt := (sp_facts h2 hk h3 h10 hj).lt
  have hp : spP n k j = ((j + 1) * n + k - 1) / k - 1 := rfl
  obtain ⟨m, hm⟩ : ∃ m, (j + 1) * n = m := ⟨_, rfl⟩
  have hm2 : m ≤ 10 * 16 := by rw [← hm]; exact Nat.mul_le_mul (by omega) h2
  rw [hm] at hone hp
  obtain ⟨q, hq⟩ : ∃ q, (m + k - 1) / k = q := ⟨_, rfl⟩
  rw [hq] at hone hp
  have w1 : IntKind.i64.wrap ((j : Int) + 1) = (j : Int) + 1 := IntWalk.i64_in _ (by omega)
  have w2 : IntKind.i64.wrap (((j : Int) + 1) * (n : Int)) = (m : Int) := by
    have : ((j : Int) + 1) * (n : Int) = (m : Int) := by rw [← hm]; push_cast; rfl
    rw [this]; exact IntWalk.i64_in _ (by omega)
  have w3 : IntKind.i64.wrap ((m : Int) + (k : Int)) = (m : Int) + (k : Int) := IntWalk.i64_in _ (by omega)
  have w4 : IntKind.i64.wrap ((m : Int) + (k : Int) - 1) = ((m + k - 1 : Nat) : Int) := by rw [IntWalk.i64_in _ (by omega)]; omega
  have q1 : (0 : Int) < (k : Int) := by omega
  have q2 : ¬ (k : Int) = 0 := by omega
  have q3 : ((m + k - 1 : Nat) : Int) / (k : Int) = (q : Int) := by rw [← hq]; omega
  have hqb : q ≤ 200 := by rw [← hq]; exact Nat.le_trans (Nat.div_le_self _ _) (by omega)
  have HP : Hid ((spP n k j : Int) = (q : Int) - 1) := Lib.hid (by omega)
  have w5 : IntKind.i64.wrap ((q : Int) - 1) = (q : Int) - 1 := IntWalk.i64_in _ (by omega)
  have w6 : IntKind.i64.wrap ((k : Int) - 1) = (k : Int) - 1 := IntWalk.i64_in _ (by omega)
  have g0 : (0 : Int) ≤ ((m + k - 1 : Nat) : Int) := by omega
  generalize spP n k j = P at *
  clear hm hm2 hone hlt hp hq
  generalize m + k - 1 = M at *
  go_enter Tryd.func33, Tryd.ntmps33
  go_wp2_with fail
  refine (H1.out _).mono ?_
  rintro e w1 ⟨rfl, rfl⟩
  go_wp2_with fail
  refine (H2.out _).mono ?_
  rintro e w1 ⟨rfl, rfl⟩
  go_wp2
  go_ret2
  exact ⟨by rw [HP.out]; simp, rfl⟩
/-- rests and letters of the word of eight boxes and three bands -/
def rsM (i : Nat) : Nat := 3 * i % 8
def ltM (i : Nat) : UInt8 := if 8 ≤ rsM i + 3 then 98 else 97
def wdM (i : Nat) : List UInt8 := (List.range i).map ltM
theorem wdM_next (i : Nat) : wdM (i + 1) = wdM i ++ [ltM i] := by rw [wdM, List.range_succ, List.map_append]; rfl
theorem rsM_next (i : Nat) : rsM (i + 1) = if 8 ≤ rsM i + 3 then rsM i + 3 - 8 else rsM i + 3 := by
  by_cases h : 8 ≤ rsM i + 3
  · rw [if_pos h]
    simp only [rsM] at *
    omega
  · rw [if_neg h]
    simp only [rsM] at *
    omega
theorem wdM_len (i : Nat) : (wdM i).length = i := by simp [wdM]
theorem wdM_cells (i : Nat) : (Lib.byteCells (wdM i)).length = i := by rw [Lib.byteCells_length, wdM_len]
theorem wdM_all : wdM 8 = [97, 97, 98, 97, 97, 98, 97, 98] := by decide
set_option maxHeartbeats 2000000 in
theorem Make_c (w : World) : Calls Tryd.prog 77 #[.int .i64 8, .int .i64 3] w fun e w' => e = .returned (.tuple #[.string ⟨#[97, 97, 98, 97, 97, 98, 97, 98]⟩, .int .i64 0]) ∧ Below w.heap.size w w' := by
  have H1 := Lib.hid (fun w => given_ok 8 3 w (by omega) (by omega) (by omega))
  go_enter Tryd.func77, Tryd.ntmps77
  go_wp2_with fail
  refine (H1.out _).mono ?_
  rintro e w1 ⟨rfl, rfl⟩
  go_wp2_with fail
  have hB0 : Lib.IsBuilder 144 5 w.heap.size w.heap.size (Lib.byteCells (wdM 0)) (w.alloc (.cells #[.pointer none, .slice none 0 0] 144)) := Lib.fresh_isBuilder 144 5 w
  have hb0 : Below w.heap.size w (w.alloc (.cells #[.pointer none, .slice none 0 0] 144)) := (Below.refl _ w).alloc (Nat.le_refl _) _
  generalize (w.alloc (.cells #[.pointer none, .slice none 0 0] 144)) = W at *
  go_loopw [17, 8] (fun vi vr wr => ∃ i : Nat, i ≤ 8 ∧ vi = .int .i64 (i : Int) ∧ vr = .int .i64 (rsM i : Int) ∧ Hid (Lib.IsBuilder 144 5 w.heap.size w.heap.size (Lib.byteCells (wdM i)) wr) ∧ Below w.heap.size w wr) (fun vi _ _ => 8 - (intOf vi).toNat)
  case atStart => exact ⟨0, by omega, rfl, rfl, Lib.hid hB0, hb0⟩
  case round =>
    clear hB0 hb0
    obtain ⟨i, hi, rfl, rfl, hB, hk⟩ := hrel
    have w9 : IntKind.i64.wrap ((i : Int) + 1) = (i : Int) + 1 := IntWalk.i64_in _ (by omega)
    by_cases hlt : i < 8
    · have q1 : (i : Int) < 8 := by omega
      have hr8 : rsM i < 8 := Nat.mod_lt _ (by omega)
      have w8 : IntKind.i64.wrap ((rsM i : Int) + 3) = (rsM i : Int) + 3 := IntWalk.i64_in _ (by omega)
      have hcl := wdM_cells i
      have hnx := rsM_next i
      have hwn := wdM_next i
      by_cases hf : 8 ≤ rsM i + 3
      · have hl : ltM i = 98 := by rw [ltM, if_pos hf]
        rw [if_pos hf] at hnx
        rw [hl] at hwn
        have w7 : IntKind.i64.wrap ((rsM i : Int) + 3 - 8) = (rsM (i + 1) : Int) := by rw [IntWalk.i64_in _ (by omega)]; omega
        have q2 : (8 : Int) ≤ (rsM i : Int) + 3 := by omega
        have HR := Lib.hid (bRune_any w.heap.size w.heap.size (Lib.byteCells (wdM i)) 98 wr hB.out (by omega) (by omega) (by omega) hk.size)
        have HN : Hid (Lib.byteCells (wdM i) ++ [.int .u8 98] = Lib.byteCells (wdM (i + 1))) := Lib.hid (by rw [hwn, Lib.byteCells_append]; rfl)
        obtain ⟨r', hr'⟩ : ∃ r', rsM (i + 1) = r' := ⟨_, rfl⟩
        rw [hr'] at w7
        have HX := Lib.hid hr'
        generalize rsM i = r at *
        clear hcl hnx hwn hl hf hr'
        go_wp2_with fail
        refine HR.out.mono ?_
        rintro e w2 ⟨rfl, h2, b2⟩
        rw [HN.out] at h2
        have k2 := hk.trans b2
        have HB2 := Lib.hid h2
        clear h2 HN HR hB
        go_wp2_with fail
        exact ⟨⟨i + 1, by omega, by go_num, by rw [HX.out], HB2, k2⟩, by simp [intOf]; omega⟩
      · have hl : ltM i = 97 := by rw [ltM, if_neg hf]
        rw [if_neg hf] at hnx
        rw [hl] at hwn
        have w7 : (rsM i : Int) + 3 = (rsM (i + 1) : Int) := by omega
        have q2 : (rsM i : Int) + 3 < 8 := by omega
        have HR := Lib.hid (bRune_any w.heap.size w.heap.size (Lib.byteCells (wdM i)) 97 wr hB.out (by omega) (by omega) (by omega) hk.size)
        have HN : Hid (Lib.byteCells (wdM i) ++ [.int .u8 97] = Lib.byteCells (wdM (i + 1))) := Lib.hid (by rw [hwn, Lib.byteCells_append]; rfl)
        obtain ⟨r', hr'⟩ : ∃ r', rsM (i + 1) = r' := ⟨_, rfl⟩
        rw [hr'] at w7
        have HX := Lib.hid hr'
        have HW7 := Lib.hid w7
        clear w7
        generalize rsM i = r at *
        clear hcl hnx hwn hl hf hr'
        go_wp2_with fail
        refine HR.out.mono ?_
        rintro e w2 ⟨rfl, h2, b2⟩
        rw [HN.out] at h2
        have k2 := hk.trans b2
        have HB2 := Lib.hid h2
        clear h2 HN HR hB
        go_wp2_with fail
        exact ⟨⟨i + 1, by omega, by go_num, by rw [HX.out, HW7.out], HB2, k2⟩, by simp [intOf]; omega⟩
    · obtain rfl : i = 8 := by omega
      have HS := Lib.hid (bString_any w.heap.size w.heap.size (wdM 8) wr hB.out (by rw [wdM_all]; simp))
      clear hB
      go_wp2_with fail
      refine HS.out.mono ?_
      rintro e w2 ⟨rfl, b2⟩
      rw [wdM_all]
      have k2 := hk.trans b2
      go_wp2
      go_ret2
      exact ⟨rfl, k2⟩
set_option maxHeartbeats 1000000 in
theorem bandWorks_any (w : World) (hT : Tab w) : Calls Tryd.prog 34 #[] w fun e w' => e = .returned (.bool true) ∧ Below w.heap.size w w' := by
  have HT := Lib.hid hT
  clear hT
  go_enter Tryd.func34, Tryd.ntmps34
  go_wp2_with fail
  refine (Make_c _).mono ?_
  rintro e w1 ⟨rfl, b1⟩
  go_wp2_with fail
  refine (benchWorks_any _ (HT.out.below b1)).mono ?_
  rintro e w2 ⟨rfl, b2⟩
  have k2 := b1.trans (b2.mono b1.size)
  go_wp2_with fail
  go_ret
  exact ⟨rfl, k2⟩
end Go.Proofs.YtpfaoagddgcmbaaDoor
