/- Walks of chapter 11: Count, Into, At, Number. -/
import Derived.Test.YtjedmiegcbdedaaWk
import Derived.Test.YtjedmiegcbdedaaPb
namespace Go.Proofs.Ytjedmiegcbdedaa
open Go.RowKit Store11

theorem idx70 (n : Nat) (hn : n < 10) (w : World) : (Instr.index 70 (.agg (TRI.map (Value.int .i64)).toArray) (.int .i64 n)).run Try.prog w = .ok (.agg ((rowN n).map (Value.int .i64)).toArray) w := by
  rcases (by omega : n = 0 ∨ n = 1 ∨ n = 2 ∨ n = 3 ∨ n = 4 ∨ n = 5 ∨ n = 6 ∨ n = 7 ∨ n = 8 ∨ n = 9) with rfl | rfl | rfl | rfl | rfl | rfl | rfl | rfl | rfl | rfl <;> kernel_rfl
theorem idx69' (a0 a1 a2 a3 a4 a5 a6 a7 a8 a9 a10 : Int) (k : Nat) (hk : k < 11) (w : World) : (Instr.index 69 (.agg #[.int .i64 a0, .int .i64 a1, .int .i64 a2, .int .i64 a3, .int .i64 a4, .int .i64 a5, .int .i64 a6, .int .i64 a7, .int .i64 a8, .int .i64 a9, .int .i64 a10]) (.int .i64 k)).run Try.prog w = .ok (.int .i64 ([a0, a1, a2, a3, a4, a5, a6, a7, a8, a9, a10].getD k 0)) w := by
  rcases (by omega : k = 0 ∨ k = 1 ∨ k = 2 ∨ k = 3 ∨ k = 4 ∨ k = 5 ∨ k = 6 ∨ k = 7 ∨ k = 8 ∨ k = 9 ∨ k = 10) with rfl | rfl | rfl | rfl | rfl | rfl | rfl | rfl | rfl | rfl | rfl <;> kernel_rfl
theorem idx69 (L : List Int) (hL : L.length = 11) (k : Nat) (hk : k < 11) (w : World) : (Instr.index 69 (.agg (L.map (Value.int .i64)).toArray) (.int .i64 k)).run Try.prog w = .ok (.int .i64 (L.getD k 0)) w := by
  match L, hL with
  | [a0, a1, a2, a3, a4, a5, a6, a7, a8, a9, a10], _ => exact idx69' a0 a1 a2 a3 a4 a5 a6 a7 a8 a9 a10 k hk w

set_option maxHeartbeats 1000000 in
set_option maxRecDepth 100000 in
theorem Count_any (n : Int) (w : World) : Calls Try.prog 23 #[.int .i64 n] w fun e w' => e = .returned (.tuple #[.int .i64 (countV n), .int .i64 (countE n)]) ∧ Below w.heap.size w w' := by
  by_cases hn : 1 ≤ n ∧ n ≤ 9
  · obtain ⟨m, rfl⟩ : ∃ m : Nat, n = m := ⟨n.toNat, by omega⟩
    have hm : m < 10 := by omega
    obtain ⟨hlen, hsum, hget⟩ := rowN_small m hm
    have HS := Lib.hid hsum
    have HL := Lib.hid hlen
    have i1 := idx70 m hm
    have i2 := fun k hk => idx69 (rowN m) hlen k hk
    have I2 := Lib.hid i2
    have HG := Lib.hid hget
    have HV : Hid (countV (m : Int) = (rowN m).sum) := Lib.hid (by rw [countV, if_pos hn]; rfl)
    have HE : Hid (countE (m : Int) = 0) := Lib.hid (by rw [countE, if_pos hn])
    have hn1 := hn.1
    have hn2 := hn.2
    clear i2 hlen hsum hget hn
    generalize rowN m = R at *
    go_enter Try.func23, Try.ntmps23
    go_wp2_with (first
      | (go_at_call 67; refine (ranged_yes _ _ hn1 hn2).mono ?_; rintro e w' ⟨rfl, rfl⟩)
      | (go_at_call 68; refine (tri_any _).mono ?_; rintro e w' ⟨rfl, hb⟩))
    go_loop [4, 13] (fun vo vk => ∃ k : Nat, k ≤ 11 ∧ vk = .int .i64 (k : Int) ∧ vo = .int .i64 ((R.take k).sum)) (fun _ vk => 20 - (intOf vk).toNat)
    case atStart => exact ⟨0, by omega, rfl, rfl⟩
    case round =>
      obtain ⟨k, hk, rfl, rfl⟩ := hrel
      have s1 := HS.out k hk
      by_cases hlt : k < 11
      · have s2 := HG.out k hlt
        have hx := I2.out k hlt
        have HT : Hid ((R.take (k + 1)).sum = (R.take k).sum + R.getD k 0) := Lib.hid (take_sum R k (by rw [HL.out]; exact hlt))
        generalize R.getD k 0 = x at *
        generalize (R.take k).sum = s at *
        go_wp2
        go_round
        case rel => exact ⟨k + 1, by omega, by go_num, by rw [HT.out]⟩
        case measure => simp [intOf]; omega
      · obtain rfl : k = 11 := by omega
        have HF : Hid ((R.take 11).sum = R.sum) := Lib.hid (by rw [List.take_of_length_le (by rw [HL.out]; exact Nat.le_refl _)])
        generalize (R.take 11).sum = s at *
        go_wp2
        go_ret2
        exact ⟨ret_ii (by rw [HF.out, HV.out]) HE.out.symm, hb⟩
  · have HV : Hid (countV n = 0) := Lib.hid (by rw [countV, if_neg hn])
    have HE : Hid (countE n = 1) := Lib.hid (by rw [countE, if_neg hn])
    have HN := Lib.hid hn
    clear hn
    go_enter Try.func23, Try.ntmps23
    go_wp2_with (go_at_call 67; refine (ranged_no _ _ HN.out).mono ?_; rintro e w' ⟨rfl, rfl⟩)
    go_ret2
    exact ⟨ret_ii HV.out.symm HE.out.symm, Below.refl _ _⟩

set_option maxHeartbeats 1000000 in
set_option maxRecDepth 100000 in
theorem Into_any (n k : Int) (w : World) : Calls Try.prog 25 #[.int .i64 n, .int .i64 k] w fun e w' => e = .returned (.tuple #[.int .i64 (intoV n k), .int .i64 (intoE n k)]) ∧ Below w.heap.size w w' := by
  by_cases hn : 1 ≤ n ∧ n ≤ 9
  · have hn1 := hn.1
    have hn2 := hn.2
    by_cases hk : 1 ≤ k ∧ k ≤ n
    · obtain ⟨m, rfl⟩ : ∃ m : Nat, n = m := ⟨n.toNat, by omega⟩
      obtain ⟨j, rfl⟩ : ∃ j : Nat, k = j := ⟨k.toNat, by omega⟩
      have hm : m < 10 := by omega
      obtain ⟨hlen, hsum, hget⟩ := rowN_small m hm
      have i1 := idx70 m hm
      have i2 := idx69 (rowN m) hlen j (by omega)
      have HV : Hid (intoV (m : Int) (j : Int) = (rowN m).getD j 0) := Lib.hid (by rw [intoV, if_pos ⟨hn, hk⟩]; rfl)
      have HE : Hid (intoE (m : Int) (j : Int) = 0) := Lib.hid (by rw [intoE, if_pos ⟨hn, hk⟩])
      have hk1 := hk.1
      have hk2 := hk.2
      clear hlen hsum hget hn hk
      have d1 : decide (((j : Nat) : Int) < 1) = false := by simpa using hk1
      have d2 : decide (((m : Nat) : Int) < ((j : Nat) : Int)) = false := by simpa using hk2
      generalize (rowN m).getD j 0 = x at *
      generalize rowN m = R at *
      go_enter Try.func25, Try.ntmps25
      go_wp2_with (first
        | (go_at_call 67; refine (ranged_yes _ _ hn1 hn2).mono ?_; rintro e w' ⟨rfl, rfl⟩)
        | (go_at_call 68; refine (tri_any _).mono ?_; rintro e w' ⟨rfl, hb⟩))
      go_ret2
      exact ⟨ret_ii HV.out.symm HE.out.symm, hb⟩
    · have HV : Hid (intoV n k = 0) := Lib.hid (by rw [intoV, if_neg (fun h => hk h.2)])
      have HE : Hid (intoE n k = 1) := Lib.hid (by rw [intoE, if_neg (fun h => hk h.2)])
      have hor : k < 1 ∨ (1 ≤ k ∧ n < k) := by omega
      clear hn hk
      rcases hor with h | ⟨h, h'⟩
      · have d1 : decide (k < 1) = true := by simpa using h
        go_enter Try.func25, Try.ntmps25
        go_wp2_with (go_at_call 67; refine (ranged_yes _ _ hn1 hn2).mono ?_; rintro e w' ⟨rfl, rfl⟩)
        go_ret2
        exact ⟨ret_ii HV.out.symm HE.out.symm, Below.refl _ _⟩
      · have d1 : decide (k < 1) = false := by simpa using h
        have d2 : decide (n < k) = true := by simpa using h'
        go_enter Try.func25, Try.ntmps25
        go_wp2_with (go_at_call 67; refine (ranged_yes _ _ hn1 hn2).mono ?_; rintro e w' ⟨rfl, rfl⟩)
        go_ret2
        exact ⟨ret_ii HV.out.symm HE.out.symm, Below.refl _ _⟩
  · have HV : Hid (intoV n k = 0) := Lib.hid (by rw [intoV, if_neg (fun h => hn h.1)])
    have HE : Hid (intoE n k = 1) := Lib.hid (by rw [intoE, if_neg (fun h => hn h.1)])
    have HN := Lib.hid hn
    clear hn
    go_enter Try.func25, Try.ntmps25
    go_wp2_with (go_at_call 67; refine (ranged_no _ _ HN.out).mono ?_; rintro e w' ⟨rfl, rfl⟩)
    go_ret2
    exact ⟨ret_ii HV.out.symm HE.out.symm, Below.refl _ _⟩
end Go.Proofs.Ytjedmiegcbdedaa
