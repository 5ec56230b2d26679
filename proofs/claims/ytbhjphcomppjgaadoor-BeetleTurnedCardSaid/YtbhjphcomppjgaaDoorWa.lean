/- Walks of chapter 9: sets of bales. -/
import Derived.Test.YtbhjphcomppjgaaDoorRows
import Derived.Test.YtbhjphcomppjgaaDoorLib8
import Derived.Test.YtbhjphcomppjgaaDoorPd
import Derived.IntWalk
import Derived.Laws.BitsAllLaws
import Derived.Shelf.Spec.TrailingZeros
namespace Go.Proofs.YtbhjphcomppjgaaDoor
open Go.RowKit Beetle09

theorem elem3 : (Tryd.prog.info? 3).map (fun i => (i.zero, i.size, i.bytes)) = some (some (.int .i64 0), 1, 8) := by kernel_rfl
theorem list_any (a : Option Addr) (n c : Nat) (w : World) : Calls Tryd.prog 42 #[.slice a n c] w fun e w' => e = .returned (.slice a n c) ∧ w = w' := by
  go_enter Tryd.func42, Tryd.ntmps42
  go_wp2
  go_ret
  exact ⟨rfl, rfl⟩
/-- 1 << x, as the walk writes it -/
theorem pow_facts (x : Nat) (hx : x < 25) : ∃ P : Nat, P = 2 ^ x ∧ P ≤ 16777216 ∧ (2 : Int) ^ x = (P : Int) ∧ IntKind.u32.wrap (P : Int) = (P : Int) ∧ (P : Int) % 4294967296 = (P : Int) := by
  have h1 : (2 : Nat) ^ x ≤ 2 ^ 24 := Nat.pow_le_pow_right (by omega) (by omega)
  have h3 : (2 : Nat) ^ 24 = 16777216 := by decide
  obtain ⟨P, hP⟩ : ∃ P, 2 ^ x = P := ⟨_, rfl⟩
  have e1 : (2 : Int) ^ x = (P : Int) := by rw [← hP, Int.natCast_pow]; rfl
  rw [hP] at h1
  refine ⟨P, hP.symm, by omega, e1, ?_, by omega⟩
  rw [wrap_u32']; omega
theorem bit_shr (s y : Nat) : (s / 2 ^ y) &&& 1 = if s.testBit y then 1 else 0 := by
  rw [Nat.and_one_is_mod, Nat.testBit_eq_decide_div_mod_eq]
  have := Nat.mod_two_eq_zero_or_one (s / 2 ^ y)
  by_cases h : s / 2 ^ y % 2 = 1
  · simp [h]
  · have h0 : s / 2 ^ y % 2 = 0 := by omega
    simp [h0]
/-- s >> y & 1, as the walk writes it -/
theorem shr_facts (s y : Nat) (hs : s < 4294967296) (hy : y < 25) : ∃ V d e : Nat, V = 2 ^ y ∧ V ≤ 16777216 ∧ (2 : Int) ^ y = (V : Int) ∧ (s : Int) / (V : Int) = (d : Int) ∧ bits .and .u32 (d : Int) 1 = (e : Int) ∧ ((e : Int) == 1) = s.testBit y := by
  obtain ⟨V, hV, hV1, f1, f2, _⟩ := pow_facts y hy
  have hd : s / V ≤ s := Nat.div_le_self _ _
  refine ⟨V, s / V, (s / V) &&& 1, hV, hV1, f1, by rw [Int.natCast_ediv], u32_and_nat (s / V) 1 (by omega) (by omega), ?_⟩
  rw [hV, bit_shr]
  cases s.testBit y <;> rfl
set_option maxHeartbeats 1000000 in
theorem has_any (s n : Nat) (w : World) (hs : s < 4294967296) (hn : n < 25) (B : Bool) (hB : s.testBit n = B) : Calls Tryd.prog 56 #[.int .u32 (s : Int), .int .i64 (n : Int)] w fun e w' => e = .returned (.bool B) ∧ w = w' := by
  obtain ⟨V, d, e, hV, hV1, f1, f2, f3, f4⟩ := shr_facts s n hs hn
  rw [hB] at f4
  clear hV hB
  go_enter Tryd.func56, Tryd.ntmps56
  go_wp2_with fail
  go_ret
  exact ⟨rfl, rfl⟩
theorem pop8_nat (a : Nat) (h : a ≤ 255) : ∃ q : Nat, Lib.pop8 (a : Int) = (q : Int) ∧ q ≤ 8 ∧ q = Lib.onesCount a :=
  ⟨Lib.onesCount a, Lib.pop8_eq ⟨a, by omega⟩, Lib.onesCount_le8 ⟨a, by omega⟩, rfl⟩
theorem and255 (m : Nat) (h : m < 4294967296) : bits .and .u32 (m : Int) 255 = ((m % 256 : Nat) : Int) := by
  rw [show (255 : Int) = ((255 : Nat) : Int) from rfl, u32_and_nat m 255 h (by omega)]
  congr 1
  exact Nat.and_two_pow_sub_one_eq_mod m 8
set_option maxHeartbeats 4000000 in
set_option maxRecDepth 100000 in
theorem OnesCount32_any (x : Nat) (w : World) (h : x < 4294967296) : Calls Tryd.prog 81 #[.int .u32 (x : Int)] w fun e w' => e = .returned (.int .i64 (pcN 32 x)) ∧ ∃ m, w' = w.drewN m := by
  obtain ⟨q1, p1, l1, o1⟩ := pop8_nat (x / 16777216) (by omega)
  obtain ⟨q2, p2, l2, o2⟩ := pop8_nat (x / 65536 % 256) (by omega)
  obtain ⟨q3, p3, l3, o3⟩ := pop8_nat (x / 256 % 256) (by omega)
  obtain ⟨q4, p4, l4, o4⟩ := pop8_nat (x % 256) (by omega)
  have HR : Hid (((q1 : Int) + q2 + q3 + q4) = pcN 32 x) := Lib.hid (by rw [pcN_bytes x h, ← o1, ← o2, ← o3, ← o4]; omega)
  have e2 := and255 (x / 65536) (by omega)
  have e3 := and255 (x / 256) (by omega)
  have e4 := and255 x h
  have f1 : (x : Int) / 16777216 = ((x / 16777216 : Nat) : Int) := by omega
  have f2 : (x : Int) / 65536 = ((x / 65536 : Nat) : Int) := by omega
  have f3 : (x : Int) / 256 = ((x / 256 : Nat) : Int) := by omega
  have b1 : x / 16777216 ≤ 255 := by omega
  have b2 : x / 65536 % 256 ≤ 255 := by omega
  have b3 : x / 256 % 256 ≤ 255 := by omega
  have b4 : x % 256 ≤ 255 := by omega
  clear o1 o2 o3 o4 
  generalize x / 16777216 = a1 at *
  generalize x / 65536 % 256 = a2 at *
  generalize x / 65536 = m2 at *
  generalize x / 256 % 256 = a3 at *
  generalize x / 256 = m3 at *
  generalize x % 256 = a4 at *
  have c1 : (a1 : Int) ≤ 255 := by omega
  have c2 : (a2 : Int) ≤ 255 := by omega
  have c3 : (a3 : Int) ≤ 255 := by omega
  have c4 : (a4 : Int) ≤ 255 := by omega
  go_enter Tryd.func81, Tryd.ntmps81
  go_wp2_with fail
  simp only [List.append_eq, List.cons_append, List.nil_append]
  go_quiet (fail)
  go_wp2
  go_ret
  exact ⟨ret_i HR.out, nq, rfl⟩
set_option maxHeartbeats 1000000 in
theorem size_any (x : Nat) (w : World) (h : x < 4294967296) : Calls Tryd.prog 61 #[.int .u32 (x : Int)] w fun e w' => e = .returned (.int .i64 (pcN 32 x)) ∧ ∃ m, w' = w.drewN m := by
  go_enter Tryd.func61, Tryd.ntmps61
  go_wp2_with fail
  refine (OnesCount32_any x w h).mono ?_
  rintro e w1 ⟨rfl, m, rfl⟩
  go_wp2
  go_ret
  exact ⟨rfl, m, rfl⟩
/-- Go's table behind bits.TrailingZeros32 is as it was laid. -/
def Tab (w : World) : Prop := TabAt 0 Lib.deBruijn32tab w
set_option maxHeartbeats 1000000 in
theorem tz_core (x k idx : Nat) (w : World) (hx0 : ((x : Int) == 0) = false) (key : bits BinOp.and IntKind.u32 (x : Int) (-(x : Int) % 4294967296) * 125613361 % 4294967296 / 134217728 = (idx : Int))
    (hi : idx < 32) (hk : k < 32) (hcell : w.cell? ⟨0, idx, none⟩ = some (.int .u8 k)) : Calls Tryd.prog 55 #[.int .u32 (x : Int)] w fun e w' => e = .returned (.int .i64 k) ∧ w = w' := by
  go_enter Tryd.func55, Tryd.ntmps55
  go_wp2_with (simp only [key])
  go_ret
  exact ⟨rfl, rfl⟩
theorem tz_any (x : Nat) (w : World) (hT : Tab w) (hx0 : 0 < x) (hx : x < 4294967296) : Calls Tryd.prog 55 #[.int .u32 (x : Int)] w fun e w' => e = .returned (.int .i64 (Lib.ctz 32 x)) ∧ w = w' := by
  obtain ⟨hlow, hk⟩ := Lib.lowest_bit 32 x (by omega) hx
  obtain ⟨hi, htab⟩ := Lib.deBruijn32_at _ hk
  have hcell := hT _ hi
  rw [htab] at hcell
  exact tz_core x _ _ w (by simp; omega) (tz32_key x _ hx (by omega) hlow) hi hk hcell
end Go.Proofs.YtbhjphcomppjgaaDoor
