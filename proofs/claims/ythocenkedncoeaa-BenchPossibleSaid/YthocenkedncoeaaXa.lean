/- Walks of chapter 06: the smallest common number; the blocks of BenchPossible. -/
import Derived.Test.YthocenkedncoeaaWj
import Derived.Test.YthocenkedncoeaaWl
import Derived.Test.YthocenkedncoeaaPq
import Derived.Test.YthocenkedncoeaaLib8
import Derived.Test.YthocenkedncoeaaLibA
namespace Go.Proofs.Ythocenkedncoeaa
open Go.RowKit Bench06

set_option maxHeartbeats 4000000 in
set_option maxRecDepth 100000 in
theorem common_any (n : Nat) (w : World) (h1 : 1 ≤ n) (h6 : n < 7) : Calls Try.prog 37 #[.int .i64 n] w fun e w' => e = .returned (.int .i64 (lcmTo n : Nat)) ∧ Below w.heap.size w w' := by
  have HL : Hid (∀ x : Nat, 1 ≤ x → x < lcmTo n → cmB x (n + 1) = false) := Lib.hid (fun x hx hl => cm_less h6 h1 hl hx)
  have HT := Lib.hid (cm_all n h6 h1).1
  obtain ⟨hl1, hl2⟩ := lcm_small n h6 h1
  obtain ⟨L, hL⟩ : ∃ L, lcmTo n = L := ⟨_, rfl⟩
  rw [hL] at HL HT hl1 hl2 ⊢
  clear hL
  go_enter Try.func37, Try.ntmps37
  go_wp2
  go_loopw [3] (fun vo wr => ∃ o : Nat, 1 ≤ o ∧ o ≤ L ∧ vo = .int .i64 (o : Int) ∧ Below w.heap.size w wr) (fun vo _ => L + 1 - (intOf vo).toNat)
  case atStart => exact ⟨1, by omega, by omega, rfl, Below.refl _ _⟩
  case round =>
    obtain ⟨o, ho1, hoL, rfl, hb⟩ := hrel
    have H0 : Hid (cmB o 2 = true) := Lib.hid (by unfold cmB; simp [List.range_succ])
    go_wp2
    go_loopw [5, 4] (fun vm vg wr => ∃ (m : Nat) (G : Bool), 2 ≤ m ∧ m ≤ n + 2 ∧ vm = .int .i64 (m : Int) ∧ vg = .bool G ∧ (n + 1 < m → n = 1 ∧ m = 2) ∧ Hid (cmB o m = G) ∧ Below w.heap.size w wr) (fun vm _ _ => n + 3 - (intOf vm).toNat)
    case atStart => exact ⟨2, true, by omega, by omega, rfl, rfl, by omega, H0, hb⟩
    case round =>
      clear hb
      obtain ⟨m, G, hm2, hmn, rfl, rfl, hnm, hG, hb⟩ := hrel
      by_cases hlt : m ≤ n
      · have HS := Lib.hid (cmB_succ o m hm2)
        have q1 : (m : Int) ≤ (n : Int) := by omega
        have hz : ((m : Int) == 0) = false := by simp; omega
        cases G with
        | false =>
          have HN : Hid (cmB o (m + 1) = false) := Lib.hid (by rw [HS.out, hG.out]; rfl)
          go_wp2
          go_roundw
          case rel => exact ⟨m + 1, false, by omega, by omega, by go_num, rfl, by omega, HN, hb⟩
          case measure => simp [intOf]; omega
        | true =>
          obtain ⟨r, hr, hr0⟩ : ∃ r : Nat, (o : Int) % (m : Int) = (r : Int) ∧ o % m = r := ⟨o % m, by simp, rfl⟩
          by_cases h0 : r = 0
          · have HN : Hid (cmB o (m + 1) = true) := Lib.hid (by rw [HS.out, hG.out, hr0, h0]; rfl)
            have e0 : ((r : Int) == 0) = true := by simp; omega
            clear hr0 h0
            go_wp2
            go_roundw
            case rel => exact ⟨m + 1, true, by omega, by omega, by go_num, rfl, by omega, HN, hb⟩
            case measure => simp [intOf]; omega
          · have HN : Hid (cmB o (m + 1) = false) := Lib.hid (by rw [HS.out, hG.out, hr0]; simp [h0])
            have e0 : ((r : Int) == 0) = false := by simp; omega
            clear hr0 h0
            go_wp2
            go_roundw
            case rel => exact ⟨m + 1, false, by omega, by omega, by go_num, rfl, by omega, HN, hb⟩
            case measure => simp [intOf]; omega
      · obtain rfl : m = n + 1 := by omega
        cases G with
        | true =>
          have ho : o = L := by
            rcases Nat.lt_or_ge o L with hl | hl
            · have := HL.out o ho1 hl
              rw [hG.out] at this
              cases this
            · omega
          subst ho
          go_wp2
          go_ret
          exact ⟨rfl, hb⟩
        | false =>
          have ho : o ≠ L := by
            rintro rfl
            have := HT.out
            rw [hG.out] at this
            cases this
          go_wp2
          go_roundw
          case rel => exact ⟨o + 1, by omega, by omega, by go_num, hb⟩
          case measure => simp [intOf]; omega
end Go.Proofs.Ythocenkedncoeaa
