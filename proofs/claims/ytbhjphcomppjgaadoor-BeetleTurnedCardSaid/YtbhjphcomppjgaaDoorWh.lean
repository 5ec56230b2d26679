/- Walks of chapter 9: the outline. -/
import Derived.Test.YtbhjphcomppjgaaDoorWg
import Derived.Test.YtbhjphcomppjgaaDoorPh
namespace Go.Proofs.YtbhjphcomppjgaaDoor
open Go.RowKit Beetle09

/-- What the number of neighbours of a set costs: the walk's facts. -/
theorem near_facts {R C n : Nat} (hs : Sd R C) (hn : n < R * C) (s : Nat) (h32 : s < 4294967296) : ∃ k y c : Nat, (nearN C (R * C)).getD n 0 = k ∧ k < 4294967296 ∧ y = k &&& s ∧ y < 4294967296 ∧ bits .and .u32 (k : Int) (s : Int) = (y : Int) ∧ c = cnt R C s n ∧ c ≤ 4 ∧
    ∀ w, Calls Tryd.prog 61 #[.int .u32 (y : Int)] w fun e w' => e = .returned (.int .i64 (c : Int)) ∧ ∃ m, w' = w.drewN m := by
  have hk : nbS R C n < 4294967296 := Nat.lt_of_lt_of_le (lt25 (nbS_lt hs hn) hs.n25) (by decide)
  have hy : nbS R C n &&& s < 4294967296 := Nat.lt_of_le_of_lt Nat.and_le_left hk
  refine ⟨nbS R C n, nbS R C n &&& s, cnt R C s n, near_at hs hn, hk, rfl, hy, u32_and_nat _ _ hk h32, rfl, cnt_le4 _ _ _ _, fun w => ?_⟩
  have := size_any _ w hy
  rwa [cnt_pc hs hn s] at this
set_option maxHeartbeats 4000000 in
set_option maxRecDepth 100000 in
theorem outline_any (g R C s : Nat) (w : World) (hT : Tab w) (hs : Sd R C) (hF : Flr w g R C (nearN C (R * C))) (hs2 : s < 2 ^ (R * C)) :
    Calls Tryd.prog 69 #[.pointer (some ⟨g, 0, none⟩), .int .u32 (s : Int)] w fun e w' => e = .returned (.int .i64 (outl R C s)) ∧ Below w.heap.size w w' := by
  have n25 := hs.n25
  have h25 := lt25 hs2 n25
  have h32 : s < 4294967296 := Nat.lt_of_lt_of_le h25 (by decide)
  have HO := Lib.hid (outl_els n25 hs2)
  have HLL := Lib.hid (els_len 25 s)
  have HM : Hid (∀ i, i < (els 25 s).length → (els 25 s).getD i 0 < R * C) := Lib.hid fun i hi => by
    have : (els 25 s).getD i 0 ∈ els 25 s := by rw [List.getD, List.getElem?_eq_getElem hi]; exact List.getElem_mem hi
    exact bit_lt hs2 (mem_els.1 this).2
  have HSD := Lib.hid hs
  have hp25 := pcN_le 25 s
  have HC := Lib.hid (list_of s w hT h25)
  obtain ⟨P, hP⟩ : ∃ P, pcN 25 s = P := ⟨_, rfl⟩
  rw [hP] at HC HLL hp25
  clear hs2 h25 hP hs hT
  go_enter Tryd.func69, Tryd.ntmps69
  go_wp2_with fail
  refine HC.out.mono ?_
  rintro e w1 ⟨a, c, rfl, hO, hb1⟩
  have hc1 := hO.isL.cap
  have hle := hO.isL.le
  have hF1 := Lib.hid (ArrV.below hF hb1)
  have HW := Lib.hid hO
  obtain ⟨L, hL⟩ : ∃ L, els 25 s = L := ⟨_, rfl⟩
  rw [hL] at HO HLL HM HW
  clear hL hO hF HC
  go_wp2_with fail
  go_loopw [11, 5] (fun vi vo wr => ∃ (i : Nat) (o : Int), i ≤ P ∧ vi = .int .i64 (i : Int) ∧ vo = .int .i64 o ∧ Hid (outlL R C s (L.take i) = o) ∧ Below w1.heap.size w1 wr) (fun vi _ _ => P - (intOf vi).toNat)
  case atStart => exact ⟨0, 0, by omega, rfl, rfl, Lib.hid rfl, Below.refl _ _⟩
  case round =>
    obtain ⟨i, o, hi, rfl, rfl, hE, hb⟩ := hrel
    have hob := outlL_bd R C s (L.take i)
    rw [hE.out, List.length_take] at hob
    have ho1 : 0 ≤ o := hob.1
    have ho2 : o ≤ 100 := by have := hob.2; omega
    clear hob
    by_cases hlt : i < P
    · have q0 : (i : Int) < (P : Int) := by omega
      have hW1 := HW.out.isL.below hb
      obtain ⟨bb, oo, rfl, _, hc⟩ := hW1.cells (by omega)
      have y1 := hc i hlt
      rw [li_get] at y1
      have hm := HM.out i (by rw [HLL.out]; exact hlt)
      have HT := Lib.hid (outlL_take R C s L i (by rw [HLL.out]; exact hlt))
      obtain ⟨n, hn⟩ : ∃ n, L.getD i 0 = n := ⟨_, rfl⟩
      rw [hn] at y1 hm HT
      have hn25 : n < 25 := by omega
      have q1 : (n : Int) < 25 := by omega
      obtain ⟨k, y, cc, k1, k2, k3, k4, k5, k6, k7, k8⟩ := near_facts HSD.out hm s h32
      have m0 := Flr.near (R := R) (C := C) (ArrV.below hF1.out hb) n (by rw [nearN_len]; exact hn25)
      rw [k1] at m0
      have HT2 : Hid (outlL R C s (L.take (i + 1)) = o + (4 - (cc : Int))) := Lib.hid (by rw [HT.out, hE.out, k6])
      have HC3 := Lib.hid k8
      clear hc hW1 hn k1 k3 k6 k8 HT
      go_wp2_with fail
      refine (HC3.out _).mono ?_
      rintro e w2 ⟨rfl, mm, rfl⟩
      go_wp2_with fail
      go_roundw
      case rel => first | exact ⟨i + 1, o + (4 - (cc : Int)), by omega, by go_num, rfl, HT2, belowN hb _⟩ | ((repeat apply Exists.intro); exact ⟨⟨i + 1, o + (4 - (cc : Int)), by omega, by go_num, rfl, HT2, belowN hb _⟩, rfl⟩)
      case measure => (simp [intOf] <;> omega)
    · obtain rfl : i = P := by omega
      have HR : Hid (o = outl R C s) := Lib.hid (by rw [← hE.out, List.take_of_length_le (by rw [HLL.out]; exact Nat.le_refl _), HO.out])
      go_wp2_with fail
      go_ret
      exact ⟨ret_i HR.out, hb1.trans (hb.mono hb1.size)⟩
end Go.Proofs.YtbhjphcomppjgaaDoor
