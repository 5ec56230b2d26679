/- Law of chapter 11: StoreCounted. -/
import Derived.Test.YtjedmiegcbdedaaXd
import Derived.Test.YtjedmiegcbdedaaLr
namespace Go.Proofs.Ytjedmiegcbdedaa
open Go.RowKit Store11

theorem heap_new (w : World) (o : Obj) (k : Nat) (h : k = w.heap.size) : (w.alloc o).heap[k]? = some o := by
  subst h; show (w.heap.push o)[w.heap.size]? = _; simp
theorem heap_old (w : World) (o : Obj) (k : Nat) (h : k < w.heap.size) : (w.alloc o).heap[k]? = w.heap[k]? := by
  show (w.heap.push o)[k]? = _; rw [Array.getElem?_push, if_neg (by omega)]
set_option maxHeartbeats 4000000 in
set_option maxRecDepth 100000 in
theorem StoreCounted_u (b : Int) (w : World) (hb : 0 ≤ b ∧ b ≤ 255) : Calls Try.prog 9 #[.int .u8 b] w fun e w' => e = .returned (.bool true) ∧ Below w.heap.size w w' := by
  obtain ⟨n, hn, hn1, hn8⟩ : ∃ n : Nat, 1 + b % 7 = (n : Int) ∧ 1 ≤ n ∧ n < 8 := ⟨(1 + b % 7).toNat, by omega, by omega, by omega⟩
  obtain ⟨q1, q2, q3, q4, q5, q6⟩ := count_all n hn8 hn1
  have hin : ∀ k, 1 ≤ k → k ≤ n → intoV (n : Int) (k : Int) = (histN n (allL n).length k : Nat) ∧ intoE (n : Int) (k : Int) = 0 := fun k h1 h2 =>
    ⟨(hist_all n hn8 hn1 k (by omega) h1 h2).symm, by rw [intoE, if_pos (by omega)]⟩
  obtain ⟨L, hL⟩ : ∃ L, (allL n).length = L := ⟨_, rfl⟩
  rw [hL] at q1 q2 q4 hin
  have HIN := Lib.hid hin
  have QC := Lib.hid q1.symm
  have QE := Lib.hid q3
  have QA := Lib.hid q4
  have Q5 := Lib.hid q5
  have Q6 := Lib.hid q6
  have QL : Hid (atL n L = []) := Lib.hid (by rw [atL, if_neg (by rw [q4]; decide)])
  obtain ⟨v5, hv5⟩ : ∃ v, intoV (n : Int) ((n : Int) + 1) = v := ⟨_, rfl⟩
  obtain ⟨v6, hv6⟩ : ∃ v, intoV (n : Int) 0 = v := ⟨_, rfl⟩
  have V5 := Lib.hid hv5
  have V6 := Lib.hid hv6
  have HL := Lib.hid hL
  clear q1 q3 q4 q5 q6 hv5 hv6 hL hin
  obtain ⟨W, hW⟩ : ∃ W, (((w.alloc (.cells #[.int .i64 (n : Int)] 3)).alloc (.cells #[.int .i64 0] 3)).alloc (.cells #[.int .i64 0, .int .i64 0, .int .i64 0, .int .i64 0, .int .i64 0, .int .i64 0, .int .i64 0, .int .i64 0] 52)).alloc (.cells #[.bool true] 4) = W := ⟨_, rfl⟩
  have K0 : CntH n w.heap.size 52 (0 : Nat) 0 W := by
    subst hW
    refine ⟨by simp, ?_, ?_, ?_, ?_⟩
    · rw [heap_old _ _ _ (by simp; omega), heap_old _ _ _ (by simp; omega), heap_old _ _ _ (by simp), heap_new _ _ _ rfl]
    · rw [heap_old _ _ _ (by simp <;> omega), heap_old _ _ _ (by simp), heap_new _ _ _ (by simp)]
      try rfl
    · rw [heap_old _ _ _ (by simp), heap_new _ _ _ (by simp)]
      try rfl
    · rw [heap_new _ _ _ (by simp)]
  have B0 : Below w.heap.size w W := by
    subst hW
    exact ((((Below.refl _ w).alloc (Nat.le_refl _) _).alloc (by simp) _).alloc (by simp; omega) _).alloc (by simp; omega) _
  have K0 := Lib.hid K0
  have B0 := Lib.hid B0
  have HW := Lib.hid hW
  clear hW
  go_enter Try.func9, Try.ntmps9
  go_wp2_with fail
  rw [HW.out]
  refine (all_any n (w.heap.size + 4) 50 #[.pointer (some ⟨w.heap.size + 1, 0, none⟩), .pointer (some ⟨w.heap.size + 3, 0, none⟩), .pointer (some ⟨w.heap.size, 0, none⟩), .pointer (some ⟨w.heap.size + 2, 0, none⟩)]
    (fun i w' => CntH n w.heap.size 52 i i w' ∧ Below w.heap.size w w') (by omega) (fun args w => rfl)
    (Lib.hid fun i w1 w2 h hb => ⟨h.1.step hb, h.2.trans (hb.mono (by omega))⟩)
    (Lib.hid fun i l w1 a m c hl hI h hx _ => cnt1_any w n w.heap.size 52 hn8 hn1 (Nat.le_refl _) i l w1 a m c hl hI.1 hI.2 h hx)
    W K0.out.sz ⟨K0.out, B0.out⟩).mono ?_
  rintro e w2 ⟨rfl, ⟨K2, B2⟩, _⟩
  rw [HL.out] at K2
  have z0 := K2.k0
  have KK2 := Lib.hid K2
  clear K2
  go_wp2_with fail
  go_loopw [7] (fun vk wr => ∃ k : Nat, 1 ≤ k ∧ k ≤ n + 1 ∧ vk = .int .i64 (k : Int) ∧ Hid (CntH n w.heap.size 52 (L : Nat) L wr) ∧ Below w.heap.size w wr) (fun vk _ => 20 - (intOf vk).toNat)
  case atStart => exact ⟨1, by omega, by omega, rfl, KK2, B2⟩
  case round =>
    clear B2 KK2 z0
    obtain ⟨k, hk1, hk, rfl, HK, hb2⟩ := hrel
    have z0 := HK.out.k0
    by_cases hkn : k ≤ n
    · have q0 : (k : Int) ≤ (n : Int) := by omega
      obtain ⟨q, hq⟩ : ∃ q, histN n L k = q := ⟨_, rfl⟩
      have hh := HIN.out k hk1 hkn
      rw [hq] at hh
      have HQ := Lib.hid hq
      have HH := Lib.hid hh
      have k8 : (k : Int) < 8 := by omega
      have k88 : k < 8 := by omega
      have e1 : ((q : Int) != (q : Int)) = false := by simp
      clear hh hq
      go_wp2_with fail
      refine (Into_c _ _ _ HH.out.1 HH.out.2).mono ?_
      rintro e w3 ⟨rfl, b3⟩
      have hK := HK.out.new b3
      have z1 : w3.cell? ⟨w.heap.size + 1 + 1, k, none⟩ = some (.int .i64 (q : Nat)) := by rw [← HQ.out]; exact hK.k2 k88
      have K3 := Lib.hid hK
      have B3 := hb2.trans (b3.mono hb2.size)
      clear hK HK b3 hb2 z0
      go_wp2
      go_roundw
      case rel => first | exact ⟨k + 1, by omega, by omega, by go_num, K3, B3⟩ | ((repeat apply Exists.intro); exact ⟨⟨k + 1, by omega, by omega, by go_num, K3, B3⟩, rfl⟩)
      case measure => simp [intOf]; omega
    · obtain rfl : k = n + 1 := by omega
      have z1 : wr.cell? ⟨w.heap.size + 1, 0, none⟩ = some (.int .i64 (L : Nat)) := HK.out.k1
      go_wp2_with fail
      refine (Count_c _ _ QC.out QE.out).mono ?_
      rintro e w3 ⟨rfl, b3⟩
      have k3 := HK.out.new b3
      have B3 := hb2.trans (b3.mono hb2.size)
      clear HK b3 hb2 z0 z1
      have z0 := k3.k0
      have z1 : w3.cell? ⟨w.heap.size + 1, 0, none⟩ = some (.int .i64 (L : Nat)) := k3.k1
      go_wp2_with fail
      refine (At_c _ _ _ QL.out QA.out).mono ?_
      rintro e w4 ⟨a4, m4, c4, rfl, l4, b4⟩
      have k4 := k3.new b4
      have B4 := B3.trans (b4.mono B3.size)
      clear k3 B3 b4 z0 z1 l4
      have z0 := k4.k0
      go_wp2_with fail
      refine (Into_c _ _ _ V5.out Q5.out).mono ?_
      rintro e w5 ⟨rfl, b5⟩
      have k5 := k4.new b5
      have B5 := B4.trans (b5.mono B4.size)
      clear k4 B4 b5 z0
      have z0 := k5.k0
      go_wp2_with fail
      refine (Into_c _ _ _ V6.out Q6.out).mono ?_
      rintro e w6 ⟨rfl, b6⟩
      have k6 := k5.new b6
      have B6 := B5.trans (b6.mono B5.size)
      clear k5 B5 b6 z0
      have z1 : w6.cell? ⟨w.heap.size + 1, 0, none⟩ = some (.int .i64 (L : Nat)) := k6.k1
      have z3 : w6.cell? ⟨w.heap.size + 1 + 1 + 1, 0, none⟩ = some (.bool true) := k6.k3
      go_wp2_with fail
      refine (works_any _).mono ?_
      rintro e w7 ⟨rfl, b7⟩
      have B7 := B6.trans (b7.mono B6.size)
      clear B6 b7 z1 z3
      go_wp2
      go_ret
      exact ⟨rfl, B7⟩
theorem StoreCounted_any (a0 : Int) (w0 : (Lit.int .u8 a0).wf = true) (w : World) : Calls Try.prog 9 #[.int .u8 a0] w fun e w' => e = .returned (.bool true) ∧ Below w.heap.size w w' :=
  StoreCounted_u a0 w (u8_bounds w0)
end Go.Proofs.Ytjedmiegcbdedaa
