/- Walks of chapter 1 at the top seat: Ways. -/
import Derived.Test.YtpfaoagddgcmbaaDoorDh
namespace Go.Proofs.YtpfaoagddgcmbaaDoor
open Go.RowKit Dock01
set_option maxRecDepth 100000
set_option maxHeartbeats 4000000 in
theorem Ways_any (a : Option Addr) (n c bays : Nat) (l : List Int) (w : World) (h : IsL w a n c l) (hb1 : 1 ≤ bays) (hb8 : bays ≤ 8) (hn : n ≤ bays) (hl : InL l ((bays : Int) - 1)) (hN : l.Nodup) :
    Calls Tryd.prog 23 #[.int .i64 (bays : Int), .slice a n c] w fun e w' => e = .returned (.tuple #[.int .i64 (waysK l n : Int), .int .i64 0]) ∧ Below w.heap.size w w' := by
  have HH := Lib.hid h
  have hle := h.le
  have hcap := h.cap
  have HL : Hid (l.length = n) := Lib.hid h.len
  have HI := Lib.hid hl
  have HI7 : Hid (InL l 7) := Lib.hid (fun i hi => by have := hl i hi; omega)
  have HW := Lib.hid (fun w => within_any (bays : Int) 1 8 w true (by simp; omega))
  have HF := Lib.hid (fun (w : World) h => filled_ok a n c bays l w h hb1 hb8 hn hl hN)
  have qn : ¬ (bays : Int) < (n : Int) := by omega
  clear h hl hN
  go_enter Tryd.func23, Tryd.ntmps23
  go_wp2_with fail
  refine (HW.out _).mono ?_
  rintro e w1 ⟨rfl, rfl⟩
  go_wp2_with fail
  have hb0 : Below w.heap.size w (w.alloc (.cells #[.int .i64 (bays : Int), .int .u64 0] 101)) := (Below.refl _ w).alloc (Nat.le_refl _) _
  have hR0 : RowV (w.alloc (.cells #[.int .i64 (bays : Int), .int .u64 0] 101)) w.heap.size bays 0 := ArrV.new _ _ _ _ _ rfl rfl
  generalize (w.alloc (.cells #[.int .i64 (bays : Int), .int .u64 0] 101)) = w2 at *
  refine (HF.out w2 (HH.out.below hb0)).mono ?_
  rintro e w3 ⟨t3, rfl, b3⟩
  have hR3 := hR0.below b3
  have hb3 := hb0.trans (b3.mono hb0.size)
  have hs3 := hb3.size
  clear hb0 hR0 b3 HF
  go_wp2_with fail
  have hR4 := ArrV.alloc hR3 (.cells #[.int .i64 (bays : Int), .int .u64 (t3 : Int)] 101)
  have hb4 := hb3.alloc hs3 (.cells #[.int .i64 (bays : Int), .int .u64 (t3 : Int)] 101)
  generalize (w3.alloc (.cells #[.int .i64 (bays : Int), .int .u64 (t3 : Int)] 101)) = w4 at *
  go_loopw [34, 9] (fun vi vo wr => ∃ (i : Nat), i ≤ n ∧ vi = .int .i64 (i : Int) ∧ vo = .int .i64 (waysK l i : Int) ∧ Hid (RowV wr w.heap.size bays (tookK l i)) ∧ Below w.heap.size w wr) (fun vi _ _ => n - (intOf vi).toNat)
  case atStart => exact ⟨0, by omega, rfl, rfl, Lib.hid hR4, hb4⟩
  case round =>
    clear hR4 hb4
    obtain ⟨i, hi, rfl, rfl, hR, hb⟩ := hrel
    have w9 : IntKind.i64.wrap ((i : Int) + 1) = (i : Int) + 1 := IntWalk.i64_in _ (by omega)
    by_cases hlt : i < n
    · have q1 : (i : Int) < (n : Int) := by omega
      have hk := HH.out.below hb
      obtain ⟨b', o', rfl, hbl, hcell⟩ := hk.cells (by omega)
      have c1 := hcell i hlt
      obtain ⟨h1, h2⟩ := HI.out i (by rw [HL.out]; exact hlt)
      have htl := took_lt HI7.out i (by rw [HL.out]; omega)
      have hnext : tookK l (i + 1) = tookK l i ||| 2 ^ (l.getD i 0).toNat := rfl
      have hwn : waysK l (i + 1) = waysK l i * backT (tookK l i) (l.getD i 0).toNat := rfl
      obtain ⟨v1, v2⟩ := waysK_bound HI7.out (i + 1) (by rw [HL.out]; omega)
      have v3 : 8 ^ (i + 1) ≤ 8 ^ 8 := Nat.pow_le_pow_right (by omega) (by omega)
      have v4 : (8 : Nat) ^ 8 = 16777216 := by decide
      obtain ⟨x, hx⟩ : ∃ x : Nat, l.getD i 0 = (x : Int) := ⟨(l.getD i 0).toNat, by omega⟩
      rw [hx] at c1 h2 hnext hwn
      rw [Int.toNat_natCast] at hnext hwn
      have HNX := Lib.hid hnext
      have hx8 : x < 8 := by omega
      have hx64 : (x : Int) < 64 := by omega
      have HB := Lib.hid (fun w => back_any bays (tookK l i) x w htl hx8)
      obtain ⟨f1, f2, f3⟩ := fill_at htl hx8
      have c2 : wr.cell? ⟨w.heap.size, 1, none⟩ = some (.int .u64 (tookK l i : Int)) := cellT hR.out 1 rfl
      have c0 : wr.cell? ⟨w.heap.size, 0, none⟩ = some (.int .i64 (bays : Int)) := cellT hR.out 0 rfl
      have wm : IntKind.i64.wrap ((waysK l i : Int) * (backT (tookK l i) x : Int)) = (waysK l (i + 1) : Int) := by
        rw [hwn, Int.natCast_mul]
        refine IntWalk.i64_in _ ?_
        rw [← Int.natCast_mul, ← hwn]
        omega
      generalize tookK l i = t at *
      obtain ⟨M, hM⟩ : ∃ M, waysK l (i + 1) = M := ⟨_, rfl⟩
      have HM := Lib.hid hM
      rw [hM] at wm
      clear hM
      generalize waysK l i = m at *
      generalize backT t x = bk at *
      clear hk hcell h1 h2 hx hnext f1 v3 v4 hwn v1 v2
      go_wp2_with fail
      refine (HB.out _).mono ?_
      rintro e w5 ⟨rfl, b5⟩
      have hR5 := hR.out.below b5
      have hb5 := hb.trans (b5.mono hb.size)
      have c3 : w5.cell? ⟨w.heap.size, 1, none⟩ = some (.int .u64 (t : Int)) := cellT hR5 1 rfl
      have c4 := ArrV.frozen hR5 1
      clear c2 c0 b5
      go_wp2_with fail
      go_region
      go_wp2_with fail
      refine ⟨⟨i + 1, by omega, by go_num, by rw [HM.out], Lib.hid ?_, ?_⟩, by simp [intOf]; omega⟩
      · rw [HNX.out]
        first | exact (ArrV.set hR5.drew 1 (VT (.int .u64 ((t ||| 2 ^ x : Nat) : Int)))) | exact (ArrV.set hR5 1 (VT (.int .u64 ((t ||| 2 ^ x : Nat) : Int)))).drew
      · first | exact (hb5.drew).setCell (by simp) _ | exact (hb5.setCell (by simp) _).drew
    · obtain rfl : i = n := by omega
      go_wp2
      go_ret2
      exact ⟨rfl, hb⟩
end Go.Proofs.YtpfaoagddgcmbaaDoor
