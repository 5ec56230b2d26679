/- Walks of chapter 1 at the top seat: Serves, Ways. -/
import Derived.Test.YtpfaoagddgcmbaaDoorDg
import Derived.Handy
import Derived.Laws.ResultCell
namespace Go.Proofs.YtpfaoagddgcmbaaDoor
open Go.RowKit Dock01
set_option maxRecDepth 100000
theorem srv1_no (x y : Int) (w : World) : Calls Tryd.prog 105 #[.iface 96 (.agg #[.int .i64 x, .int .i64 y])] w fun e w' => e = .returned (.bool false) ∧ Below w.heap.size w w' := by
  go_enter Tryd.func105, Tryd.ntmps105
  go_wp2
  go_ret
  exact ⟨rfl, (Below.refl _ w).alloc (Nat.le_refl _) _⟩
set_option maxHeartbeats 1000000 in
theorem idxF_no (a : Option Addr) (n c B : Nat) (F : List (Option (Nat × Nat))) (w : World) (h : OwnG fateV w 94 B a n c F) (hF : servesL F = true) (hn : n ≤ 1000) :
    Calls Tryd.prog 118 #[.slice a n c, .func (.func 105) #[] #[]] w fun e w' => e = .returned (.int .i64 (-1)) ∧ Below w.heap.size w w' := by
  have HH := Lib.hid h
  have HL : Hid (F.length = n) := Lib.hid h.len
  have HS := Lib.hid hF
  clear h hF
  go_enter Tryd.func118, Tryd.ntmps118
  go_wp2_with fail
  go_loopw [8] (fun vi wr => ∃ i : Nat, i ≤ n ∧ vi = .int .i64 (i : Int) ∧ Below w.heap.size w wr) (fun vi _ => n - (intOf vi).toNat)
  case atStart => exact ⟨0, by omega, rfl, Below.refl _ _⟩
  case round =>
    obtain ⟨i, hi, rfl, hb⟩ := hrel
    have w1 : IntKind.i64.wrap ((i : Int) + 1) = (i : Int) + 1 := IntWalk.i64_in _ (by omega)
    by_cases hlt : i < n
    · have q1 : (i : Int) < (n : Int) := by omega
      have hk := HH.out.below hb
      obtain ⟨g, rfl⟩ := hk.addr (by omega)
      obtain ⟨k1, k2⟩ := hk.cell i none hlt
      obtain ⟨k3, k4⟩ := hk.caps
      have hsm : (F.getD i none).isSome = true := by
        have h1 := HS.out
        rw [servesL, List.all_eq_true] at h1
        have hi2 : i < F.length := by rw [HL.out]; exact hlt
        rw [List.getD, List.getElem?_eq_getElem hi2]
        exact h1 _ (List.getElem_mem hi2)
      obtain ⟨p, hp⟩ := Option.isSome_iff_exists.1 hsm
      rw [hp] at k1
      simp only [fateV] at k1
      clear hsm hp hk k2
      go_wp2_with fail
      refine (srv1_no _ _ _).mono ?_
      rintro e w2 ⟨rfl, b2⟩
      have hb2 := hb.trans (b2.mono hb.size)
      go_wp2_with fail
      exact ⟨⟨i + 1, by omega, by go_num, hb2⟩, by simp [intOf]; omega⟩
    · obtain rfl : i = n := by omega
      go_wp2
      go_ret
      exact ⟨rfl, hb⟩
theorem hasF_no (a : Option Addr) (n c B : Nat) (F : List (Option (Nat × Nat))) (w : World) (h : OwnG fateV w 94 B a n c F) (hF : servesL F = true) (hn : n ≤ 1000) :
    Calls Tryd.prog 104 #[.slice a n c, .func (.func 105) #[] #[]] w fun e w' => e = .returned (.bool false) ∧ Below w.heap.size w w' := by
  have HC := Lib.hid (idxF_no a n c B F w h hF hn)
  go_enter Tryd.func104, Tryd.ntmps104
  go_wp2_with fail
  refine HC.out.mono ?_
  rintro e w1 ⟨rfl, b1⟩
  go_wp2
  go_ret
  exact ⟨rfl, b1⟩
theorem served_yes (a : Option Addr) (n c B : Nat) (F : List (Option (Nat × Nat))) (w : World) (h : OwnG fateV w 94 B a n c F) (hF : servesL F = true) (hn : n ≤ 1000) :
    Calls Tryd.prog 62 #[.slice a n c] w fun e w' => e = .returned (.bool true) ∧ Below w.heap.size w w' := by
  have HC := Lib.hid (hasF_no a n c B F w h hF hn)
  go_enter Tryd.func62, Tryd.ntmps62
  go_wp2_with fail
  refine HC.out.mono ?_
  rintro e w1 ⟨rfl, b1⟩
  go_wp2
  go_ret
  exact ⟨rfl, b1⟩
theorem Serves_yes (a : Option Addr) (n c bays : Nat) (l : List Int) (w : World) (hT : Tab w) (h : IsL w a n c l) (hb1 : 1 ≤ bays) (hb8 : bays ≤ 8) (hn : n ≤ bays) (hl : InL l ((bays : Int) - 1)) (hS : servesL (fatesL bays l) = true) :
    Calls Tryd.prog 19 #[.int .i64 (bays : Int), .slice a n c] w fun e w' => e = .returned (.tuple #[.bool true, .int .i64 0]) ∧ Below w.heap.size w w' := by
  have HC := Lib.hid (comes_any a n c bays l w hT h hb1 hb8 hn hl)
  have HS := Lib.hid hS
  clear h hl hT hS
  go_enter Tryd.func19, Tryd.ntmps19
  go_wp2_with fail
  refine HC.out.mono ?_
  rintro e w1 ⟨af, cf, rfl, hF, b1⟩
  go_wp2_with fail
  refine (served_yes af n cf _ _ w1 hF HS.out (by omega)).mono ?_
  rintro e w2 ⟨rfl, b2⟩
  go_wp2
  go_ret2
  exact ⟨rfl, b1.trans (b2.mono b1.size)⟩
def fillB (t b : Nat) : Bool := (bits BinOp.and IntKind.u64 ((t : Int) / (2 : Int) ^ b) 1 == if t.testBit b then 1 else 0) && (bits BinOp.or IntKind.u64 (t : Int) (IntKind.u64.wrap ((2 : Int) ^ b)) == ((t ||| 2 ^ b : Nat) : Int)) && decide (t ||| 2 ^ b < 256)
theorem fill_all : ∀ t, t < 256 → ∀ b, b < 8 → fillB t b = true := by decide +kernel
theorem fill_at {t b : Nat} (ht : t < 256) (hb : b < 8) : bits BinOp.and IntKind.u64 ((t : Int) / (2 : Int) ^ b) 1 = (if t.testBit b then 1 else 0) ∧ bits BinOp.or IntKind.u64 (t : Int) (IntKind.u64.wrap ((2 : Int) ^ b)) = ((t ||| 2 ^ b : Nat) : Int) ∧ t ||| 2 ^ b < 256 := by
  have := fill_all t ht b hb
  simp only [fillB, Bool.and_eq_true, decide_eq_true_eq, beq_iff_eq] at this
  exact ⟨this.1.1, this.1.2, this.2⟩
theorem took_lt {l : List Int} (hl : InL l 7) : ∀ k, k ≤ l.length → tookK l k < 256
  | 0, _ => by rw [tookK]; decide
  | k + 1, hk => by
    have := hl k (by omega)
    exact (fill_at (took_lt hl k (by omega)) (b := (l.getD k 0).toNat) (by omega)).2.2
theorem took_bit (l : List Int) (b : Nat) : ∀ k, (tookK l k).testBit b = true → ∃ j, j < k ∧ (l.getD j 0).toNat = b
  | 0, h => by simp [tookK] at h
  | k + 1, h => by
    rw [tookK, Nat.testBit_or, Bool.or_eq_true, Nat.testBit_two_pow] at h
    rcases h with h | h
    · obtain ⟨j, hj, e⟩ := took_bit l b k h
      exact ⟨j, by omega, e⟩
    · exact ⟨k, by omega, by simpa using h⟩
theorem backT_bound (t : Nat) : ∀ b, 1 ≤ backT t b ∧ backT t b ≤ b + 1
  | 0 => by simp [backT]
  | b + 1 => by have := backT_bound t b; rw [backT]; split <;> omega
theorem waysK_bound {l : List Int} (hl : InL l 7) : ∀ k, k ≤ l.length → 1 ≤ waysK l k ∧ waysK l k ≤ 8 ^ k
  | 0, _ => by simp [waysK]
  | k + 1, hk => by
    have h1 := waysK_bound hl k (by omega)
    have h2 := backT_bound (tookK l k) (l.getD k 0).toNat
    have h3 := hl k (by omega)
    rw [waysK]
    refine ⟨Nat.mul_pos h1.1 h2.1, ?_⟩
    rw [Nat.pow_succ]
    exact Nat.mul_le_mul h1.2 (by omega)
set_option maxHeartbeats 1000000 in
theorem back_any (bays t b : Nat) (w : World) (ht : t < 256) (hb : b < 8) :
    Calls Tryd.prog 65 #[.agg #[.int .i64 (bays : Int), .int .u64 (t : Int)], .int .i64 (b : Int)] w fun e w' => e = .returned (.int .i64 (backT t b : Int)) ∧ Below w.heap.size w w' := by
  have w0 : IntKind.i64.wrap ((b : Int) - 1) = (b : Int) - 1 := IntWalk.i64_in _ (by omega)
  go_enter Tryd.func65, Tryd.ntmps65
  go_wp2_with fail
  have hb0 : Below w.heap.size w (w.alloc (.cells #[.int .i64 (bays : Int), .int .u64 (t : Int)] 101)) := (Below.refl _ w).alloc (Nat.le_refl _) _
  go_loopw [1, 5] (fun vb vn wr => ∃ (k n : Nat), k ≤ b ∧ vb = .int .i64 ((k : Int) - 1) ∧ vn = .int .i64 (n : Int) ∧ Hid (n + backT t k = backT t b + 1) ∧ n ≤ 10 ∧ w.alloc (.cells #[.int .i64 (bays : Int), .int .u64 (t : Int)] 101) = wr) (fun vb _ _ => ((intOf vb) + 1).toNat)
  case atStart => exact ⟨b, 1, Nat.le_refl _, rfl, rfl, Lib.hid (by omega), by omega, rfl⟩
  case round =>
    obtain ⟨k, n, hk, rfl, rfl, hI, hn, rfl⟩ := hrel
    have hbd := backT_bound t b
    have hI0 := hI.out
    cases k with
    | zero =>
      have HR : Hid ((backT t b : Int) = (n : Int)) := Lib.hid (by rw [backT] at hI0; omega)
      clear hI0
      have q : ¬ (0 : Int) ≤ -1 := by omega
      go_wp2
      go_ret
      exact ⟨by rw [HR.out]; rfl, hb0⟩
    | succ j =>
      obtain ⟨f1, _, _⟩ := fill_at ht (b := j) (by omega)
      have e1 : ((j + 1 : Nat) : Int) - 1 = (j : Int) := by omega
      rw [e1]
      have q0 : (0 : Int) ≤ (j : Int) := by omega
      rw [backT] at hI0
      by_cases hx : t.testBit j = true
      · rw [if_pos hx] at f1 hI0
        have hbk := backT_bound t j
        have w1 : IntKind.i64.wrap ((j : Int) - 1) = (j : Int) - 1 := IntWalk.i64_in _ (by omega)
        have w2 : IntKind.i64.wrap ((n : Int) + 1) = (n : Int) + 1 := IntWalk.i64_in _ (by omega)
        have HI2 : Hid ((n + 1) + backT t j = backT t b + 1) := Lib.hid (by omega)
        have hn2 : n + 1 ≤ 10 := by omega
        clear hI0 hI hbk hbd
        go_wp2_with fail
        exact ⟨⟨j, n + 1, by omega, rfl, by go_num, HI2, hn2, by simp⟩, by simp [intOf]⟩
      · rw [if_neg hx] at f1 hI0
        have HR : Hid ((backT t b : Int) = (n : Int)) := Lib.hid (by omega)
        clear hI0
        go_wp2
        go_ret
        exact ⟨by rw [HR.out]; rfl, hb0⟩
set_option maxHeartbeats 4000000 in
theorem filled_ok (a : Option Addr) (n c bays : Nat) (l : List Int) (w : World) (h : IsL w a n c l) (hb1 : 1 ≤ bays) (hb8 : bays ≤ 8) (hn : n ≤ bays) (hl : InL l ((bays : Int) - 1)) (hN : l.Nodup) :
    Calls Tryd.prog 64 #[.int .i64 (bays : Int), .slice a n c] w fun e w' => ∃ t : Nat, e = .returned (.tuple #[.agg #[.int .i64 (bays : Int), .int .u64 (t : Int)], .int .i64 0]) ∧ Below w.heap.size w w' := by
  have HH := Lib.hid h
  have hle := h.le
  have hcap := h.cap
  have HL : Hid (l.length = n) := Lib.hid h.len
  have HI := Lib.hid hl
  have HI7 : Hid (InL l 7) := Lib.hid (fun i hi => by have := hl i hi; omega)
  have HW := Lib.hid (fun w => within_any (bays : Int) 1 8 w true (by simp; omega))
  have HN : Hid (∀ i, i < n → (tookK l i).testBit (l.getD i 0).toNat = false) := Lib.hid (fun i hi => by
    cases hx : (tookK l i).testBit (l.getD i 0).toNat with
    | false => rfl
    | true =>
      exfalso
      obtain ⟨j, hj, e⟩ := took_bit l _ i hx
      have hln := h.len
      have h1 := hl i (by omega)
      have h2 := hl j (by omega)
      have e2 : l.getD j 0 = l.getD i 0 := by omega
      have hjl : j < l.length := by omega
      have hil : i < l.length := by omega
      rw [List.getD, List.getD, List.getElem?_eq_getElem hjl, List.getElem?_eq_getElem hil] at e2
      have := (List.getElem_inj hN).1 (by simpa using e2)
      omega)
  clear h hl hN
  have w0 : IntKind.i64.wrap ((bays : Int) - 1) = (bays : Int) - 1 := IntWalk.i64_in _ (by omega)
  go_enter Tryd.func64, Tryd.ntmps64
  go_wp2_with fail
  refine (HW.out _).mono ?_
  rintro e w1 ⟨rfl, rfl⟩
  go_wp2_with fail
  have hb0 : Below w.heap.size w ((w.alloc (.cells #[.int .i64 0, .int .u64 0] 101)).alloc (.cells #[.int .i64 (bays : Int), .int .u64 0] 101)) := ((Below.refl _ w).alloc (Nat.le_refl _) _).alloc (by simp) _
  have hA00 : RowV (w.alloc (.cells #[.int .i64 0, .int .u64 0] 101)) w.heap.size 0 0 := ArrV.new _ _ _ _ _ rfl rfl
  have hA0 : RowV ((w.alloc (.cells #[.int .i64 0, .int .u64 0] 101)).alloc (.cells #[.int .i64 (bays : Int), .int .u64 0] 101)) w.heap.size 0 0 := hA00.alloc _
  have hR0 : RowV ((w.alloc (.cells #[.int .i64 0, .int .u64 0] 101)).alloc (.cells #[.int .i64 (bays : Int), .int .u64 0] 101)) (w.heap.size + 1) bays 0 := ArrV.new _ _ _ _ _ (by simp) rfl
  generalize ((w.alloc (.cells #[.int .i64 0, .int .u64 0] 101)).alloc (.cells #[.int .i64 (bays : Int), .int .u64 0] 101)) = w2 at *
  go_loopw [17] (fun vi wr => ∃ (i : Nat), i ≤ n ∧ vi = .int .i64 (i : Int) ∧ Hid (RowV wr w.heap.size 0 0) ∧ Hid (RowV wr (w.heap.size + 1) bays (tookK l i)) ∧ Below w.heap.size w wr) (fun vi _ => n - (intOf vi).toNat)
  case atStart => exact ⟨0, by omega, rfl, Lib.hid hA0, Lib.hid hR0, hb0⟩
  case round =>
    clear hA0 hR0 hb0
    obtain ⟨i, hi, rfl, hA, hR, hb⟩ := hrel
    have w9 : IntKind.i64.wrap ((i : Int) + 1) = (i : Int) + 1 := IntWalk.i64_in _ (by omega)
    by_cases hlt : i < n
    · have q1 : (i : Int) < (n : Int) := by omega
      have hk := HH.out.below hb
      obtain ⟨b', o', rfl, hbl, hcell⟩ := hk.cells (by omega)
      have c1 := hcell i hlt
      obtain ⟨h1, h2⟩ := HI.out i (by rw [HL.out]; exact hlt)
      have htn := HN.out i hlt
      have htl := took_lt HI7.out i (by rw [HL.out]; omega)
      have hnext : tookK l (i + 1) = tookK l i ||| 2 ^ (l.getD i 0).toNat := rfl
      obtain ⟨x, hx⟩ : ∃ x : Nat, l.getD i 0 = (x : Int) := ⟨(l.getD i 0).toNat, by omega⟩
      rw [hx] at c1 h2 htn hnext
      rw [Int.toNat_natCast] at htn hnext
      have HNX := Lib.hid hnext
      have HC2 := Lib.hid (fun w => within_any (x : Int) 0 ((bays : Int) - 1) w true (by simp; omega))
      have hx8 : x < 8 := by omega
      have hx64 : (x : Int) < 64 := by omega
      obtain ⟨f1, f2, f3⟩ := fill_at htl (b := x) (by omega)
      rw [htn] at f1
      have c2 : wr.cell? ⟨w.heap.size + 1, 1, none⟩ = some (.int .u64 (tookK l i : Int)) := cellT hR.out 1 rfl
      have c3 := ArrV.frozen hR.out 1
      have f1' : bits BinOp.and IntKind.u64 ((tookK l i : Int) / (2 : Int) ^ x) 1 = 0 := f1
      generalize tookK l i = t at *
      clear hk hcell h1 h2 hx hnext htn f1
      go_wp2_with fail
      refine (HC2.out _).mono ?_
      rintro e w3 ⟨rfl, rfl⟩
      go_wp2_with fail
      go_region
      go_wp2_with fail
      refine ⟨⟨i + 1, by omega, by go_num, Lib.hid ?_, Lib.hid ?_, ?_⟩, by simp [intOf]; omega⟩
      · first | exact ArrV.other hA.out.drew (by simp) _ | exact (ArrV.other hA.out (by simp) _).drew
      · rw [HNX.out]
        first | exact (ArrV.set hR.out.drew 1 (VT (.int .u64 ((t ||| 2 ^ x : Nat) : Int)))) | exact (ArrV.set hR.out 1 (VT (.int .u64 ((t ||| 2 ^ x : Nat) : Int)))).drew
      · first | exact (hb.drew).setCell (by simp) _ | exact (hb.setCell (by simp) _).drew
    · obtain rfl : i = n := by omega
      have c2 : wr.cell? ⟨w.heap.size + 1, 1, none⟩ = some (.int .u64 (tookK l i : Int)) := cellT hR.out 1 rfl
      have c3 : wr.cell? ⟨w.heap.size + 1, 0, none⟩ = some (.int .i64 (bays : Int)) := cellT hR.out 0 rfl
      have c4 := ArrV.frozen hA.out 1
      have c5 := ArrV.frozen hA.out 0
      have c6 : wr.cell? ⟨w.heap.size, 1, none⟩ = some (.int .u64 0) := cellT hA.out 1 rfl
      have c7 : wr.cell? ⟨w.heap.size, 0, none⟩ = some (.int .i64 0) := cellT hA.out 0 rfl
      generalize tookK l i = t at *
      go_wp2
      have hb7 : Below w.heap.size w ((wr.setCell ⟨w.heap.size, 0, none⟩ (.int .i64 (bays : Int))).setCell ⟨w.heap.size, 1, none⟩ (.int .u64 (t : Int))) := (hb.setCell (by simp) _).setCell (by simp) _
      have hA7 : RowV ((wr.setCell ⟨w.heap.size, 0, none⟩ (.int .i64 (bays : Int))).setCell ⟨w.heap.size, 1, none⟩ (.int .u64 (t : Int))) w.heap.size bays t := ((ArrV.set hA.out 0 (VT (.int .i64 (bays : Int)))).set 1 (VT (.int .u64 (t : Int))))
      generalize ((wr.setCell ⟨w.heap.size, 0, none⟩ (.int .i64 (bays : Int))).setCell ⟨w.heap.size, 1, none⟩ (.int .u64 (t : Int))) = W at *
      have d1 : W.cell? ⟨w.heap.size, 0, none⟩ = some (.int .i64 (bays : Int)) := cellT hA7 0 rfl
      have d2 : W.cell? ⟨w.heap.size, 1, none⟩ = some (.int .u64 (t : Int)) := cellT hA7 1 rfl
      refine bodyPost_ret (v := .tuple #[.agg #[.int .i64 (bays : Int), .int .u64 (t : Int)], .int .i64 0]) ?_ rfl ⟨t, rfl, hb7⟩
      rw [results_cell_tmp rfl]
      simp [go_sem, d1, d2]
end Go.Proofs.YtpfaoagddgcmbaaDoor
