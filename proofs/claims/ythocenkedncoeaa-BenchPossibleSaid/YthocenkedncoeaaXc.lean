/- Walks of chapter 06: BenchPossible's closure, a whole order (2). -/
import Derived.Test.YthocenkedncoeaaXb
namespace Go.Proofs.Ythocenkedncoeaa
open Go.RowKit Go.ChangeMaps Bench06
/-- what holds of an order that is tried -/
structure LeafO (n : Nat) (l : List Int) : Prop where
  len : l.length = n
  bd : ∀ y ∈ l, 0 ≤ y ∧ y < (n : Int)
  chk : checkL l = 0
  rlen : (remL l).length = n
  rbd : ∀ i, i < n → 0 ≤ (remL l).getD i 0 ∧ (remL l).getD i 0 < (n : Int)
  met : metF n (lcmTo n) (padP l) = if (countL l).2 = 0 then some (countL l).1 else none
  yes : (countL l).2 = 0 → 1 ≤ (countL l).1 ∧ (countL l).1 ≤ lcmTo n ∧ ∀ i, i < n → (remL l).getD i 0 = (countL l).1 % ((n : Int) - i)
  no : (countL l).2 ≠ 0 → countL l = (0, 12) ∧ clash1 n (remL l) n = true
theorem smP_get {n : Nat} {l : List Int} (h : smP n l = true) : l.length = n ∧ ∀ y ∈ l, 0 ≤ y ∧ y < (n : Int) := by
  unfold smP at h
  rw [Bool.and_eq_true, beq_iff_eq, List.all_eq_true] at h
  exact ⟨h.1, fun y hy => by have := h.2 y hy; simpa using this⟩
theorem leaf_of {n : Nat} {l : List Int} (hn : n < 7) (h1 : 1 ≤ n) (hl : l ∈ allP n) : LeafO n l := by
  have hp := List.all_eq_true.1 (poss_all n hn h1) l hl
  unfold possB at hp
  simp only [Bool.and_eq_true, beq_iff_eq] at hp
  obtain ⟨⟨⟨p1, p2⟩, p3⟩, p4⟩ := hp
  obtain ⟨q1, q2⟩ := smP_get p1
  obtain ⟨q3, q4⟩ := smP_get p3
  refine ⟨q1, q2, p2, q3, fun i hi => ?_, met_leaf hn h1 hl, fun h0 => ?_, fun h0 => ?_⟩
  · refine q4 _ ?_
    rw [List.getD, List.getElem?_eq_getElem (by omega)]
    exact List.getElem_mem _
  · rw [if_pos h0] at p4
    simp only [Bool.and_eq_true, decide_eq_true_eq, List.all_eq_true, List.mem_range] at p4
    exact ⟨p4.1.1.1, p4.1.1.2, fun i hi => p4.2 i hi⟩
  · rw [if_neg h0] at p4
    simpa using p4
theorem l60 (n : Nat) (hn : n < 7) (h1 : 1 ≤ n) : lcmTo n ≤ 60 := (lcm_small n hn h1).2

set_option maxHeartbeats 8000000 in
set_option maxRecDepth 100000 in
theorem poss_yes (g m x p q n N sz : Nat) (a : Option Addr) (c : Nat) (l : List Int) (w : World) (hn : n < 7) (h1 : 1 ≤ n) (hO : LeafO n l) (hS : PoS g m x p q n N sz (metF n (lcmTo n)) w) (hL : IsL w a n c l) (hX : ∀ y, a = some y → y.block ≠ p) (h0 : (countL l).2 = 0) :
    Calls Try.prog 39 #[.slice a n c, .pointer (some ⟨g, 0, none⟩), .pointer (some ⟨q, 0, none⟩), .pointer (some ⟨p, 0, none⟩), .pointer (some ⟨x, 0, none⟩)] w fun e w2 => e = .returned (.tuple #[]) ∧ w.grownBy w2 (some p) ∧ ArrV VP w2 p 4 [.bool true] := by
  have hle := hL.le
  have hcap := hL.cap
  have h60 := l60 n hn h1
  obtain ⟨k1, k2, k3⟩ := hO.yes h0
  have hmet := hO.met
  rw [if_pos h0] at hmet
  obtain ⟨k, hk⟩ : ∃ k : Nat, (countL l).1 = (k : Int) := ⟨(countL l).1.toNat, by omega⟩
  rw [hk] at k1 k2 k3 hmet
  have hcl : countL l = ((k : Int), 0) := by rw [← hk, ← h0]
  obtain ⟨y0, y1, y2, y3, y4, y5, hy⟩ := pad_six (l := l) (by rw [hO.len]; omega)
  have hkey := pad_ok hO.len (by omega) hO.bd
  rw [hy] at hmet hkey
  have hpad := pad_splice l (by rw [hO.len]; omega)
  rw [hy] at hpad
  obtain ⟨b, o, rfl, hb0, _⟩ := hL.cells (by omega)
  have C4 : ∀ j v, (l.map (Value.int .i64))[j]? = some v → w.cell? ((⟨b, o, none⟩ : Addr).add j) = some v := news_of_isL hL
  have C4' : Hid (∀ j v, (l.map (Value.int .i64))[j]? = some v → (w.alloc (.cells #[.int .i64 0, .int .i64 0, .int .i64 0, .int .i64 0, .int .i64 0, .int .i64 0] 43)).cell? ((⟨b, o, none⟩ : Addr).add j) = some v) := Lib.hid (fun j v hv => by
    have := C4 j v hv
    rw [((Below.refl w.heap.size w).alloc (Nat.le_refl _) _).cell (World.block_lt_of_cell? w _ this)]
    exact this)
  have C1 : Hid ((l.map (Value.int .i64)).length = Nat.min n 6) := Lib.hid (by rw [List.length_map, hO.len]; exact (Nat.min_eq_left (by omega)).symm)
  have C2 : Hid (0 + (l.map (Value.int .i64)).length ≤ (List.replicate 6 (Value.int .i64 0)).length) := Lib.hid (by rw [List.length_map, hO.len, List.length_replicate]; omega)
  have C3 : Hid (∀ v ∈ l.map (Value.int .i64), v.oneCell' = true) := Lib.hid (by intro v hv; obtain ⟨z, _, rfl⟩ := List.mem_map.1 hv; rfl)
  have HP := Lib.hid hpad
  have HM := Lib.hid hmet
  have HK := Lib.hid hkey
  have HO := Lib.hid hO
  have HCL := Lib.hid hcl
  have HR := Lib.hid k3
  have HL := Lib.hid hL
  have HS := Lib.hid hS
  have z1 := cellP hS.hn 0 rfl
  have gb := hS.hn.lt
  clear hO hS hL hpad hmet hkey hcl k3 hy hk C4 hX h0
  go_enter Try.func39, Try.ntmps39
  go_wp2_with (refine wpList_copy_splice rfl (.tmp 41) (.tmp 42) 22 22 rfl 3 Try.underlying22 cells3r (some ⟨w.heap.size, 0, none⟩) (some ⟨b, o, none⟩) 6 6 n c rfl rfl w.heap.size 0 (List.replicate 6 (Value.int .i64 0)) 43 (heap_alloc_new w _) (l.map (Value.int .i64)) C1.out (fun _ => ⟨rfl, ⟨b, o, none⟩, rfl, C4'.out⟩) C2.out C3.out w.heap.size w ((Below.refl w.heap.size w).alloc (Nat.le_refl _) _) (Nat.le_refl _) ?_)
  intro w2 hw2 b2
  have hA2 : ArrV (Value.int .i64) w2 w.heap.size 43 [y0, y1, y2, y3, y4, y5] := by
    have := hw2.out; rw [HP.out] at this; exact this
  clear hw2 C1 C2 C3 C4' z1
  go_wp2_with fail
  refine (Count_ok _ _ _ _ _ (HL.out.below b2) HO.out.chk).mono ?_
  rintro e w3 ⟨rfl, b3⟩
  rw [HCL.out]
  have k3 := b2.trans (b3.mono b2.size)
  have A3 := hA2.below b3
  clear b2 b3 hA2
  go_wp2_with fail
  refine (Remainders_ok _ _ _ _ _ (HL.out.below k3) HO.out.chk).mono ?_
  rintro e w4 ⟨ar, cr, rfl, or4, b4⟩
  have k4 := k3.trans (b4.mono k3.size)
  have A4 := A3.below b4
  have r4 := or4.isL
  have S4 := HS.out.new k4
  clear k3 b4 A3 or4
  have hlt : w.heap.size < w4.heap.size := A4.lt
  have x0 := A4.cell 0 0 (by simp)
  have x1 := A4.cell 1 0 (by simp)
  have x2 := A4.cell 2 0 (by simp)
  have x3 := A4.cell 3 0 (by simp)
  have x4 := A4.cell 4 0 (by simp)
  have x5 := A4.cell 5 0 (by simp)
  simp only [List.getD, List.getElem?_cons_zero, List.getElem?_cons_succ, Option.getD_some] at x0 x1 x2 x3 x4 x5
  have z1 := cellP S4.hn 0 rfl
  have z2 := cellP S4.hx 0 rfl
  have z3 := cellP S4.hg 0 rfl
  have z4 := S4.hg.frozen 0
  have hlk : (Instr.lookup 40 (.map (some m)) (.agg #[.int .i64 y0, .int .i64 y1, .int .i64 y2, .int .i64 y3, .int .i64 y4, .int .i64 y5]) false).run Try.prog w4 = .ok (.int .i64 (k : Int)) w4 := by
    have := MapF.run Try.underlying40 Try.underlying3 (by rfl) S4.hm [y0, y1, y2, y3, y4, y5] HK.out
    rw [HM.out] at this
    exact this
  have q1 : (0 : Int) < (k : Int) := by omega
  have q2 : ((k : Int) == (k : Int)) = true := by simp
  have q3 : ((n : Int) != (n : Int)) = false := by simp
  go_wp2_with fail
  rw [set_same S4.hg]
  clear x0 x1 x2 x3 x4 x5 z1 z2 z3 z4 hlk q2 q3
  have hcr := r4.le
  have hcrc := r4.cap
  have K4 := Lib.hid k4
  have S4' := Lib.hid S4
  have A4' := Lib.hid A4
  have R4' := Lib.hid r4
  clear S4 A4 r4 k4
  go_loopw [80] (fun vi wr => ∃ i : Nat, i ≤ n ∧ vi = .int .i64 (i : Int) ∧ Below w4.heap.size w4 wr) (fun vi _ => n - (intOf vi).toNat)
  case atStart => exact ⟨0, by omega, rfl, Below.refl _ _⟩
  case round =>
    obtain ⟨i, hi, rfl, hb⟩ := hrel
    have S5 := S4'.out.new hb
    have A5 := A4'.out.below hb
    have r5 := R4'.out.below hb
    by_cases hlt : i < n
    · have q4 : (i : Int) < (n : Int) := by omega
      obtain ⟨rb, ro, rfl, _, hrc⟩ := r5.cells (by omega)
      have y6 := hrc i hlt
      have hrv := HR.out i hlt
      have hrb := HO.out.rbd i hlt
      obtain ⟨v, hv⟩ : ∃ v : Nat, (remL l).getD i 0 = (v : Int) := ⟨((remL l).getD i 0).toNat, by omega⟩
      rw [hv] at y6 hrv
      have e1 : (k : Int) % ((n : Int) - (i : Int)) = (v : Int) := hrv.symm
      have e2 : IntKind.i64.wrap ((n : Int) - (i : Int)) = (n : Int) - (i : Int) := IntWalk.i64_in _ (by omega)
      have e3 : ((n : Int) - (i : Int) == 0) = false := by simp; omega
      have e4 : ((v : Int) == (v : Int)) = true := by simp
      have x0 := A5.cell 0 0 (by simp)
      have x1 := A5.cell 1 0 (by simp)
      have x2 := A5.cell 2 0 (by simp)
      have x3 := A5.cell 3 0 (by simp)
      have x4 := A5.cell 4 0 (by simp)
      have x5 := A5.cell 5 0 (by simp)
      simp only [List.getD, List.getElem?_cons_zero, List.getElem?_cons_succ, Option.getD_some] at x0 x1 x2 x3 x4 x5
      have z1 := cellP S5.hn 0 rfl
      have z2 := cellP S5.hx 0 rfl
      have z3 := cellP S5.hg 0 rfl
      have z4 := S5.hg.frozen 0
      have hlk : (Instr.lookup 40 (.map (some m)) (.agg #[.int .i64 y0, .int .i64 y1, .int .i64 y2, .int .i64 y3, .int .i64 y4, .int .i64 y5]) false).run Try.prog wr.drew = .ok (.int .i64 (k : Int)) wr.drew := by
        have := MapF.run Try.underlying40 Try.underlying3 (by rfl) S5.hm.drew [y0, y1, y2, y3, y4, y5] HK.out
        rw [HM.out] at this
        exact this
      have HE : Hid (wr.setCell ⟨p, 0, none⟩ (.bool true) = wr) := Lib.hid (set_same S5.hg)
      have hb6 := hb.drew
      clear hrc hv hrv hrb S5 A5 r5
      go_wp2_with fail
      go_region
      all_goals (
        rw [HE.out]
        go_wp2_with fail
        go_roundw
        case rel => first | exact ⟨i + 1, by omega, by go_num, hb6⟩ | ((repeat apply Exists.intro); exact ⟨⟨i + 1, by omega, by go_num, hb6⟩, rfl⟩)
        case measure => simp [intOf]; omega)
    · obtain rfl : i = n := by omega
      have hg := grown_trans (grown_of_below (r := some p) K4.out) (grown_of_below hb)
      have hz := S5.hg
      clear S5 A5 r5
      go_wp2_with fail
      (try simp only [Exit.inBlock, Exit.then])
      refine bodyPost_ret (results_none rfl _ _ _) rfl ?_
      exact ⟨rfl, hg, hz⟩
end Go.Proofs.Ythocenkedncoeaa
