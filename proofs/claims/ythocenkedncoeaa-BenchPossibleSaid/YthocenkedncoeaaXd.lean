/- Walks of chapter 06: BenchPossible's closure, an order that is not possible. -/
import Derived.Test.YthocenkedncoeaaXc
namespace Go.Proofs.Ythocenkedncoeaa
open Go.RowKit Go.ChangeMaps Bench06

set_option maxHeartbeats 8000000 in
set_option maxRecDepth 100000 in
theorem poss_no (g m x p q n N sz : Nat) (a : Option Addr) (c : Nat) (l : List Int) (w : World) (hn : n < 7) (h1 : 1 ≤ n) (hO : LeafO n l) (hS : PoS g m x p q n N sz (metF n (lcmTo n)) w) (hL : IsL w a n c l) (hX : ∀ y, a = some y → y.block ≠ p) (h0 : (countL l).2 ≠ 0) :
    Calls Try.prog 39 #[.slice a n c, .pointer (some ⟨g, 0, none⟩), .pointer (some ⟨q, 0, none⟩), .pointer (some ⟨p, 0, none⟩), .pointer (some ⟨x, 0, none⟩)] w fun e w2 => e = .returned (.tuple #[]) ∧ w.grownBy w2 (some p) ∧ ArrV VP w2 p 4 [.bool true] := by
  have hle := hL.le
  have hcap := hL.cap
  have h60 := l60 n hn h1
  obtain ⟨hcl, hcla⟩ := hO.no h0
  have hmet := hO.met
  rw [if_neg h0] at hmet
  obtain ⟨y0, y1, y2, y3, y4, y5, hy⟩ := pad_six (l := l) (by rw [hO.len]; omega)
  have hkey := pad_ok hO.len (by omega) hO.bd
  rw [hy] at hmet hkey
  have hpad := pad_splice l (by rw [hO.len]; omega)
  rw [hy] at hpad
  obtain ⟨b, o, rfl, hb0, _⟩ := hL.cells (by omega)
  have C4 : ∀ j v, (l.map (Value.int .i64))[j]? = some v → w.cell? ((⟨b, o, none⟩ : Addr).add j) = some v := news_of_isL hL
  have C4' : Hid (∀ j v, (l.map (Value.int .i64))[j]? = some v → (w.alloc (.cells #[.int .i64 0, .int .i64 0, .int .i64 0, .int .i64 0, .int .i64 0, .int .i64 0] 43)).cell? ((⟨b, o, none⟩ : Addr).add j) = some v) := Lib.hid (fun j v hv => by
    have := C4 j v hv
    rw [((Below.refl w.heap.size w).alloc (Nat.le_refl _) _).cell (World.block_lt_of_cell? w _ this)]
    exact this)
  have C1 : Hid ((l.map (Value.int .i64)).length = Nat.min n 6) := Lib.hid (by rw [List.length_map, hO.len]; exact (Nat.min_eq_left (by omega)).symm)
  have C2 : Hid (0 + (l.map (Value.int .i64)).length ≤ (List.replicate 6 (Value.int .i64 0)).length) := Lib.hid (by rw [List.length_map, hO.len, List.length_replicate]; omega)
  have C3 : Hid (∀ v ∈ l.map (Value.int .i64), v.oneCell' = true) := Lib.hid (by intro v hv; obtain ⟨z, _, rfl⟩ := List.mem_map.1 hv; rfl)
  have HP := Lib.hid hpad
  have HM := Lib.hid hmet
  have HK := Lib.hid hkey
  have HO := Lib.hid hO
  have HCL := Lib.hid hcl
  have HCB := Lib.hid hcla
  have HL := Lib.hid hL
  have HS := Lib.hid hS
  have z1 := cellP hS.hn 0 rfl
  have gb := hS.hn.lt
  clear hO hS hL hpad hmet hkey hcl hcla hy C4 hX h0
  go_enter Try.func39, Try.ntmps39
  go_wp2_with (refine wpList_copy_splice rfl (.tmp 41) (.tmp 42) 22 22 rfl 3 Try.underlying22 cells3r (some ⟨w.heap.size, 0, none⟩) (some ⟨b, o, none⟩) 6 6 n c rfl rfl w.heap.size 0 (List.replicate 6 (Value.int .i64 0)) 43 (heap_alloc_new w _) (l.map (Value.int .i64)) C1.out (fun _ => ⟨rfl, ⟨b, o, none⟩, rfl, C4'.out⟩) C2.out C3.out w.heap.size w ((Below.refl w.heap.size w).alloc (Nat.le_refl _) _) (Nat.le_refl _) ?_)
  intro w2 hw2 b2
  have hA2 : ArrV (Value.int .i64) w2 w.heap.size 43 [y0, y1, y2, y3, y4, y5] := by
    have := hw2.out; rw [HP.out] at this; exact this
  clear hw2 C1 C2 C3 C4' z1
  go_wp2_with fail
  refine (Count_ok _ _ _ _ _ (HL.out.below b2) HO.out.chk).mono ?_
  rintro e w3 ⟨rfl, b3⟩
  rw [HCL.out]
  have k3 := b2.trans (b3.mono b2.size)
  have A3 := hA2.below b3
  clear b2 b3 hA2
  go_wp2_with fail
  refine (Remainders_ok _ _ _ _ _ (HL.out.below k3) HO.out.chk).mono ?_
  rintro e w4 ⟨ar, cr, rfl, or4, b4⟩
  have k4 := k3.trans (b4.mono k3.size)
  have A4 := A3.below b4
  have r4 := or4.isL
  have S4 := HS.out.new k4
  clear k3 b4 A3 or4
  have hlt : w.heap.size < w4.heap.size := A4.lt
  have x0 := A4.cell 0 0 (by simp)
  have x1 := A4.cell 1 0 (by simp)
  have x2 := A4.cell 2 0 (by simp)
  have x3 := A4.cell 3 0 (by simp)
  have x4 := A4.cell 4 0 (by simp)
  have x5 := A4.cell 5 0 (by simp)
  simp only [List.getD, List.getElem?_cons_zero, List.getElem?_cons_succ, Option.getD_some] at x0 x1 x2 x3 x4 x5
  have z1 := cellP S4.hn 0 rfl
  have z2 := cellP S4.hx 0 rfl
  have z3 := cellP S4.hg 0 rfl
  have z4 := S4.hg.frozen 0
  have hlk : (Instr.lookup 40 (.map (some m)) (.agg #[.int .i64 y0, .int .i64 y1, .int .i64 y2, .int .i64 y3, .int .i64 y4, .int .i64 y5]) false).run Try.prog w4 = .ok (.int .i64 0) w4 := by
    have := MapF.run Try.underlying40 Try.underlying3 (by rfl) S4.hm [y0, y1, y2, y3, y4, y5] HK.out
    rw [HM.out] at this
    exact this
  have q3 : ((n : Int) != (n : Int)) = false := by simp
  go_wp2_with fail
  rw [set_same S4.hg]
  clear x0 x1 x2 x3 x4 x5 z1 z2 z3 z4 hlk q3
  have hcr := r4.le
  have hcrc := r4.cap
  have K4 := Lib.hid k4
  have S4' := Lib.hid S4
  have R4' := Lib.hid r4
  have H10 : Hid (clash1 n (remL l) 0 = false) := Lib.hid rfl
  clear S4 A4 r4 k4 HM HK HP HL
  have HRB : Hid (∀ i, i < n → 0 ≤ (remL l).getD i 0 ∧ (remL l).getD i 0 < (n : Int)) := Lib.hid HO.out.rbd
  clear HO HCL
  generalize remL l = r at *
  go_loopw [109, 14] (fun vi vc wr => ∃ (i : Nat) (C : Bool), i ≤ n ∧ vi = .int .i64 (i : Int) ∧ vc = .bool C ∧ Hid (clash1 n r i = C) ∧ Below w4.heap.size w4 wr) (fun vi _ _ => n - (intOf vi).toNat)
  case atStart => exact ⟨0, false, by omega, rfl, rfl, H10, Below.refl _ _⟩
  case round =>
    obtain ⟨i, C, hi, rfl, rfl, hC, hb⟩ := hrel
    have r5 := R4'.out.below hb
    by_cases hlt : i < n
    · have q4 : (i : Int) < (n : Int) := by omega
      obtain ⟨rb, ro, rfl, _, hrc⟩ := r5.cells (by omega)
      have y6 := hrc i hlt
      have hrb := HRB.out i hlt
      obtain ⟨u, hu⟩ : ∃ u : Nat, r.getD i 0 = (u : Int) := ⟨(r.getD i 0).toNat, by omega⟩
      rw [hu] at y6
      have HU := Lib.hid hu
      have H2 : Hid (clash2 n r i 0 = false) := Lib.hid rfl
      have HN1 := Lib.hid (clash1_succ n r i)
      have f1 : (0 : Int) ≤ (i : Int) := by omega
      have f2 : (i : Int) ≤ (cr : Int) := by omega
      clear hrc hu hrb r5
      go_wp2_with fail
      go_loopw [118, 14] (fun vj vc wr => ∃ (j : Nat) (C' : Bool), j ≤ i ∧ vj = .int .i64 (j : Int) ∧ vc = .bool C' ∧ Hid ((C || clash2 n r i j) = C') ∧ Below w4.heap.size w4 wr) (fun vj _ _ => n - (intOf vj).toNat)
      case atStart => exact ⟨0, C, by omega, rfl, rfl, Lib.hid (by rw [H2.out]; simp), hb⟩
      case round =>
        clear hb y6
        obtain ⟨j, C', hj, rfl, rfl, hC', hb⟩ := hrel
        by_cases hjl : j < i
        · have q5 : (j : Int) < (i : Int) := by omega
          have r5 := R4'.out.below hb
          obtain ⟨rb', ro', hrr, _, hrc⟩ := r5.cells (by omega)
          obtain ⟨rfl, rfl⟩ : rb = rb' ∧ ro = ro' := by simpa using hrr
          have y7 := hrc j (by omega)
          have hrb := HRB.out j (by omega)
          obtain ⟨v, hv⟩ : ∃ v : Nat, r.getD j 0 = (v : Int) := ⟨(r.getD j 0).toNat, by omega⟩
          rw [hv] at y7
          have HV := Lib.hid hv
          have H3 : Hid (clash3 n r i j 2 = false) := Lib.hid (by unfold clash3; simp [List.range_succ])
          have HN2 := Lib.hid (clash2_succ n r i j)
          clear hrc hv hrb r5 hrr
          go_wp2_with fail
          go_loopw [19, 14] (fun vd vc wr => ∃ (d : Nat) (D : Bool), 2 ≤ d ∧ d ≤ n + 1 ∧ vd = .int .i64 (d : Int) ∧ vc = .bool D ∧ Hid ((C' || clash3 n r i j d) = D) ∧ Below w4.heap.size w4 wr) (fun vd _ _ => n + 1 - (intOf vd).toNat)
          case atStart => exact ⟨2, C', by omega, by omega, rfl, rfl, Lib.hid (by rw [H3.out]; simp), hb⟩
          case round =>
            clear hb y7
            obtain ⟨d, D, hd2, hdn, rfl, rfl, hD, hb⟩ := hrel
            have S5 := S4'.out.new hb
            have z1 := cellP S5.hn 0 rfl
            by_cases hdl : d ≤ n
            · have q6 : (d : Int) ≤ (n : Int) := by omega
              have HN3 := Lib.hid (clash3_succ n r i j d)
              have e2 : IntKind.i64.wrap ((n : Int) - (i : Int)) = (n : Int) - (i : Int) := IntWalk.i64_in _ (by omega)
              have e3 : IntKind.i64.wrap ((n : Int) - (j : Int)) = (n : Int) - (j : Int) := IntWalk.i64_in _ (by omega)
              have ed : ((d : Int) == 0) = false := by simp; omega
              obtain ⟨a1, ha1, ga1⟩ : ∃ a1 : Nat, ((n : Int) - (i : Int)) % (d : Int) = (a1 : Int) ∧ (n - i) % d = a1 := ⟨(n - i) % d, by rw [show ((n : Int) - (i : Int)) = ((n - i : Nat) : Int) by omega]; simp, rfl⟩
              obtain ⟨a2, ha2, ga2⟩ : ∃ a2 : Nat, ((n : Int) - (j : Int)) % (d : Int) = (a2 : Int) ∧ (n - j) % d = a2 := ⟨(n - j) % d, by rw [show ((n : Int) - (j : Int)) = ((n - j : Nat) : Int) by omega]; simp, rfl⟩
              obtain ⟨b1, hb1⟩ : ∃ b1 : Nat, (u : Int) % (d : Int) = (b1 : Int) := ⟨u % d, by simp⟩
              obtain ⟨b2, hb2⟩ : ∃ b2 : Nat, (v : Int) % (d : Int) = (b2 : Int) := ⟨v % d, by simp⟩
              have hit : hitP n r i j d = (decide (a1 = 0) && decide (a2 = 0) && !decide ((b1 : Int) = (b2 : Int))) := by
                unfold hitP
                rw [HU.out, HV.out, ga1, ga2, hb1, hb2]
              have HIT := Lib.hid hit
              clear hit ga1 ga2 S5
              have hfin : ∀ D2 : Bool, (D || (decide (2 ≤ d) && (decide (a1 = 0) && decide (a2 = 0) && !decide ((b1 : Int) = (b2 : Int))))) = D2 → Hid ((C' || clash3 n r i j (d + 1)) = D2) := fun D2 h => Lib.hid (by
                rw [HN3.out, HIT.out, ← Bool.or_assoc, hD.out]; exact h)
              have HFIN := Lib.hid hfin
              clear hfin
              cases D with
              | true =>
                have HF := HFIN.out true rfl
                go_wp2_with fail
                go_quiet (fail)
                go_wp2_with fail
                go_roundw
                case rel => first | exact ⟨d + 1, true, by omega, by omega, by go_num, rfl, HF, belowN hb _⟩ | ((repeat apply Exists.intro); exact ⟨⟨d + 1, true, by omega, by omega, by go_num, rfl, HF, belowN hb _⟩, rfl⟩)
                case measure => simp [intOf]; omega
              | false =>
                by_cases c1 : a1 = 0
                · have t1 : ((a1 : Int) == 0) = true := by simp; omega
                  by_cases c2 : a2 = 0
                  · have t2 : ((a2 : Int) == 0) = true := by simp; omega
                    by_cases c3 : b1 = b2
                    · have t3 : ((b1 : Int) != (b2 : Int)) = false := by simp; omega
                      have HF := HFIN.out false (by simp [c3])
                      clear c1 c2 c3
                      go_wp2_with fail
                      go_quiet (fail)
                      go_wp2_with fail
                      go_roundw
                      case rel => first | exact ⟨d + 1, false, by omega, by omega, by go_num, rfl, HF, belowN hb _⟩ | ((repeat apply Exists.intro); exact ⟨⟨d + 1, false, by omega, by omega, by go_num, rfl, HF, belowN hb _⟩, rfl⟩)
                      case measure => simp [intOf]; omega
                    · have t3 : ((b1 : Int) != (b2 : Int)) = true := by simp; omega
                      have HF := HFIN.out true (by simp [c1, c2, hd2]; omega)
                      clear c1 c2 c3
                      go_wp2_with fail
                      go_quiet (fail)
                      go_wp2_with fail
                      go_roundw
                      case rel => first | exact ⟨d + 1, true, by omega, by omega, by go_num, rfl, HF, belowN hb _⟩ | ((repeat apply Exists.intro); exact ⟨⟨d + 1, true, by omega, by omega, by go_num, rfl, HF, belowN hb _⟩, rfl⟩)
                      case measure => simp [intOf]; omega
                  · have t2 : ((a2 : Int) == 0) = false := by simp; omega
                    have HF := HFIN.out false (by simp [c2])
                    clear c1 c2
                    go_wp2_with fail
                    go_quiet (fail)
                    go_wp2_with fail
                    go_roundw
                    case rel => first | exact ⟨d + 1, false, by omega, by omega, by go_num, rfl, HF, belowN hb _⟩ | ((repeat apply Exists.intro); exact ⟨⟨d + 1, false, by omega, by omega, by go_num, rfl, HF, belowN hb _⟩, rfl⟩)
                    case measure => simp [intOf]; omega
                · have t1 : ((a1 : Int) == 0) = false := by simp; omega
                  have HF := HFIN.out false (by simp [c1])
                  clear c1
                  go_wp2_with fail
                  go_quiet (fail)
                  go_wp2_with fail
                  go_roundw
                  case rel => first | exact ⟨d + 1, false, by omega, by omega, by go_num, rfl, HF, belowN hb _⟩ | ((repeat apply Exists.intro); exact ⟨⟨d + 1, false, by omega, by omega, by go_num, rfl, HF, belowN hb _⟩, rfl⟩)
                  case measure => simp [intOf]; omega
            · obtain rfl : d = n + 1 := by omega
              have q6 : ¬ (((n + 1 : Nat) : Int)) ≤ (n : Int) := by omega
              have HF : Hid ((C || clash2 n r i (j + 1)) = D) := Lib.hid (by rw [HN2.out, ← Bool.or_assoc, hC'.out, hD.out])
              clear S5
              go_wp2_with fail
              go_roundw
              case rel => first | exact ⟨j + 1, D, by omega, by go_num, rfl, HF, hb⟩ | ((repeat apply Exists.intro); exact ⟨⟨j + 1, D, by omega, by go_num, rfl, HF, hb⟩, rfl⟩)
              case measure => simp [intOf]; omega
        · obtain rfl : j = i := by omega
          have HF : Hid (clash1 n r (j + 1) = C') := Lib.hid (by rw [HN1.out, hC.out, hC'.out])
          go_wp2_with fail
          go_roundw
          case rel => first | exact ⟨j + 1, C', by omega, by go_num, rfl, HF, hb⟩ | ((repeat apply Exists.intro); exact ⟨⟨j + 1, C', by omega, by go_num, rfl, HF, hb⟩, rfl⟩)
          case measure => simp [intOf]; omega
    · obtain rfl : i = n := by omega
      obtain rfl : C = true := by rw [← hC.out]; exact HCB.out
      have S5 := S4'.out.new hb
      have z3 := cellP S5.hg 0 rfl
      have z4 := S5.hg.frozen 0
      have HE := Lib.hid (set_same S5.hg)
      have hg := grown_trans (grown_of_below (r := some p) K4.out) (grown_of_below hb)
      have hz := S5.hg
      clear S5 r5
      go_wp2_with fail
      rw [HE.out]
      go_end0
      exact ⟨rfl, hg, hz⟩
end Go.Proofs.Ythocenkedncoeaa
