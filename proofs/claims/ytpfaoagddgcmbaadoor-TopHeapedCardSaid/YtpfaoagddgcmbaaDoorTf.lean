/- TopHeaped: the law. -/
import Derived.Test.YtpfaoagddgcmbaaDoorTe
import Derived.Test.YtpfaoagddgcmbaaDoorTb
import Derived.RegionTactic
import Derived.BigRegion
import Derived.Deep.Cut
import Derived.Deep.CutRange
import Derived.Deep.DeepCutAuto
import Derived.Deep.RegionWith
import Derived.Deep.RegionLaw
import Derived.Shelf.RegionOpenPlain
import Derived.StillTailTactics
import Derived.Deep.RegionHeld3
namespace Go.Proofs.YtpfaoagddgcmbaaDoor
open Go.RowKit Heap02 Grade03
set_option maxRecDepth 100000
section
variable {P : Program} {t e : TypeId} (ht : P.underlying t = some (.slice e))
  (he : (P.info? e).map (fun i => (i.zero, i.size, i.bytes)) = some (some (.agg #[.int .i64 0, .int .i64 0]), 2, 16))
include ht he
theorem step_app_heap {w : World} {ops : Array Oper} {o : Oper} {ac : Act} {K : Act → World → Prop} {Q : Exit → Act → World → Prop} {E : Prop} (B : Nat) {a : Option Addr} {n c g : Nat} {A : List Hp} (x y : Int)
    (s z : Operand) (hg : o.guard = none) (ho : o.op = .call { callee := .builtin .append, args := #[s, z], argTypes := #[t, t] })
    (hs : ac.eval s = .slice a n c) (hz : ac.eval z = .slice (some ⟨g, 0, none⟩) 1 1) (h : OwnP w e B a n c A) (h0 : w.cell? ⟨g, 0, none⟩ = some (.int .i64 x)) (h1 : w.cell? ⟨g, 1, none⟩ = some (.int .i64 y)) (hB : B ≤ w.heap.size) (hsmall : n + 1 ≤ 1000000)
    (hK : ∀ a2 c2 w', OwnP w' e B a2 (n + 1) c2 (A ++ [(x, y)]) → w.grownBy w' (Value.slice a n c).ownBlock → Below B w w' → K (ac.put o.dst (.slice a2 (n + 1) c2)) w') :
    if Region.wanted o (yielded ops ac.tmps) = true then Oper.wp P o ac w K Q else E := by
  have hw : Region.wanted o (yielded ops ac.tmps) = true := by simp [Region.wanted, hg]
  rw [if_pos hw]
  obtain ⟨a2, c2, w', hr, h2, h3, h4, h5⟩ := run_app_heap ht he w B o.type a n c g A x y h h0 h1 hB hsmall
  unfold Oper.wp
  simp [execOp, ho, resolve, invoke, builtin, hs, hz, hr, Result.andThen]
  exact hK _ _ _ h2 h4 ((Below.refl _ _).grown h4 hB (fun k hk => (World.ownsRow.lt h k hk).1))
end
set_option maxHeartbeats 8000000 in
theorem TopHeaped_any (bx x0 x1 x2 x3 x4 x5 x6 y0 y1 y2 y3 y4 y5 y6 : Int) (w : World) (hT : Tab w) (hb0 : 0 ≤ bx ∧ bx < 256) (hbx : ∀ i, 0 ≤ ([x0, x1, x2, x3, x4, x5, x6] : List Int).getD i 0 ∧ ([x0, x1, x2, x3, x4, x5, x6] : List Int).getD i 0 < 256) (hby : ∀ i, 0 ≤ ([y0, y1, y2, y3, y4, y5, y6] : List Int).getD i 0 ∧ ([y0, y1, y2, y3, y4, y5, y6] : List Int).getD i 0 < 256) :
    Calls Tryd.prog 3 #[.int .u8 bx, .agg #[U8 x0, U8 x1, U8 x2, U8 x3, U8 x4, U8 x5, U8 x6], .agg #[U8 y0, U8 y1, U8 y2, U8 y3, U8 y4, U8 y5, U8 y6]] w fun e w' => e = .returned (.bool true) ∧ Below w.heap.size w w' := by
  obtain ⟨hb00, hb01⟩ := hb0
  have m1 := Int.emod_nonneg bx (b := 7) (by omega)
  have m2 := Int.emod_lt_of_pos bx (b := 7) (by omega)
  obtain ⟨n, hn⟩ : ∃ n : Nat, 1 + bx % 7 = (n : Int) := ⟨(1 + bx % 7).toNat, by omega⟩
  have n1 : 1 ≤ n := by omega
  have n7 : n ≤ 7 := by omega
  have w1 : IntKind.i64.wrap (1 + bx % 7) = (n : Int) := by rw [hn]; exact IntWalk.i64_in _ (by omega)
  have HT := Lib.hid hT
  have D1 := Lib.hid (fun w => dealt_any n x0 x1 x2 x3 x4 x5 x6 w hbx n7)
  have D2 := Lib.hid (fun w => dealt_any n y0 y1 y2 y3 y4 y5 y6 w hby n7)
  obtain ⟨dO, dL⟩ := deal_ord n [x0, x1, x2, x3, x4, x5, x6]
  have HOa := Lib.hid dO
  have HLa := Lib.hid dL
  obtain ⟨dO2, dL2⟩ := deal_ord n [y0, y1, y2, y3, y4, y5, y6]
  have HOb := Lib.hid dO2
  have HLb := Lib.hid dL2
  clear m1 m2 hn hT hbx hby dO dL dO2 dL2
  have mixed : Tryd.prog.follows Departure.mixedOrders = true := by kernel_rfl
  generalize dealL n [x0, x1, x2, x3, x4, x5, x6] = la at *
  generalize dealL n [y0, y1, y2, y3, y4, y5, y6] = lb at *
  go_enter Tryd.func3, Tryd.ntmps3
  go_upto_region 2 with fail
  have hb1 : Below w.heap.size w ((w.alloc (.cells #[U8 x0, U8 x1, U8 x2, U8 x3, U8 x4, U8 x5, U8 x6] 22)).alloc (.cells #[U8 y0, U8 y1, U8 y2, U8 y3, U8 y4, U8 y5, U8 y6] 22)) := ((Below.refl _ w).alloc (Nat.le_refl _) _).alloc (by simp) _
  go_cut [8, 9] (fun s8 s9 wx => ∃ a c b d, s8 = .slice a n c ∧ s9 = .slice b n d ∧ IsL wx a n c la ∧ IsL wx b n d lb ∧ Below w.heap.size w wx)
  case first =>
    have A0 : ArrV U8 (w.alloc (.cells #[U8 x0, U8 x1, U8 x2, U8 x3, U8 x4, U8 x5, U8 x6] 22)) w.heap.size 22 [x0, x1, x2, x3, x4, x5, x6] := ArrV.new w _ _ _ _ rfl rfl
    have A1 : ArrV U8 ((w.alloc (.cells #[U8 x0, U8 x1, U8 x2, U8 x3, U8 x4, U8 x5, U8 x6] 22)).alloc (.cells #[U8 y0, U8 y1, U8 y2, U8 y3, U8 y4, U8 y5, U8 y6] 22)) w.heap.size 22 [x0, x1, x2, x3, x4, x5, x6] := A0.alloc _
    have A2 : ArrV U8 ((w.alloc (.cells #[U8 x0, U8 x1, U8 x2, U8 x3, U8 x4, U8 x5, U8 x6] 22)).alloc (.cells #[U8 y0, U8 y1, U8 y2, U8 y3, U8 y4, U8 y5, U8 y6] 22)) (w.heap.size + 1) 22 [y0, y1, y2, y3, y4, y5, y6] := ArrV.new _ _ _ _ _ (by simp) rfl
    generalize ((w.alloc (.cells #[U8 x0, U8 x1, U8 x2, U8 x3, U8 x4, U8 x5, U8 x6] 22)).alloc (.cells #[U8 y0, U8 y1, U8 y2, U8 y3, U8 y4, U8 y5, U8 y6] 22)) = W at *
    have p0 := A1.cell 0 0 (by simp)
    have p1 := A1.cell 1 0 (by simp)
    have p2 := A1.cell 2 0 (by simp)
    have p3 := A1.cell 3 0 (by simp)
    have p4 := A1.cell 4 0 (by simp)
    have p5 := A1.cell 5 0 (by simp)
    have p6 := A1.cell 6 0 (by simp)
    have q0 := A2.cell 0 0 (by simp)
    have q1 := A2.cell 1 0 (by simp)
    have q2 := A2.cell 2 0 (by simp)
    have q3 := A2.cell 3 0 (by simp)
    have q4 := A2.cell 4 0 (by simp)
    have q5 := A2.cell 5 0 (by simp)
    have q6 := A2.cell 6 0 (by simp)
    have HA2 := Lib.hid A2
    have HA1 := Lib.hid A1
    simp [List.getD] at p0 p1 p2 p3 p4 p5 p6 q0 q1 q2 q3 q4 q5 q6
    clear A1 A2
    go_region_with (first
      | ((with_reducible refine (D1.out _).mono ?_); rintro e w2 ⟨a, c, rfl, hA, hB⟩; have hz2 : w.heap.size + 1 < W.heap.size := HA2.out.lt; have r0 : w2.cell? ⟨w.heap.size + 1, 0, none⟩ = _ := (hB.cell (p := ⟨w.heap.size + 1, 0, none⟩) hz2).trans q0; have r1 : w2.cell? ⟨w.heap.size + 1, 1, none⟩ = _ := (hB.cell (p := ⟨w.heap.size + 1, 1, none⟩) hz2).trans q1; have r2 : w2.cell? ⟨w.heap.size + 1, 2, none⟩ = _ := (hB.cell (p := ⟨w.heap.size + 1, 2, none⟩) hz2).trans q2; have r3 : w2.cell? ⟨w.heap.size + 1, 3, none⟩ = _ := (hB.cell (p := ⟨w.heap.size + 1, 3, none⟩) hz2).trans q3; have r4 : w2.cell? ⟨w.heap.size + 1, 4, none⟩ = _ := (hB.cell (p := ⟨w.heap.size + 1, 4, none⟩) hz2).trans q4; have r5 : w2.cell? ⟨w.heap.size + 1, 5, none⟩ = _ := (hB.cell (p := ⟨w.heap.size + 1, 5, none⟩) hz2).trans q5; have r6 : w2.cell? ⟨w.heap.size + 1, 6, none⟩ = _ := (hB.cell (p := ⟨w.heap.size + 1, 6, none⟩) hz2).trans q6)
      | ((with_reducible refine (D2.out _).mono ?_); rintro e w3 ⟨b, d, rfl, hA2, hB2⟩))
    all_goals
      go_wp2_with fail
      go_meet
      have hbw2 : Below w.heap.size w w2 := (hb1.drew).trans (hB.mono (by simpa using hb1.size))
      exact ⟨_, _, _, _, rfl, rfl, hA.isL.below hB2, hA2.isL, hbw2.trans (hB2.mono hbw2.size)⟩
  case rest =>
    obtain ⟨a, ca, b, cb, rfl, rfl, ha, hb, hbw⟩ := hcut
    clear hb1
    generalize wc = W at *
    have HA := Lib.hid ha
    have HB := Lib.hid hb
    clear ha hb
    go_upto_region 3 with fail
    go_cut [10, 11] (fun s10 s11 wx => ∃ g h, s10 = .slice (some ⟨g, 0, none⟩) n n ∧ s11 = .slice (some ⟨h, 0, none⟩) n n ∧ g ≠ h ∧ Hid (OwnL wx 3 W.heap.size (some ⟨g, 0, none⟩) n n (List.replicate n 0)) ∧ Hid (OwnL wx 3 W.heap.size (some ⟨h, 0, none⟩) n n (List.replicate n 0)) ∧ Below W.heap.size W wx)
    case first =>
      obtain ⟨w5, e5, o5, g5, b5⟩ := make_run W.heap.size W.drew n (by omega) (Nat.le_refl _)
      obtain ⟨w6, e6, o6, g6, b6⟩ := make_run W.heap.size w5 n (by omega) b5.size
      have e5' : (Instr.makeSlice 23 (.int .i64 (n : Int)) (.int .i64 (n : Int))).run Tryd.prog W.drew = .ok (.slice (some ⟨W.heap.size, 0, none⟩) n n) w5 := e5
      have HL5 : Hid (W.heap.size < w5.heap.size) := Lib.hid (o5.lt _ rfl).2
      have HB : Hid (Below W.heap.size W w6) := Lib.hid (((Below.refl _ W).drew).trans (b5.trans b6))
      have HO5 : Hid (OwnL w6 3 W.heap.size (some ⟨W.heap.size, 0, none⟩) n n (List.replicate n 0)) := Lib.hid (OwnG.ints (OwnG.grownN o5 g6))
      have HO6 := Lib.hid o6
      clear e5 o5 g5 b5 o6 g6 b6
      go_region
      all_goals
        go_wp2_with fail
        go_meet
        first
          | exact ⟨_, _, rfl, rfl, by have := HL5.out; omega, HO5, HO6, HB.out⟩
          | exact ⟨_, _, rfl, rfl, by have := HL5.out; omega, HO6, HO5, HB.out⟩
    case rest =>
      obtain ⟨g, h, rfl, rfl, hgh, hP0, hQ0, hb0⟩ := hcut
      have hhg : h ≠ g := fun e => hgh e.symm
      generalize wc = W2 at *
      go_wp2_with fail
      go_loopw [41] (fun vi wr => ∃ (i : Nat) (P Q : List Int), i ≤ n ∧ vi = .int .i64 (i : Int) ∧ Hid (OwnL wr 3 W.heap.size (some ⟨g, 0, none⟩) n n P) ∧ Hid (OwnL wr 3 W.heap.size (some ⟨h, 0, none⟩) n n Q) ∧ Hid (InvK la P i) ∧ Hid (InvK lb Q i) ∧ Below W.heap.size W wr) (fun vi _ => n - (intOf vi).toNat)
      case atStart => exact ⟨0, _, _, by omega, rfl, hP0, hQ0, Lib.hid (InvK.start (by simp [HLa.out])), Lib.hid (InvK.start (by simp [HLb.out])), hb0⟩
      case round =>
        clear hP0 hQ0 hb0
        obtain ⟨i, P, Q, hi, rfl, hP, hQ, hIP, hIQ, hbr⟩ := hrel
        have w9 : IntKind.i64.wrap ((i : Int) + 1) = (i : Int) + 1 := IntWalk.i64_in _ (by omega)
        by_cases hlt : i < n
        · have q1 : (i : Int) < (n : Int) := by omega
          obtain ⟨ba, oa, rfl, hbal, hca⟩ := (HA.out.below hbr).cells (by omega)
          obtain ⟨bb, ob, rfl, hbbl, hcb⟩ := (HB.out.below hbr).cells (by omega)
          have c1 := hca i hlt
          have c2 := hcb i hlt
          have hxa := HOa.out.lo i (by rw [HLa.out]; exact hlt)
          have hxb := HOb.out.lo i (by rw [HLb.out]; exact hlt)
          have hIP2 := hIP.out.step HOa.out (by rw [HLa.out]; exact hlt)
          have hIQ2 := hIQ.out.step HOb.out (by rw [HLb.out]; exact hlt)
          rw [HLa.out] at hxa
          rw [HLb.out] at hxb
          obtain ⟨x, hx⟩ : ∃ x : Nat, la.getD i 0 = (x : Int) := ⟨(la.getD i 0).toNat, by omega⟩
          obtain ⟨y, hy⟩ : ∃ y : Nat, lb.getD i 0 = (y : Int) := ⟨(lb.getD i 0).toNat, by omega⟩
          rw [hx] at c1 hxa hIP2
          rw [hy] at c2 hxb hIQ2
          rw [Int.toNat_natCast] at hIP2 hIQ2
          have q2 : (x : Int) < (n : Int) := by omega
          have q3 : (y : Int) < (n : Int) := by omega
          have q2' : x < n := by omega
          have q3' : y < n := by omega
          obtain ⟨c3, f3⟩ := hP.out.gen.cell x 0 q2'
          obtain ⟨c4, f4⟩ := hQ.out.gen.cell y 0 q3'
          have HI1 := Lib.hid hIP2
          have HI2 := Lib.hid hIQ2
          clear hIP2 hIQ2 hca hcb hx hy
          go_wp2_with fail
          go_region
          go_wp2_with fail
          refine ⟨⟨i + 1, P.set x (i : Int), Q.set y (i : Int), by omega, by go_num, Lib.hid ?_, Lib.hid ?_, HI1, HI2, ?_⟩, by simp [intOf]; omega⟩
          · exact ((hP.out.set x (i : Int) q2').grownS (grown_setCell _ h y _) (fun u v hu hv => by cases hu; cases hv; exact hgh)).drew
          · exact (((hQ.out.grownS (grown_setCell _ g x _) (fun u v hu hv => by cases hu; cases hv; exact hhg)).set y (i : Int) q3')).drew
          · exact ((hbr.setCell (p := ⟨g, x, none⟩) (hP.out.lt _ rfl).1 _).setCell (p := ⟨h, y, none⟩) (hQ.out.lt _ rfl).1 _).drew
        · obtain rfl : i = n := by omega
          have hPO := InvK.ord (by have := hIP.out; rwa [← HLa.out] at this) HOa.out
          have hQO := InvK.ord (by have := hIQ.out; rwa [← HLb.out] at this) HOb.out
          have HPL := Lib.hid hP.out.len
          have HQL := Lib.hid hQ.out.len
          have HPO := Lib.hid hPO
          have HQO := Lib.hid hQO
          clear hIP hIQ hPO hQO
          go_wp2_with fail
          obtain ⟨W3, rfl⟩ : ∃ W3, W3 = wr := ⟨_, rfl⟩
          go_loopw [60, 13] (fun vx vh wr => ∃ (x : Nat) (ah : Option Addr) (ch : Nat), x ≤ i ∧ vx = .int .i64 (x : Int) ∧ vh = .slice ah x ch ∧ Hid (OwnP wr 27 W3.heap.size ah x ch (hpK P Q x)) ∧ Below W3.heap.size W3 wr) (fun vx _ _ => i - (intOf vx).toNat)
          case atStart => exact ⟨0, none, 0, by omega, rfl, rfl, Lib.hid (OwnP.nilP _ _ _), Below.refl _ _⟩
          case round =>
            obtain ⟨x, ah, ch, hx, rfl, rfl, hH, hbv⟩ := hrel
            have w8 : IntKind.i64.wrap ((x : Int) + 1) = (x : Int) + 1 := IntWalk.i64_in _ (by omega)
            by_cases hlt : x < i
            · have q1 : (x : Int) < (i : Int) := by omega
              obtain ⟨c3, _⟩ := (OwnL.below hP.out hbv).gen.cell x 0 hlt
              obtain ⟨c4, _⟩ := (OwnL.below hQ.out hbv).gen.cell x 0 hlt
              have HN := Lib.hid (hpK_next (P := P) (Q := Q) x)
              have HX : Hid (hpX P Q x = (if Q.getD x 0 < P.getD x 0 then Q.getD x 0 else P.getD x 0, if P.getD x 0 < Q.getD x 0 then Q.getD x 0 else P.getD x 0)) := Lib.hid rfl
              generalize P.getD x 0 = px at *
              generalize Q.getD x 0 = qx at *
              obtain ⟨lo, hlo⟩ : ∃ lo, (if qx < px then qx else px) = lo := ⟨_, rfl⟩
              obtain ⟨hv, hhv⟩ : ∃ hv, (if px < qx then qx else px) = hv := ⟨_, rfl⟩
              rw [hlo, hhv] at HX
              have hO9 := (hH.out.alloc (.cells #[.int .i64 lo, .int .i64 hv] 27)).drew
              have c9 : (wr.alloc (.cells #[.int .i64 lo, .int .i64 hv] 27)).drew.cell? ⟨wr.heap.size, 0, none⟩ = some (.int .i64 lo) := by simp [go_sem]
              have c10 : (wr.alloc (.cells #[.int .i64 lo, .int .i64 hv] 27)).drew.cell? ⟨wr.heap.size, 1, none⟩ = some (.int .i64 hv) := by simp [go_sem]
              have hB9 : W3.heap.size ≤ (wr.alloc (.cells #[.int .i64 lo, .int .i64 hv] 27)).drew.heap.size := by have := hbv.size; simp; omega
              have hbv9 := (hbv.alloc hbv.size (.cells #[.int .i64 lo, .int .i64 hv] 27)).drew
              have hx10 : x + 1 ≤ 1000000 := by omega
              have z1 := hbv.size
              clear hH hbv
              go_wp2_with fail
              have hgW : g < W3.heap.size := (hP.out.lt _ rfl).2
              have hhW : h < W3.heap.size := (hQ.out.lt _ rfl).2
              have HKP : Hid (∀ w', Below W3.heap.size (wr.alloc (.cells #[.int .i64 lo, .int .i64 hv] 27)).drew w' → w'.cell? ⟨g, x, none⟩ = some (.int .i64 px) ∧ w'.cell? ⟨h, x, none⟩ = some (.int .i64 qx)) := Lib.hid (fun w' hh => by
                refine ⟨(hh.cell (p := ⟨g, x, none⟩) hgW).trans ?_, (hh.cell (p := ⟨h, x, none⟩) hhW).trans ?_⟩
                · have : (wr.alloc (.cells #[.int .i64 lo, .int .i64 hv] 27)).drew.cell? ⟨g, x, none⟩ = wr.cell? ⟨g, x, none⟩ := ((Below.refl wr.heap.size wr).alloc (Nat.le_refl _) _).drew.cell (p := ⟨g, x, none⟩) (Nat.lt_of_lt_of_le hgW z1)
                  exact this.trans c3
                · have : (wr.alloc (.cells #[.int .i64 lo, .int .i64 hv] 27)).drew.cell? ⟨h, x, none⟩ = wr.cell? ⟨h, x, none⟩ := ((Below.refl wr.heap.size wr).alloc (Nat.le_refl _) _).drew.cell (p := ⟨h, x, none⟩) (Nat.lt_of_lt_of_le hhW z1)
                  exact this.trans c4)
              go_region_held3 (fun w' => w'.cell? ⟨g, x, none⟩ = some (.int .i64 px) ∧ w'.cell? ⟨h, x, none⟩ = some (.int .i64 qx)) (first | go_keep | exact HKP.out _ b11)
                (first | (refine step_app_heap Tryd.underlying25 info27 W3.heap.size lo hv (.tmp 63) (.tmp 83) ?_ ?_ ?_ ?_ hO9 c9 c10 hB9 hx10 ?_; rfl; rfl; rfl; rfl; intro a11 c11 w11 o11 g11 b11))
              all_goals
                have HH11 : Hid (OwnP w11 27 W3.heap.size a11 (x + 1) c11 (hpK P Q (x + 1))) := Lib.hid (by rw [HN.out, HX.out]; exact o11)
                have hb11 := hbv9.trans b11
                clear hO9 c9 c10 hB9 hbv9 o11 g11 b11
                go_wp2_with fail
                exact ⟨⟨x + 1, a11, c11, by omega, by go_num, rfl, HH11, hb11⟩, by simp [intOf]; omega⟩
            · obtain rfl : x = i := by omega
              have HIH := hH.out.isH
              have hPw := (OwnL.below hP.out hbv).isL
              have hQw := (OwnL.below hQ.out hbv).isL
              have kw : Below w.heap.size w wr := (hbw.trans (hbr.mono hbw.size)).trans (hbv.mono (hbw.trans (hbr.mono hbw.size)).size)
              have HOK := Lib.hid (hp_ok HPO.out HQO.out HPL.out HQL.out n7)
              have HF := Lib.hid (hp_feas (Q := Q) HPO.out HPL.out)
              have HPP := Lib.hid (hp_planP (Q := Q) (n := x) HPO.out)
              have HPQ := Lib.hid (hp_planQ (P := P) (n := x) HQO.out)
              have HEND : Hid (∀ E, EndH (hpK P Q x) E → E = (x : Int) - 1) := Lib.hid (fun E hE => hp_end hE HPO.out HQO.out HPL.out HQL.out n1)
              have HPLN : Hid (∀ O : List Int, PlanO (hpK P Q x) O → O.length = x → IsO O) := Lib.hid (fun O hO hl => plan_ord hO hl HPO.out HQO.out HPL.out HQL.out)
              have HLH : Hid ((hpK P Q x).length = x) := Lib.hid (hpK_len x)
              clear hP hQ hH hbr hbv hbw
              generalize hpK P Q x = L at *
              go_wp2_with fail
              refine (Verify_any _ _ _ _ _ L P wr HIH hPw (by omega) HOK.out HPP.out).mono ?_
              rintro e w12 ⟨rfl, b12⟩
              have HI12 := HIH.below b12
              have hQ12 := hQw.below b12
              have k12 := kw.trans (b12.mono kw.size)
              clear HIH hPw hQw kw b12
              go_wp2_with fail
              refine (Verify_any _ _ _ _ _ L Q w12 HI12 hQ12 (by omega) HOK.out HPQ.out).mono ?_
              rintro e w13 ⟨rfl, b13⟩
              have HI13 := HI12.below b13
              have k13 := k12.trans (b13.mono k12.size)
              clear HI12 hQ12 k12 b13
              go_wp2_with fail
              refine (Plan_any _ _ _ L w13 HI13 n1 (by omega) HOK.out HF.out).mono ?_
              rintro e w14 ⟨ap, cp, O, rfl, hO0, b14, hPO⟩
              have hO14 := hO0.isL
              have HI14 := HI13.below b14
              have k14 := k13.trans (b14.mono k13.size)
              have HPO2 := Lib.hid hPO
              clear HI13 k13 b14 hO0 hPO
              go_wp2_with fail
              refine (Fewest_any _ _ _ L w14 HI14 n1 (by omega) HOK.out HF.out).mono ?_
              rintro e w15 ⟨rfl, b15⟩
              have HI15 := HI14.below b15
              have hO15 := hO14.below b15
              have k15 := k14.trans (b15.mono k14.size)
              clear HI14 hO14 k14 b15
              go_wp2_with fail
              refine (Keep_any _ _ _ L w15 HI15 n1 (by omega) HOK.out HF.out).mono ?_
              rintro e w16 ⟨ak, ck, rfl, b16⟩
              have HI16 := HI15.below b16
              have hO16 := hO15.below b16
              have k16 := k15.trans (b16.mono k15.size)
              clear HI15 hO15 k15 b16
              go_wp2_with fail
              refine (Finish_any _ _ _ L w16 HI16 n1 (by omega) HOK.out HF.out).mono ?_
              rintro e w17 ⟨E, rfl, b17, hE⟩
              obtain rfl := HEND.out E hE
              have HI17 := HI16.below b17
              have hO17 := hO16.below b17
              have k17 := k16.trans (b17.mono k16.size)
              have hs17 := k17.size
              have HOL := Lib.hid hO17.len
              have HOO := Lib.hid (HPLN.out O HPO2.out hO17.len)
              have HI18 := Lib.hid HI17
              have hO18 := Lib.hid hO17
              have w7 : IntKind.i64.wrap ((x : Int) - 1) = (x : Int) - 1 := IntWalk.i64_in _ (by omega)
              clear HI16 hO16 k16 b17 hE HEND HPLN HI17 hO17
              go_wp2_with (at_make; refine wl_make (Value.int .i64) 0 (.int .i64 0) 8 w17.heap.size Tryd.underlying23 elem3 rfl rfl (.tmp 152) (.tmp 152) rfl rfl x rfl rfl (by omega) (by omega) (Nat.le_refl _) ?_)
              intro w18 o18 g18 b18
              have HR18 := Lib.hid (OwnG.ints o18)
              clear o18 g18
              go_wp2_with fail
              go_loopw [156] (fun vi wr => ∃ (j : Nat) (R : List Int), j ≤ x ∧ vi = .int .i64 (j : Int) ∧ Hid (OwnL wr 3 w17.heap.size (some ⟨w17.heap.size, 0, none⟩) x x R) ∧ Hid (InvK O R j) ∧ Below w17.heap.size w17 wr) (fun vi _ => x - (intOf vi).toNat)
              case atStart => exact ⟨0, _, by omega, rfl, HR18, Lib.hid (InvK.start (by rw [HOL.out]; simp)), b18⟩
              case round =>
                clear HR18 b18
                obtain ⟨j, R, hj, rfl, hR, hI, kr⟩ := hrel
                have w6 : IntKind.i64.wrap ((j : Int) + 1) = (j : Int) + 1 := IntWalk.i64_in _ (by omega)
                by_cases hjt : j < x
                · have p1 : (j : Int) < (x : Int) := by omega
                  obtain ⟨bo, oo, rfl, _, hco⟩ := (hO18.out.below kr).cells (by omega)
                  have d1 := hco j hjt
                  have hHj := HI18.out.below kr
                  have hle3 := hHj.le
                  have hcap3 := hHj.cap
                  obtain ⟨bh, rfl, _, hch⟩ := hHj.cells (by omega)
                  obtain ⟨d2, d3⟩ := hch j hjt
                  have hbd := HPO2.out.bd j (by rw [HLH.out]; exact hjt)
                  have hlo := HOO.out.lo j (by rw [HOL.out]; exact hjt)
                  have hI2 := hI.out.step HOO.out (by rw [HOL.out]; exact hjt)
                  rw [HOL.out] at hlo
                  obtain ⟨y, hy⟩ : ∃ y : Nat, O.getD j 0 = (y : Int) := ⟨(O.getD j 0).toNat, by omega⟩
                  rw [hy] at d1 hbd hlo hI2
                  rw [Int.toNat_natCast] at hI2
                  obtain ⟨⟨lo, hv⟩, hxx⟩ : ∃ z, L.getD j (0, 0) = z := ⟨_, rfl⟩
                  rw [hxx] at d2 d3 hbd
                  simp only [] at d2 d3 hbd
                  have p2 : ¬ (y : Int) < lo := by omega
                  have p3 : ¬ hv < (y : Int) := by omega
                  have p4 : ¬ (x : Int) ≤ (y : Int) := by omega
                  have p5 : (y : Int) < (x : Int) := by omega
                  have p6 : y < x := by omega
                  obtain ⟨d4, d5⟩ := hR.out.gen.cell y 0 p6
                  have HI2 := Lib.hid hI2
                  have HR2 := Lib.hid (hR.out.set y (j : Int) p6)
                  have kr2 := kr.setCell (p := ⟨w17.heap.size, y, none⟩) (Nat.le_refl _) (.int .i64 (j : Int))
                  clear hco hch hbd hlo hI2 hy hxx hHj hR hI kr
                  go_wp2_with fail
                  exact ⟨⟨j + 1, _, by omega, by go_num, HR2, HI2, kr2⟩, by simp [intOf]; omega⟩
                · obtain rfl : j = x := by omega
                  have hRO := InvK.ord (by have := hI.out; rwa [← HOL.out] at this) HOO.out
                  have hRI := hR.out.isL
                  have hck : chkE R = 0 := chkE_zero.2 ⟨hRO, by rw [hRI.len]; exact n1, by rw [hRI.len]; exact n7⟩
                  have k18 := k17.trans (kr.mono k17.size)
                  clear hI hR kr hRO
                  go_wp2_with fail
                  refine (Check_any _ _ _ R _ hRI).mono ?_
                  rintro e w19 ⟨rfl, b19⟩
                  rw [hck]
                  have k19 := k18.trans (b19.mono k18.size)
                  clear hRI b19 k18 hck
                  go_wp2_with fail
                  refine (gradesWork_any _ (HT.out.below k19)).mono ?_
                  rintro e w20 ⟨rfl, b20⟩
                  have k20 := k19.trans (b20.mono k19.size)
                  go_wp2_with fail
                  go_ret
                  exact ⟨rfl, k20⟩
end Go.Proofs.YtpfaoagddgcmbaaDoor
