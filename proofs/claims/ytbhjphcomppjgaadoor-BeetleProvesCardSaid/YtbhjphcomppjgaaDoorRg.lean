/- Walks of chapter 9: the reference: bales that make no difference. -/
import Derived.Test.YtbhjphcomppjgaaDoorRf
import Derived.Test.YtbhjphcomppjgaaDoorPo
import Derived.Deep.RegionHeldLaw
import Derived.Deep.RegionLaw
import Derived.Shelf.RegionOpenPlain
namespace Go.Proofs.YtbhjphcomppjgaaDoor
open Go.RowKit Beetle09
section
variable {P : Program} {t e : TypeId} (ht : P.underlying t = some (.slice e)) (he : (P.info? e).map (fun i => (i.zero, i.size, i.bytes)) = some (some (.int .i64 0), 1, 8))
include ht he
theorem step_app_own9 (B : Nat) {w : World} {ops : Array Oper} {o : Oper} {ac : Act} {K : Act → World → Prop} {Q : Exit → Act → World → Prop} {E : Prop} {a a' : Option Addr} {n c m c' : Nat} {l l' : List Int}
    (s x : Operand) (hg : o.guard = none) (ho : o.op = .call { callee := .builtin .append, args := #[s, x], argTypes := #[t, t] })
    (hs : ac.eval s = .slice a n c) (hx : ac.eval x = .slice a' m c') (h : OwnL w e B a n c l) (h' : IsL w a' m c' l') (hB : B ≤ w.heap.size) (hsmall : n + m ≤ 17592186044416)
    (hK : ∀ a2 c2 w', OwnL w' e B a2 (n + m) c2 (l ++ l') → w.grownBy w' (Value.slice a n c).ownBlock → Below B w w' → Via w a a2 → K (ac.put o.dst (.slice a2 (n + m) c2)) w') :
    if Region.wanted o (yielded ops ac.tmps) = true then Oper.wp P o ac w K Q else E := by
  have hw : Region.wanted o (yielded ops ac.tmps) = true := by simp [Region.wanted, hg]
  rw [if_pos hw]
  obtain ⟨a2, c2, w', hr, h2, h3, h4⟩ := run_app_own ht he w B o.type a a' n c m c' l l' h h' hB hsmall
  unfold Oper.wp
  simp [execOp, ho, resolve, invoke, builtin, hs, hx, hr, Result.andThen]
  exact hK _ _ _ h2 h3 ((Below.refl _ _).grown h3 hB (fun k hk => (World.ownsRow.lt h k hk).1)) h4
end
variable {r c : Int} {S F : List Int} {a b : Option Addr} {n m k j : Nat} {w : World}
set_option maxHeartbeats 8000000 in
set_option maxRecDepth 100000 in
theorem rIdle_any (hS : IsL w a n k S) (hF : IsL w b m j F) : Calls Tryd.prog 21 #[stV r c a b n k m j] w (LP (openE r c S F) (idleE r c S F) w) := by
  have HB0 := Lib.hid (BoxS.start w (bxL r c a b n k m j) 27)
  have HC := Lib.hid (rCheck_any (r := r) (c := c) (hS.below HB0.out.below) (hF.below HB0.out.below))
  have x0 := val HB0.out.box 0 rfl
  have x1 := val HB0.out.box 1 rfl
  have x2 := val HB0.out.box 2 rfl
  have x3 := val HB0.out.box 3 rfl
  obtain ⟨E, hE⟩ : ∃ E, openE r c S F = E := ⟨_, rfl⟩
  have HE := Lib.hid hE
  by_cases h0 : E = 0
  · subst h0
    obtain ⟨R, C, s, z, hop⟩ := open_ok hE
    obtain rfl := hop.er
    obtain rfl := hop.ec
    have HOP := Lib.hid hop
    have HS := Lib.hid hS
    have HF := Lib.hid hF
    clear hE hop hS hF
    go_enter Tryd.func21, Tryd.ntmps21
    go_wp2_with fail
    refine HC.out.mono ?_
    rintro e w1 ⟨rfl, b1⟩
    rw [HE.out]
    have HB1 := Lib.hid (HB0.out.to b1)
    clear HC x0 x1 x2 x3 b1 HB0
    have x0 := val HB1.out.box 0 rfl
    have x1 := val HB1.out.box 1 rfl
    have x2 := val HB1.out.box 2 rfl
    have x3 := val HB1.out.box 3 rfl
    have HS1 := Lib.hid (HS.out.below HB1.out.below)
    have HF1 := Lib.hid (HF.out.below HB1.out.below)
    have hb1 := HB1.out.below
    have HR := Lib.hid (HOP.out.idle HE.out)
    have n25 := HOP.out.sd.n25
    have hnS := HS1.out.len
    have hnN := HOP.out.rs.len_le
    have hcap := HS1.out.cap
    have hle := HS1.out.le
    have m1 : (R : Int) * (C : Int) = ((R * C : Nat) : Int) := by simp
    have HCA : Hid (∀ w', GoodW w1 w' → Calls Tryd.prog 57 #[stV R C a b n k m j] w' fun e w2 => ∃ x c, e = .returned (.slice x (pcN (R * C) (fin R C z s)) c) ∧ GoodW w' w2) := Lib.hid fun w' h => (rspread_any R C s z (HS1.out.below h) (HF1.out.below h) HOP.out.sd HOP.out.rs.mm HOP.out.rz.mm).mono fun _ _ ⟨x, c, he, _, hb⟩ => ⟨x, c, he, hb⟩
    have HCB : Hid (∀ (i : Nat) (x : Option Addr) (nx cx : Nat) (w' : World), i < R * C → GoodW w1 w' → IsL w' x nx cx (les S i) → Calls Tryd.prog 57 #[stV R C x b nx cx m j] w' fun e w2 => ∃ x c, e = .returned (.slice x (pcN (R * C) (fin R C z (del s i))) c) ∧ GoodW w' w2) := Lib.hid fun i x nx cx w' hi h hI => (rspread_any R C (del s i) z hI (HF1.out.below h) HOP.out.sd (les_mm HOP.out.rs.mm HOP.out.s25 (by omega)) HOP.out.rz.mm).mono fun _ _ ⟨x, c, he, _, hb⟩ => ⟨x, c, he, hb⟩
    have HHS : Hid (∀ (i : Nat) (w' : World), i < R * C → GoodW w1 w' → Calls Tryd.prog 58 #[.slice a n k, .int .i64 (i : Int)] w' fun e w2 => e = .returned (.bool (s.testBit i)) ∧ w' = w2) := Lib.hid fun i w' hi h => rhas_any a n k S _ w' (HS1.out.below h) _ (HOP.out.rs.mm.bit hi)
    have HIF : Hid (∀ i : Nat, i < R * C → s.testBit i = true → (pcN (R * C) (fin R C z (del s i)) = pcN (R * C) (fin R C z s) ↔ (fin R C z (del s i)).testBit i = true)) := Lib.hid fun i hi hb => idle_iff HOP.out.s25 hi (by omega) hb
    have HSU := Lib.hid (fun i => idleK_succ R C z s i)
    have HFI := Lib.hid (idleK_fin R C z s)
    have HPL := Lib.hid (fun i => pcN_le (R * C) (fin R C z (del s i)))
    have hPL := pcN_le (R * C) (fin R C z s)
    obtain ⟨P, hP⟩ : ∃ P, pcN (R * C) (fin R C z s) = P := ⟨_, rfl⟩
    obtain ⟨N, hN⟩ : ∃ N, R * C = N := ⟨_, rfl⟩
    rw [hP] at HCA HIF hPL
    rw [hN] at HCB HHS HIF HFI HPL hPL m1 n25 hnN
    have wN : IntKind.i64.wrap (N : Int) = (N : Int) := IntWalk.i64_in _ (by omega)
    clear hN hP
    go_wp2_with fail
    go_loopw [6, 5] (fun vi vo wr => ∃ (i n2 : Nat) (ao : Option Addr) (co : Nat), i ≤ N ∧ vi = .int .i64 (i : Int) ∧ vo = .slice ao n2 co ∧ n2 ≤ i ∧ Hid (OwnL wr 3 w1.heap.size ao n2 co (li (idleK R C z s i))) ∧ Below w1.heap.size w1 wr) (fun vi _ _ => N - (intOf vi).toNat)
    case atStart => exact ⟨0, 0, none, 0, by omega, rfl, rfl, by omega, Lib.hid (OwnL.nilL _ _ _), Below.refl _ _⟩
    case round =>
      obtain ⟨i, n2, ao, co, hi, rfl, rfl, hn2, hO, hb⟩ := hrel
      have hs2 := hb.size
      have HBR := Lib.hid (HB1.out.to hb)
      clear x0 x1 x2 x3
      have x0 := val HBR.out.box 0 rfl
      have x1 := val HBR.out.box 1 rfl
      have x2 := val HBR.out.box 2 rfl
      have x3 := val HBR.out.box 3 rfl
      by_cases hlt : i < N
      · have q0 : (i : Int) < (N : Int) := by omega
        have HH := Lib.hid (HHS.out i wr hlt hb)
        have HSI := Lib.hid (HSU.out i)
        have HII := Lib.hid (HIF.out i hlt)
        cases hbit : s.testBit i with
        | false =>
          rw [hbit] at HH HSI HII
          go_wp2_with fail
          refine HH.out.mono ?_
          rintro e w5 ⟨rfl, rfl⟩
          have hO5 : Hid (OwnL wr 3 w1.heap.size ao n2 co (li (idleK R C z s (i + 1)))) := Lib.hid (by rw [HSI.out, if_neg (by simp), List.append_nil]; exact hO.out)
          clear hO HSI HII HH
          go_wp2_with fail
          go_roundw
          case rel => first | exact ⟨i + 1, n2, ao, co, by omega, by go_num, rfl, by omega, hO5, hb⟩ | ((repeat apply Exists.intro); exact ⟨⟨i + 1, n2, ao, co, by omega, by go_num, rfl, by omega, hO5, hb⟩, rfl⟩)
          case measure => (simp [intOf] <;> omega)
        | true =>
          rw [hbit] at HH HSI HII
          go_wp2_with fail
          refine HH.out.mono ?_
          rintro e w5 ⟨rfl, rfl⟩
          obtain ⟨wo, rfl⟩ : ∃ wo, wo = wr := ⟨_, rfl⟩
          have hs3 : wo.heap.size + 1 ≤ (wo.alloc (.cells (bxL R C none b 0 0 m j).toArray 27)).heap.size := by simp
          have HA0 : Hid (ArrV VV (wo.alloc (.cells (bxL R C none b 0 0 m j).toArray 27)) wo.heap.size 27 (bxL R C none b 0 0 m j)) := Lib.hid (ArrV.new wo _ _ _ _ rfl (by simp [VV]))
          clear HH
          go_wp2_with fail
          go_loopw [8] (fun vi wr => ∃ (t nx cx : Nat) (x : Option Addr), t ≤ n ∧ vi = .int .i64 (t : Int) ∧ nx ≤ t ∧ Hid (ArrV VV wr wo.heap.size 27 (bxL R C x b nx cx m j)) ∧ Hid (OwnL wr 3 (wo.heap.size + 1) x nx cx (les (S.take t) i)) ∧ Below wo.heap.size wo wr) (fun vi _ => n - (intOf vi).toNat)
          case atStart => exact ⟨0, 0, 0, none, by omega, rfl, by omega, HA0, Lib.hid (OwnL.nilL _ _ _), (Below.refl _ _).alloc (Nat.le_refl _) _⟩
          case round =>
            clear HA0 hs3
            obtain ⟨t, nx, cx, x, ht, rfl, hnx, hA, hX, hbi⟩ := hrel
            have hs4 := hbi.size
            have hsA := hA.out.lt
            have HBI := Lib.hid (HBR.out.to hbi)
            clear x0 x1 x2 x3
            have x0 := val HBI.out.box 0 rfl
            have x1 := val HBI.out.box 1 rfl
            have x2 := val HBI.out.box 2 rfl
            have x3 := val HBI.out.box 3 rfl
            have z0 := val hA.out 0 rfl
            have z1 := val hA.out 1 rfl
            have z2 := val hA.out 2 rfl
            have z3 := val hA.out 3 rfl
            by_cases htn : t < n
            · have q1 : (t : Int) < (n : Int) := by omega
              obtain ⟨bb, oo, rfl, _, hc⟩ := ((HS1.out.below hb).below hbi).cells (by omega)
              have y1 := hc t htn
              have hbl : bb < wo.heap.size := by
                obtain ⟨b9, o9, e9, _, hc9⟩ := HS1.out.cells (by omega)
                obtain rfl : b9 = bb := congrArg Addr.block (Option.some.inj e9).symm
                have := World.block_lt_of_cell? w1 _ (hc9 t htn)
                have := hs2
                simp at *
                omega
              have hwl : w.heap.size < wo.heap.size := HBR.out.box.lt
              have HLS := Lib.hid (les_succ (S := S) (i := t) (n := i) (by omega))
              obtain ⟨v, hv⟩ : ∃ v, S.getD t 0 = v := ⟨_, rfl⟩
              rw [hv] at y1 HLS
              clear hc hv
              by_cases hvi : v = (i : Int)
              · have q2 : (v != (i : Int)) = false := by simp [hvi]
                have hX5 : Hid (OwnL wr 3 (wo.heap.size + 1) x nx cx (les (S.take (t + 1)) i)) := Lib.hid (by rw [HLS.out, if_pos hvi, List.append_nil]; exact hX.out)
                clear hvi HLS hX
                go_wp2_with fail
                go_roundw
                case rel => first | exact ⟨t + 1, nx, cx, x, by omega, by go_num, by omega, hA, hX5, hbi⟩ | ((repeat apply Exists.intro); exact ⟨⟨t + 1, nx, cx, x, by omega, by go_num, by omega, hA, hX5, hbi⟩, rfl⟩)
                case measure => (simp [intOf] <;> omega)
              · have q2 : (v != (i : Int)) = true := by simpa using hvi
                rw [if_neg hvi] at HLS
                clear hvi
                have hA5 : Hid (ArrV VV (wr.alloc (.cells #[.int .i64 v] 3)).drew wo.heap.size 27 (bxL R C x b nx cx m j)) := Lib.hid (hA.out.alloc _).drew
                have hb5 : Below wo.heap.size wo (wr.alloc (.cells #[.int .i64 v] 3)).drew := (hbi.alloc (by omega) _).drew
                have hA5b : Hid (ArrV VV (wr.drew.alloc (.cells #[.int .i64 v] 3)) wo.heap.size 27 (bxL R C x b nx cx m j)) := Lib.hid (hA.out.drew.alloc _)
                clear hA
                have hq1 : Below wr.heap.size wr (wr.alloc (.cells #[.int .i64 v] 3)).drew := ((Below.refl _ _).alloc (Nat.le_refl _) _).drew
                have hq2 : Below wr.heap.size wr (wr.drew.alloc (.cells #[.int .i64 v] 3)) := (Below.refl _ _).drew.alloc (Nat.le_refl _) _
                have g1 := (hq1.cell (World.block_lt_of_cell? _ _ z2)).trans z2
                have g2 := (hq1.cell (World.block_lt_of_cell? _ _ x2)).trans x2
                have g3 := (hq1.cell (World.block_lt_of_cell? _ _ y1)).trans y1
                have g4 := (hq2.cell (World.block_lt_of_cell? _ _ z2)).trans z2
                have g5 := (hq2.cell (World.block_lt_of_cell? _ _ x2)).trans x2
                have g6 := (hq2.cell (World.block_lt_of_cell? _ _ y1)).trans y1
                have G1 := Lib.hid g1
                have G2 := Lib.hid g2
                have G3 := Lib.hid g3
                have G4 := Lib.hid g4
                have G5 := Lib.hid g5
                have G6 := Lib.hid g6
                clear g1 g2 g3 g4 g5 g6 hq1 hq2
                go_wp2_with fail
                have mixed : Tryd.prog.follows Departure.mixedOrders = true := by kernel_rfl
                go_region_law_o (refine step_app_own9 Tryd.underlying22 elem3 (wo.heap.size + 1) (.tmp 45) (.tmp 51) (by rfl) (by rfl) (by rfl) (by rfl) (by first | exact (hX.out.alloc _).drew | exact (hX.out.drew.alloc _)) (by first | exact isL_one _ _ _ | exact (isL_one _ _ _).drew) (by simp; omega) (by omega) ?_; intro a5 c5 w5 ho5 hg5 hb6 _; have hA6 : ArrV VV w5 wo.heap.size 27 (bxL R C x b nx cx m j) := (hb6.block wo.heap.size (Nat.lt_succ_self _)).trans (by first | exact hA5.out | exact hA5b.out); have u2f := hA6.frozen 2; have u2 := val hA6 2 rfl)
                all_goals
                  have hX6 : Hid (OwnL w5 3 (wo.heap.size + 1) a5 (nx + 1) c5 (les (S.take (t + 1)) i)) := Lib.hid (by rw [HLS.out]; exact ho5)
                  have hb7 : Below wo.heap.size wo w5 := hb5.trans (hb6.mono (Nat.le_succ _))
                  have HX7 : Hid (OwnL (w5.setCell ⟨wo.heap.size, 2, none⟩ (.slice a5 (nx + 1) c5)) 3 (wo.heap.size + 1) a5 (nx + 1) c5 (les (S.take (t + 1)) i)) := Lib.hid (hX6.out.grownS (grown_setCell _ _ _ _) (fun x y hx hy => by
                    have := (hX6.out.lt x hx).1
                    obtain rfl := Option.some.inj hy
                    show x.block ≠ wo.heap.size
                    omega))
                  have HA7 : Hid (ArrV VV (w5.setCell ⟨wo.heap.size, 2, none⟩ (.slice a5 (nx + 1) c5)) wo.heap.size 27 (bxL R C a5 b (nx + 1) c5 m j)) := Lib.hid (hA6.set 2 (.slice a5 (nx + 1) c5))
                  have hb8 : Below wo.heap.size wo (w5.setCell ⟨wo.heap.size, 2, none⟩ (.slice a5 (nx + 1) c5)) := hb7.setCell (p := ⟨wo.heap.size, 2, none⟩) (Nat.le_refl _) _
                  clear hX hA5 hX6 hA6 ho5 hg5 hb6 hb5 hb7 HLS
                  go_wp2_with fail
                  go_roundw
                  case rel => first | exact ⟨t + 1, nx + 1, c5, a5, by omega, by go_num, by omega, HA7, HX7, hb8⟩ | ((repeat apply Exists.intro); exact ⟨⟨t + 1, nx + 1, c5, a5, by omega, by go_num, by omega, HA7, HX7, hb8⟩, rfl⟩)
                  case measure => (simp [intOf] <;> omega)
            · obtain rfl : n = t := by omega
              have hX9 : Hid (IsL wr x nx cx (les S i)) := Lib.hid (by have := hX.out.isL; rwa [List.take_of_length_le (by omega)] at this)
              have hgw : GoodW w1 wr := Below.trans hb (hbi.mono hs2)
              have H57a : Hid (∀ w', GoodW wr w' → Calls Tryd.prog 57 #[stV R C a b n k m j] w' fun e w2 => ∃ x c, e = .returned (.slice x P c) ∧ GoodW wr w2) := Lib.hid fun w' h => (HCA.out w' (hgw.to h)).mono fun _ _ ⟨x, c, he, hb⟩ => ⟨x, c, he, h.to hb⟩
              have H57b : Hid (∀ w', GoodW wr w' → Calls Tryd.prog 57 #[stV R C x b nx cx m j] w' fun e w2 => ∃ x c, e = .returned (.slice x (pcN N (fin R C z (del s i))) c) ∧ GoodW wr w2) := Lib.hid fun w' h => (HCB.out i x nx cx w' hlt (hgw.to h) (hX9.out.below h)).mono fun _ _ ⟨x, c, he, hb⟩ => ⟨x, c, he, h.to hb⟩
              have hPi := HPL.out i
              obtain ⟨Pi, hPi2⟩ : ∃ Pi, pcN N (fin R C z (del s i)) = Pi := ⟨_, rfl⟩
              rw [hPi2] at H57b HII hPi
              have HG0 : GoodW wr wr.drew := (Below.refl _ _).drew
              clear hPi2 hX hX9
              cases hf : (fin R C z (del s i)).testBit i with
              | true =>
                rw [hf] at HII HSI
                obtain rfl : Pi = P := (HII.out (by simp)).2 (by simp)
                go_wp2_with fail
                go_region_held3 (fun w' => w'.cell? ⟨w.heap.size, 0, none⟩ = some (.int .i64 (R : Int)) ∧ w'.cell? ⟨w.heap.size, 1, none⟩ = some (.int .i64 (C : Int)) ∧ w'.cell? ⟨w.heap.size, 2, none⟩ = some (.slice a n k) ∧ w'.cell? ⟨w.heap.size, 3, none⟩ = some (.slice b m j) ∧ w'.cell? ⟨wo.heap.size, 0, none⟩ = some (.int .i64 (R : Int)) ∧ w'.cell? ⟨wo.heap.size, 1, none⟩ = some (.int .i64 (C : Int)) ∧ w'.cell? ⟨wo.heap.size, 2, none⟩ = some (.slice x nx cx) ∧ w'.cell? ⟨wo.heap.size, 3, none⟩ = some (.slice b m j)) (first | go_keep | exact ⟨hG.cell x0, hG.cell x1, hG.cell x2, hG.cell x3, hG.cell z0, hG.cell z1, hG.cell z2, hG.cell z3⟩)
                  (first
                    | ((go_at_call 57; with_reducible refine (H57a.out _ ?_).mono ?_; assumption; rintro e w5 ⟨xq, cq, rfl, hG⟩))
                    | ((go_at_call 57; with_reducible refine (H57b.out _ ?_).mono ?_; assumption; rintro e w5 ⟨xq, cq, rfl, hG⟩)))
                all_goals
                  have hO2 := (hO.out.below hbi).below hG
                  have hbw : Below w1.heap.size w1 w5 := hgw.to hG
                  have hs6 := hbw.size
                  go_wp2_with (at_builtin; refine wl_app_own Tryd.underlying22 elem3 w1.heap.size (.tmp 61) (.tmp 63) rfl rfl rfl rfl (hO2.alloc _) (isL_one _ _ _) (by simp; omega) (by omega) ?_)
                  intro a7 c7 w7 ho7 hg7 hb7 _
                  have hO5 : Hid (OwnL w7 3 w1.heap.size a7 (n2 + 1) c7 (li (idleK R C z s (i + 1)))) := Lib.hid (by rw [HSI.out, if_pos (by simp), li_app]; exact ho7)
                  have hb8 : Below w1.heap.size w1 w7 := (hbw.alloc (by omega) _).trans hb7
                  clear ho7 hg7 hb7 hO2 hO
                  go_wp2_with fail
                  go_roundw
                  case rel => first | exact ⟨i + 1, n2 + 1, a7, c7, by omega, by go_num, rfl, by omega, hO5, hb8⟩ | ((repeat apply Exists.intro); exact ⟨⟨i + 1, n2 + 1, a7, c7, by omega, by go_num, rfl, by omega, hO5, hb8⟩, rfl⟩)
                  case measure => (simp [intOf] <;> omega)
              | false =>
                rw [hf] at HII HSI
                have q5 : ((Pi : Int) == (P : Int)) = false := by
                  have : ¬ Pi = P := fun h => by have := (HII.out (by simp)).1 h; cases this
                  simp; omega
                go_wp2_with fail
                go_region_held3 (fun w' => w'.cell? ⟨w.heap.size, 0, none⟩ = some (.int .i64 (R : Int)) ∧ w'.cell? ⟨w.heap.size, 1, none⟩ = some (.int .i64 (C : Int)) ∧ w'.cell? ⟨w.heap.size, 2, none⟩ = some (.slice a n k) ∧ w'.cell? ⟨w.heap.size, 3, none⟩ = some (.slice b m j) ∧ w'.cell? ⟨wo.heap.size, 0, none⟩ = some (.int .i64 (R : Int)) ∧ w'.cell? ⟨wo.heap.size, 1, none⟩ = some (.int .i64 (C : Int)) ∧ w'.cell? ⟨wo.heap.size, 2, none⟩ = some (.slice x nx cx) ∧ w'.cell? ⟨wo.heap.size, 3, none⟩ = some (.slice b m j)) (first | go_keep | exact ⟨hG.cell x0, hG.cell x1, hG.cell x2, hG.cell x3, hG.cell z0, hG.cell z1, hG.cell z2, hG.cell z3⟩)
                  (first
                    | ((go_at_call 57; with_reducible refine (H57a.out _ ?_).mono ?_; assumption; rintro e w5 ⟨xq, cq, rfl, hG⟩))
                    | ((go_at_call 57; with_reducible refine (H57b.out _ ?_).mono ?_; assumption; rintro e w5 ⟨xq, cq, rfl, hG⟩)))
                all_goals
                  have hO5 : Hid (OwnL w5 3 w1.heap.size ao n2 co (li (idleK R C z s (i + 1)))) := Lib.hid (by rw [HSI.out, if_neg (by simp), List.append_nil]; exact (hO.out.below hbi).below hG)
                  have hb8 : Below w1.heap.size w1 w5 := hgw.to hG
                  clear hO
                  go_wp2_with fail
                  go_roundw
                  case rel => first | exact ⟨i + 1, n2, ao, co, by omega, by go_num, rfl, by omega, hO5, hb8⟩ | ((repeat apply Exists.intro); exact ⟨⟨i + 1, n2, ao, co, by omega, by go_num, rfl, by omega, hO5, hb8⟩, rfl⟩)
                  case measure => (simp [intOf] <;> omega)
      · obtain rfl : N = i := by omega
        have HO9 : Hid (OwnL wr 3 w1.heap.size ao n2 co (li (idles R C z s))) := Lib.hid (by rw [← HFI.out]; exact hO.out)
        go_wp2_with fail
        go_ret2
        exact LP.ok HE.out HR.out HO9.out.isL (hb1.trans (hb.mono hb1.size))
  · have t1 : (E != 0) = true := by simpa using h0
    have t2 : (E == 0) = false := by simpa using h0
    have H0 : Hid (openE r c S F ≠ 0) := Lib.hid (by rw [hE]; exact h0)
    clear h0 hE hS hF
    go_enter Tryd.func21, Tryd.ntmps21
    go_wp2_with fail
    refine HC.out.mono ?_
    rintro e w1 ⟨rfl, b1⟩
    rw [HE.out]
    have hb1 := (HB0.out.to b1).below
    clear HC x0 x1 x2 x3 b1 HB0
    go_wp2_with fail
    go_ret2
    exact LP.nil HE.out (bad_idle H0.out) hb1
end Go.Proofs.YtbhjphcomppjgaaDoor
