/- Law of chapter 9: BeetleIdle. -/
import Derived.Test.YtbhjphcomppjgaaDoorVf
import Derived.Test.YtbhjphcomppjgaaDoorPq
import Derived.Test.YtbhjphcomppjgaaDoorWk
namespace Go.Proofs.YtbhjphcomppjgaaDoor
open Go.RowKit Beetle09
set_option maxHeartbeats 32000000 in
set_option maxRecDepth 100000 in
theorem BeetleIdle_any (p q x y : Nat) (w : World) (hp : p < 256) (hq : q < 256) (hx : x < 4294967296) (hy : y < 4294967296) (hT : Tab w) : Calls Tryd.prog 12 #[floV p q x y] w fun e w' => e = .returned (.bool true) ∧ Below w.heap.size w w' := by
  have HM := Lib.hid (made5_any p q x y true (w.alloc (.cells (floL p q x y).toArray 58)) hp hq hx hy)
  have HMO := Lib.hid (mk_open (p := p) (q := q) (x := x) (y := y) (b := true) (M := 5) (by decide) (by decide))
  have HTT := Lib.hid hT
  clear hT
  go_enter Tryd.func12, Tryd.ntmps12
  go_wp2_with fail
  refine HM.out.mono ?_
  rintro e w1 ⟨aS, nS, cS, aC, nC, cC, rfl, hS, hF, hb⟩
  obtain ⟨R, hR⟩ : ∃ R, mkN p 5 = R := ⟨_, rfl⟩
  obtain ⟨C, hC⟩ : ∃ C, mkN q 5 = C := ⟨_, rfl⟩
  rw [hR, hC] at hS hF HMO
  simp only [hR, hC]
  obtain ⟨sk, hsk⟩ : ∃ sk, mkS (R * C) x = sk := ⟨_, rfl⟩
  obtain ⟨zk, hzk⟩ : ∃ zk, mkZ true (R * C) x y = zk := ⟨_, rfl⟩
  rw [hsk] at hS HMO
  rw [hzk] at hF HMO
  simp only [hsk, hzk]
  have H0 := Lib.hid HMO.out.1
  have HOP := Lib.hid HMO.out.2
  have n25 := HOP.out.sd.n25
  have hR5 := HOP.out.sd.r5
  have hC5 := HOP.out.sd.c5
  have hs25 := HOP.out.s25
  have hz25 := HOP.out.z25
  have HL0 := Lib.hid (LwS.start (R := R) (C := C) hS hF HTT.out hb)
  clear HM HMO hS hF hb HTT hR hC hsk hzk
  obtain ⟨gS, hgS⟩ : ∃ g, w1.heap.size = g := ⟨_, rfl⟩
  go_wp2_with fail
  rw [hgS] at HL0
  obtain ⟨W, hW⟩ : ∃ W, ((w1.alloc (.cells #[.int .i64 (R : Int), .int .i64 (C : Int), .slice aS nS cS, .slice aC nC cC] 24)).alloc (.cells #[.int .i64 (R : Int), .int .i64 (C : Int)] 60)) = W := ⟨_, rfl⟩
  rw [hW] at HL0 ⊢
  clear hW hgS
  have HIL : Hid (idleE (R : Int) (C : Int) (li (els 25 sk).reverse) (li (els 25 zk)) = li ((els 25 sk).filter (fun n => decide (fin R C zk (del sk n) = fin R C zk sk)))) := Lib.hid (by rw [HOP.out.idle H0.out, idle_law hs25 HOP.out.rs.lt n25])
  have HM : Hid (∀ i, i < (els 25 sk).length → (els 25 sk).getD i 0 < R * C) := Lib.hid fun i hi => by
    have : (els 25 sk).getD i 0 ∈ els 25 sk := by rw [List.getD, List.getElem?_eq_getElem hi]; exact List.getElem_mem hi
    exact bit_lt HOP.out.rs.lt (mem_els.1 this).2
  have HSPR := Lib.hid (fun (d : Nat) (w : World) (hd : d < 2 ^ (R * C)) => lspread_any R C d zk w HOP.out.sd hd HOP.out.rz.lt)
  refine (bits_any sk W (by omega)).mono ?_
  rintro e w2 ⟨aB, cB, rfl, hB, b2⟩
  have HB2 := Lib.hid hB
  have hP := pcN_le 25 sk
  have HLL := Lib.hid (els_len 25 sk)
  have hcB := hB.isL.cap
  have hlB := hB.isL.le
  obtain ⟨L, hL⟩ : ∃ L, els 25 sk = L := ⟨_, rfl⟩
  obtain ⟨P, hPe⟩ : ∃ P, pcN 25 sk = P := ⟨_, rfl⟩
  rw [hL, hPe] at HLL
  rw [hL] at HM
  rw [hL, hPe] at HB2
  rw [hPe] at hP hlB
  have HLR : Hid (els 25 sk = L) := Lib.hid hL
  rw [hPe]
  have hWs := HL0.out.lt
  clear hB hL hPe
  go_wp2_with fail
  go_loopw [22, 7] (fun vi vo wr => ∃ (i n2 : Nat) (ao : Option Addr) (co : Nat) (out : List Nat), i ≤ P ∧ vi = .int .i64 (i : Int) ∧ vo = .slice ao n2 co ∧ n2 ≤ i ∧ Hid (out = (L.take i).filter (fun n => decide (fin R C zk (del sk n) = fin R C zk sk))) ∧ Hid (OwnL wr 3 W.heap.size ao n2 co (li out)) ∧ Hid (OwnL wr 3 W.heap.size aB P cB (li L)) ∧ Hid (Sep ao aB) ∧ Below W.heap.size W wr) (fun vi _ _ => P - (intOf vi).toNat)
  case atStart => exact ⟨0, 0, none, 0, [], by omega, rfl, rfl, by omega, Lib.hid rfl, Lib.hid (OwnL.nilL _ _ _), HB2, Lib.hid (Sep.none_left _), b2⟩
  case round =>
    clear HB2 b2
    obtain ⟨i, n2, ao, co, out, hi, rfl, rfl, hn2, hE, hO, hQ, hS, hb⟩ := hrel
    have hT := Lib.hid (HL0.out.to hb)
    have hsz2 := hb.size
    have z0 := val hT.out.pl 0 rfl
    have z1 := val hT.out.pl 1 rfl
    have t0 := val hT.out.st 0 rfl
    have t1 := val hT.out.st 1 rfl
    have t2 := val hT.out.st 2 rfl
    have t3 := val hT.out.st 3 rfl
    by_cases hlt : i < P
    · have q1 : (i : Int) < (P : Int) := by omega
      obtain ⟨ga, rfl⟩ := hQ.out.addr (by omega)
      have y1 := (hQ.out.gen.cell i 0 hlt).1
      rw [li_get] at y1
      have hvN := HM.out i (by rw [HLL.out]; exact hlt)
      have hft := filt_take (p := fun n => decide (fin R C zk (del sk n) = fin R C zk sk)) (l := L) (i := i) (by rw [HLL.out]; exact hlt)
      obtain ⟨v, hv⟩ : ∃ v, L.getD i 0 = v := ⟨_, rfl⟩
      rw [hv] at y1 hvN hft
      rw [← hE.out] at hft
      have hv25 : v < 25 := by omega
      obtain ⟨V, hV, hV1, f1, f2, f3⟩ := pow_facts v hv25
      obtain ⟨d, hd⟩ : ∃ d, del sk v = d := ⟨_, rfl⟩
      have f4 : bits .andNot .u32 (sk : Int) (V : Int) = (d : Int) := by rw [u32_andNot_nat sk V (by omega) (by omega), ← hd, del, hV]
      have hdl : d < 2 ^ (R * C) := by rw [← hd]; exact del_lt HOP.out.rs.lt
      have HDL := Lib.hid hdl
      rw [hd] at hft
      have H49a : Hid (∀ w', GoodW wr w' → Calls Tryd.prog 49 #[plV R C, .int .u32 (d : Int), .int .u32 (zk : Int)] w' fun e w2 => e = .returned (.int .u32 (fin R C zk d : Nat)) ∧ GoodW wr w2) := Lib.hid fun w' h => (HSPR.out d w' HDL.out).mono fun _ _ ⟨he, hb⟩ => ⟨he, h.to hb⟩
      have H49b : Hid (∀ w', GoodW wr w' → Calls Tryd.prog 49 #[plV R C, .int .u32 (sk : Int), .int .u32 (zk : Int)] w' fun e w2 => e = .returned (.int .u32 (fin R C zk sk : Nat)) ∧ GoodW wr w2) := Lib.hid fun w' h => (HSPR.out sk w' HOP.out.rs.lt).mono fun _ _ ⟨he, hb⟩ => ⟨he, h.to hb⟩
      obtain ⟨qd, hqd⟩ : ∃ q, fin R C zk d = q := ⟨_, rfl⟩
      obtain ⟨qs, hqs⟩ : ∃ q, fin R C zk sk = q := ⟨_, rfl⟩
      rw [hqd] at H49a
      rw [hqs] at H49b
      rw [hqd, hqs] at hft
      have HQS := Lib.hid hqs
      obtain ⟨B, hB⟩ : ∃ B, decide (qd = qs) = B := ⟨_, rfl⟩
      have heq : ((qd : Int) == (qs : Int)) = B := by rw [← hB, Bool.eq_iff_iff, beq_iff_eq, decide_eq_true_eq]; omega
      rw [hB] at hft
      have HFT := Lib.hid hft
      have HG0 : GoodW wr wr.drew := (Below.refl _ _).drew
      clear hv hV hd hqd hqs hB hft hdl hE t0 t1 t2 t3
      go_wp2_with fail
      go_region_held3 (fun w' => w'.cell? ⟨gS + 1, 0, none⟩ = some (.int .i64 (R : Int)) ∧ w'.cell? ⟨gS + 1, 1, none⟩ = some (.int .i64 (C : Int))) (first | go_keep | exact ⟨hG.cell z0, hG.cell z1⟩)
        (first
          | ((go_at_call 49; with_reducible refine (H49a.out _ ?_).mono ?_; assumption; rintro e w5 ⟨rfl, hG⟩))
          | ((go_at_call 49; with_reducible refine (H49b.out _ ?_).mono ?_; assumption; rintro e w5 ⟨rfl, hG⟩)))
      all_goals
        have hO5 := Lib.hid (hO.out.below hG)
        have hQ5 := Lib.hid (hQ.out.below hG)
        have hb5 : Below W.heap.size W w5 := hb.trans (Below.mono hG hsz2)
        have hz5 := hb5.size
        clear hO hQ hT H49a H49b hG z0 z1
        cases B with
        | true =>
          go_wp2_with (at_builtin; refine wl_app_own Tryd.underlying22 elem3 W.heap.size (.tmp 38) (.tmp 40) rfl rfl rfl rfl (hO5.out.alloc _) (isL_one _ _ _) (by simp; omega) (by omega) ?_)
          intro a6 c6 w6 ho6 hg6 hb6 hv6
          have hO6 : Hid (OwnL w6 3 W.heap.size a6 (n2 + 1) c6 (li (out ++ [v]))) := Lib.hid (by rw [li_app]; exact ho6)
          have hQ6 : Hid (OwnL w6 3 W.heap.size (some ⟨ga, 0, none⟩) P cB (li L)) := Lib.hid ((hQ5.out.alloc _).grown hg6 hS.out.symm)
          have hS6 : Hid (Sep a6 (some ⟨ga, 0, none⟩)) := Lib.hid (hS.out.via hv6 fun x' hx' => ((hQ5.out.alloc _).lt x' hx').2)
          have hb7 : Below W.heap.size W w6 := (hb5.alloc (by omega) _).trans hb6
          have HE6 : Hid (out ++ [v] = (L.take (i + 1)).filter (fun n => decide (fin R C zk (del sk n) = fin R C zk sk))) := Lib.hid (by rw [HQS.out, HFT.out]; rfl)
          clear ho6 hg6 hb6 hv6 hb5 hO5 hQ5 HFT
          go_wp2_with fail
          go_roundw
          case rel => first | exact ⟨i + 1, n2 + 1, a6, c6, out ++ [v], by omega, by go_num, rfl, by omega, HE6, hO6, hQ6, hS6, hb7⟩ | ((repeat apply Exists.intro); exact ⟨⟨i + 1, n2 + 1, a6, c6, out ++ [v], by omega, by go_num, rfl, by omega, HE6, hO6, hQ6, hS6, hb7⟩, rfl⟩)
          case measure => (simp [intOf] <;> omega)
        | false =>
          have HE6 : Hid (out = (L.take (i + 1)).filter (fun n => decide (fin R C zk (del sk n) = fin R C zk sk))) := Lib.hid (by rw [HQS.out, HFT.out]; simp)
          clear HFT
          go_wp2_with fail
          go_roundw
          case rel => first | exact ⟨i + 1, n2, ao, co, out, by omega, by go_num, rfl, by omega, HE6, hO5, hQ5, hS, hb5⟩ | ((repeat apply Exists.intro); exact ⟨⟨i + 1, n2, ao, co, out, by omega, by go_num, rfl, by omega, HE6, hO5, hQ5, hS, hb5⟩, rfl⟩)
          case measure => (simp [intOf] <;> omega)
    · obtain rfl : i = P := by omega
      have HFIN : Hid (idleE (R : Int) (C : Int) (li (els 25 sk).reverse) (li (els 25 zk)) = li out) := Lib.hid (by rw [HIL.out, hE.out, HLR.out, List.take_of_length_le (by rw [HLL.out]; exact Nat.le_refl _)])
      go_wp2_with fail
      refine (Idle_c hT.out.iS hT.out.iF hT.out.tab H0.out HFIN.out).mono ?_
      rintro e w5 ⟨al, nl, cl, rfl, hl, b5⟩
      have HT5 := Lib.hid (hT.out.to b5)
      have hO5 := hO.out.isL.below b5
      go_wp2_with fail
      refine (same_c hl hO5).mono ?_
      rintro e w6 ⟨rfl, b6⟩
      have HT6 := Lib.hid (HT5.out.to b6)
      go_wp2_with fail
      refine (works_any _ HT6.out.tab).mono ?_
      rintro e w7 ⟨rfl, b7⟩
      have hk := (HT6.out.to b7).below
      go_wp2
      go_ret
      exact ⟨rfl, hk⟩
end Go.Proofs.YtbhjphcomppjgaaDoor
