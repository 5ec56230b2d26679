/- Walks of chapter 06: the law's own counting, one by one. -/
import Derived.Test.YthocenkedncoeaaWk
import Derived.Test.YthocenkedncoeaaPy
import Derived.Test.YthocenkedncoeaaLib
import Derived.Deep.LoopGhost
namespace Go.Proofs.Ythocenkedncoeaa
open Go.RowKit Bench06

theorem elem4 : (Try.prog.info? 4).map (fun i => (i.zero, i.size, i.bytes)) = some (some (.bool false), 1, 1) := by kernel_rfl

set_option maxHeartbeats 4000000 in
set_option maxRecDepth 100000 in
theorem counts_any (n k : Nat) (w : World) (n0 : 1 ≤ n) (n1 : n ≤ 20) (k0 : 1 ≤ k) (k1 : k ≤ 1000) :
    Calls Try.prog 38 #[.int .i64 n, .int .i64 k] w fun e w' => ∃ ao co at_ T, e = .returned (.tuple #[.slice ao n co, .slice at_ n n]) ∧ IsL w' ao n co (ordL n k) ∧ IsL w' at_ n n T ∧ (∀ x : Nat, x < n → T.getD x 0 = cntG k n (rng n) x) ∧ Below w.heap.size w w' := by
  go_enter Try.func38, Try.ntmps38
  go_wp2_with (at_make; refine wl_make (Value.int .i64) 0 (.int .i64 0) 8 w.heap.size Try.underlying22 elem3 rfl rfl (.tmp 8) (.tmp 8) rfl rfl n rfl rfl (by omega) (by omega) (Nat.le_refl _) ?_)
  intro w1 ot gt bt
  have hTlt := (OwnG.lt ot _ rfl).2
  go_wp2_with (at_make; refine wl_make Value.bool false (.bool false) 1 w.heap.size Try.underlying67 elem4 rfl rfl (.tmp 10) (.tmp 10) rfl rfl n rfl rfl (by omega) (by omega) bt.size ?_)
  intro w2 og gg bg
  have hne : w.heap.size ≠ w1.heap.size := by omega
  have ot2 := ot.grownN gg
  have b2 := bt.trans bg
  clear gt bt gg bg ot hTlt
  have sTG : Sep (some ⟨w.heap.size, 0, none⟩) (some ⟨w1.heap.size, 0, none⟩) := by rintro x y hx hy; cases hx; cases hy; exact hne
  go_wp2
  go_loopw [4, 7, 15] (fun vo va vp wr => ∃ (p a co : Nat) (G : List Bool) (T out : List Int) (ao : Option Addr), p ≤ n ∧ vp = .int .i64 p ∧ va = .int .i64 a ∧ vo = .slice ao p co ∧ Hid (RoundSt n k p a G T out) ∧ Hid (∀ x : Nat, x < n → 0 ≤ T.getD x 0) ∧ OwnL wr 3 w.heap.size (some ⟨w.heap.size, 0, none⟩) n n T ∧ OwnG Value.bool wr 4 w.heap.size (some ⟨w1.heap.size, 0, none⟩) n n G ∧ OwnL wr 3 w.heap.size ao p co out ∧ Sep (some ⟨w.heap.size, 0, none⟩) ao ∧ Sep (some ⟨w1.heap.size, 0, none⟩) ao ∧ Below w.heap.size w wr) (fun _ _ vp _ => n - (intOf vp).toNat)
  case atStart => exact ⟨0, n - 1, 0, _, _, [], none, by omega, rfl, by go_num, rfl, Lib.hid (RoundSt.start n k n0), Lib.hid (fun x hx => by simp [List.getD, hx]), ot2, og, OwnL.nilL _ _ _, Sep.none_right _, Sep.none_right _, b2⟩
  case round =>
    obtain ⟨p, a, co, G, T, out, ao, hp, rfl, rfl, rfl, hR, hT0, oT, oG, oo, sT, sG, bl⟩ := hrel
    have hsz := bl.size
    by_cases hpn : p < n
    · have hlenB := hR.out.sit
      have hndB := hR.out.nd
      go_wp2
      go_loopw [7, 18] (fun va vj wr => ∃ (j a' : Nat) (T' : List Int), j ≤ k ∧ vj = .int .i64 j ∧ va = .int .i64 a' ∧ Hid (InSt n j (sits n G a) a' G T T') ∧ OwnL wr 3 w.heap.size (some ⟨w.heap.size, 0, none⟩) n n T' ∧ OwnG Value.bool wr 4 w.heap.size (some ⟨w1.heap.size, 0, none⟩) n n G ∧ OwnL wr 3 w.heap.size ao p co out ∧ Below w.heap.size w wr) (fun _ vj _ => k - (intOf vj).toNat)
      case atStart => exact ⟨0, a, T, by omega, rfl, rfl, Lib.hid (InSt.start hR.out), oT, oG, oo, bl⟩
      case round =>
        obtain ⟨j, a', T', hj, rfl, rfl, hI, oT, oG, oo, bl⟩ := hrel
        have hsz := bl.size
        by_cases hjk : j < k
        · obtain ⟨d, x, hd, hx, hxn, hGx, hbef, hI2⟩ := hI.out.step (by omega) hndB
          have hal := hI.out.a_lt
          have hTb := InSt.bound hR.out hI.out k0 k1 n1 hj hT0.out x hxn
          have HX := Lib.hid hx
          have HB := Lib.hid hbef
          have HI2 := Lib.hid hI2
          have hnz : ((n : Int) == 0) = false := by simp; omega
          clear hx hbef hI2 hI
          go_wp2
          go_loopg [7] d (fun gk va wx => wr = wx ∧ ∃ d' : Nat, d' ≤ d ∧ gk = d - d' ∧ va = .int .i64 (((a' + 1 + d') % n : Nat) : Int))
          case atStart => exact ⟨rfl, 0, by omega, by omega, by go_num⟩
          case round =>
            obtain ⟨rfl, d', hd', rfl, rfl⟩ := hrel
            have hxd := HX.out
            have hbd := HB.out d'
            have hym : (a' + 1 + d') % n < n := Nat.mod_lt _ (by omega)
            have hyn : ((((a' + 1 + d') % n : Nat) : Int) + 1) % (n : Int) = (((a' + 1 + (d' + 1)) % n : Nat) : Int) := by
              rw [← Int.natCast_one, ← Int.natCast_add, ← Int.natCast_emod, Nat.mod_add_mod]; rfl
            obtain ⟨y, hy⟩ : ∃ y, (a' + 1 + d') % n = y := ⟨_, rfl⟩
            obtain ⟨y2, hy2⟩ : ∃ y, (a' + 1 + (d' + 1)) % n = y := ⟨_, rfl⟩
            rw [hy2, hy] at hyn
            rw [hy] at hbd hym ⊢
            have HY2 := Lib.hid hy2
            clear hy2
            obtain ⟨hcg, hfg⟩ := oG.cell y false hym
            by_cases hdd : d' < d
            · rw [hbd hdd] at hcg
              clear hbd hy hxd
              go_wp2
              go_roundg (d - (d' + 1))
              case measure => omega
              case rel => exact ⟨rfl, d' + 1, by omega, rfl, by rw [HY2.out, hyn]⟩
            · obtain rfl : d' = d := by omega
              obtain rfl : x = y := by omega
              rw [hGx] at hcg
              clear hbd hyn hy hxd
              obtain ⟨hct, hft⟩ := oT.gen.cell x 0 hxn
              generalize T'.getD x 0 = v at *
              obtain ⟨hv0, hv1⟩ := hTb
              have oT9 := oT.set x (v + 1) hxn
              have gr := grown_setCell wr w.heap.size x (.int .i64 (v + 1))
              have oG9 := oG.grownS gr sTG.symm
              have oo9 := oo.grownS gr sT.symm
              have bl9 := bl.setCell (p := ⟨w.heap.size, x, none⟩) (Nat.le_refl _) (.int .i64 (v + 1))
              clear gr
              go_wp2
              go_roundw
              case rel => exact ⟨j + 1, x, _, by omega, by go_num, rfl, HI2, oT9, oG9, oo9, bl9⟩
              case measure => simp [intOf]; omega
        · obtain rfl : j = k := by omega
          have hdn := InSt.done k0 hpn hR.out hI.out
          have hal := hI.out.a_lt
          have hT9 : Hid (∀ x : Nat, x < n → 0 ≤ T'.getD x 0) := Lib.hid (fun x hx => (InSt.bound hR.out hI.out k0 k1 n1 (Nat.le_refl _) hT0.out x hx).1)
          have HR2 := Lib.hid hdn
          clear hdn hI hR hT0
          obtain ⟨hcg, hfg⟩ := oG.cell a' false hal
          have oG9 := oG.set a' true
          have gr := grown_setCell wr w1.heap.size a' (.bool true)
          have oT9 := oT.grownS gr sTG
          have oo9 := oo.grownS gr sG.symm
          have bl9 := bl.setCell (p := ⟨w1.heap.size, a', none⟩) (by have := (oG.lt _ rfl).1; exact this) (.bool true)
          clear gr
          generalize G.getD a' false = gv at *
          go_wp2_with (at_builtin; refine wl_app_own Try.underlying22 elem3 w.heap.size (.tmp 42) (.tmp 44) rfl rfl rfl rfl (oo9.alloc _) (isL_oneAt _ _ _ _ (by simp [World.setCell])) (by have := bl9.size; simp at this ⊢; omega) (by omega) ?_)
          intro a2 c2 w5 oo5 hg5 bb5 hv5
          have oT5 := (oT9.alloc (.cells #[.int .i64 a'] 3)).grown hg5 sT
          have oG5 := (oG9.alloc (.cells #[.int .i64 a'] 3)).grown hg5 sG
          have bl5 := (bl9.alloc bl9.size (.cells #[.int .i64 a'] 3)).trans bb5
          have sT5 : Sep (some ⟨w.heap.size, 0, none⟩) a2 := (sT.symm.via hv5 (fun x hx => by have := (oT9.lt x hx).2; simp at this ⊢; omega)).symm
          have sG5 : Sep (some ⟨w1.heap.size, 0, none⟩) a2 := (sG.symm.via hv5 (fun x hx => by have := (oG9.lt x hx).2; simp at this ⊢; omega)).symm
          clear hg5 bb5 hv5 oo9 oT9 oG9 bl9
          go_wp2
          go_roundw
          case rel => exact ⟨p + 1, a', c2, G.set a' true, T', out ++ [(a' : Int)], a2, by omega, by go_num, rfl, rfl, HR2, hT9, oT5, oG5, oo5, sT5, sG5, bl5⟩
          case measure => simp [intOf]; omega
    · obtain rfl : p = n := by omega
      obtain ⟨h1, h2⟩ := RoundSt.last hR.out
      rw [h1] at oo
      have H2 := Lib.hid h2
      clear h1 h2 hR hT0
      go_wp2
      go_ret2
      exact ⟨ao, co, _, T, rfl, oo.isL, oT.isL, H2.out, bl⟩
end Go.Proofs.Ythocenkedncoeaa
