/- Walks of chapter 06: the reference's First. -/
import Derived.Test.YthocenkedncoeaaWrg
import Derived.Test.YthocenkedncoeaaWh
import Derived.Test.YthocenkedncoeaaWre
namespace Go.Proofs.Ythocenkedncoeaa
open Go.RowKit Bench06

theorem rFirst_range (r : Int) (a : Option Addr) (n c : Nat) (w : World) (h : ¬ (1 ≤ r ∧ r ≤ 20)) :
    Calls Try.prog 36 #[.int .i64 r, .slice a n c] w fun e w' => e = .returned (.tuple #[.int .i64 0, .int .i64 1]) ∧ w = w' := by
  have H := Lib.hid h
  clear h
  go_enter Try.func36, Try.ntmps36
  go_wp2_with (go_at_call 50; refine (in_no _ _ _ _ H.out).mono ?_; rintro e w' ⟨rfl, rfl⟩)
  go_ret2
  exact ⟨rfl, rfl⟩

set_option maxHeartbeats 1600000 in
set_option maxRecDepth 100000 in
theorem rFirst_ok (r : Int) (a : Option Addr) (n c : Nat) (l : List Int) (w : World) (h0 : 1 ≤ r) (h1 : r ≤ 20) (hl : IsL w a n c l) :
    Calls Try.prog 36 #[.int .i64 r, .slice a n c] w fun e w' => e = .returned (.tuple #[.int .i64 (firstL r l).1, .int .i64 (firstL r l).2]) ∧ Below w.heap.size w w' := by
  have hlen := Lib.hid hl.len
  have hcap := hl.cap
  have hle := hl.le
  go_enter Try.func36, Try.ntmps36
  go_wp2_with fail
  refine (in_yes _ _ _ _ h0 h1).mono ?_
  rintro e w' ⟨rfl, rfl⟩
  go_wp2
  go_loopw [6] (fun vi wr => ∃ (i : Nat) (b : Int), i ≤ n ∧ vi = .int .i64 i ∧ Hid (homeG r b (l.drop i) = homeL r l) ∧ Hid ((i = 0 → b = -1) ∧ (0 < i → b = l.getD (i - 1) 0)) ∧ Below w.heap.size w wr) (fun vi _ => n - (intOf vi).toNat)
  case atStart => exact ⟨0, -1, by omega, rfl, Lib.hid rfl, Lib.hid ⟨fun _ => rfl, fun h => by omega⟩, Below.refl _ _⟩
  case round =>
    obtain ⟨i, b, hi, rfl, heq, hbef, hbr⟩ := hrel
    by_cases hlt : i < n
    · obtain ⟨bb, of, rfl, hbl, hcells⟩ := hl.cells (by omega)
      have hcell := (hbr.cell (p := ⟨bb, of + i, none⟩) hbl).trans (hcells i hlt)
      have hcell1 : 0 < i → wr.cell? ⟨bb, of + (i - 1), none⟩ = some (.int .i64 (l.getD (i - 1) 0)) := fun h => (hbr.cell (p := ⟨bb, of + (i - 1), none⟩) hbl).trans (hcells (i - 1) (by omega))
      have hstep := heq.out
      rw [drop_getD l i (by rw [hlen.out]; exact hlt), homeG] at hstep
      have hk1 : (i : Int) < (n : Int) := by omega
      have hnext : Hid ((i + 1 = 0 → l.getD i 0 = -1) ∧ (0 < i + 1 → l.getD i 0 = l.getD (i + 1 - 1) 0)) := Lib.hid ⟨fun h => by omega, fun _ => rfl⟩
      clear hcells heq
      by_cases g1 : 0 ≤ l.getD i 0 ∧ l.getD i 0 ≤ r - 1
      · rw [if_neg (by simpa using g1)] at hstep
        obtain ⟨g1a, g1b⟩ := g1
        by_cases hi0 : 0 < i
        · have hc1 : wr.cell? ⟨bb, of + (i - 1), none⟩ = some (.int .i64 (l.getD (i - 1) 0)) := hcell1 hi0
          have hb2 := hbef.out.2 hi0
          rw [hb2] at hstep
          have hi0' : (0 : Int) < (i : Int) := by omega
          have hi1' : (0 : Int) ≤ (i : Int) - 1 := by omega
          have hi2' : (i : Int) - 1 < (n : Int) := by omega
          have hw1 : IntKind.i64.wrap ((i : Int) - 1) = (i : Int) - 1 := IntWalk.i64_in _ (by omega)
          have hd0 : decide ((0 : Int) < (i : Int)) = true := by simp; omega
          clear hcell1 hb2 hbef
          have hNEXT := hnext
          clear hnext
          generalize l.getD (i - 1) 0 = y at *
          by_cases g2 : l.getD i 0 ≤ y
          · rw [if_pos g2] at hstep
            have HS : Hid (firstL r l = (0, 7)) := Lib.hid (by rw [firstL, ← hstep]; rfl)
            clear hstep hNEXT
            generalize l.getD i 0 = x at *
            go_wp2_with (go_at_call 50; refine (in_yes _ _ _ _ g1a g1b).mono ?_; rintro e w' ⟨rfl, rfl⟩)
            go_quiet (fail)
            go_wp2
            go_ret2
            exact ⟨ret_ii (by rw [HS.out]) (by rw [HS.out]), belowN hbr _⟩
          · rw [if_neg g2] at hstep
            have HS := Lib.hid hstep
            clear hstep
            generalize l.getD i 0 = x at *
            go_wp2_with (go_at_call 50; refine (in_yes _ _ _ _ g1a g1b).mono ?_; rintro e w' ⟨rfl, rfl⟩)
            go_quiet (fail)
            go_wp2
            go_roundw
            case rel => exact ⟨i + 1, x, by omega, by go_num, HS, hNEXT, belowN hbr _⟩
            case measure => simp [intOf]; omega
        · obtain rfl : i = 0 := by omega
          rw [Nat.add_zero] at hcell
          have hb2 := hbef.out.1 rfl
          rw [hb2, if_neg (by omega)] at hstep
          have HS := Lib.hid hstep
          clear hstep hcell1 hb2 hbef
          clear hnext
          generalize hx0 : l.getD 0 0 = x at *
          have HX0 := Lib.hid hx0
          clear hx0
          go_wp2_with (go_at_call 50; refine (in_yes _ _ _ _ g1a g1b).mono ?_; rintro e w' ⟨rfl, rfl⟩)
          go_quiet (fail)
          go_wp2
          go_roundw
          case rel => exact ⟨1, x, by omega, by go_num, HS, Lib.hid ⟨fun h => by omega, fun _ => HX0.out.symm⟩, belowN hbr _⟩
          case measure => simp [intOf]; omega
      · rw [if_pos g1] at hstep
        have HS : Hid (firstL r l = (0, 2)) := Lib.hid (by rw [firstL, ← hstep]; rfl)
        have G := Lib.hid g1
        clear hstep g1 hcell1 hnext hbef
        generalize l.getD i 0 = x at *
        go_wp2_with (go_at_call 50; refine (in_no _ _ _ _ G.out).mono ?_; rintro e w' ⟨rfl, rfl⟩)
        go_ret2
        exact ⟨ret_ii (by rw [HS.out]) (by rw [HS.out]), hbr⟩
    · have hz : homeL r l = 0 := by rw [← heq.out, List.drop_of_length_le (by rw [hlen.out]; omega)]; rfl
      have HS : Hid (firstL r l = tryL (firstP r l)) := Lib.hid (by rw [firstL, if_pos hz])
      have hn := homeG_len r l (-1) (by omega) hz
      rw [hlen.out] at hn
      have hfo : Hid (∀ k, firstP r l k = ((ordL r.toNat k).take n).all (fun x => decide (x ∈ l))) := Lib.hid (fun k => by
        have := first_ord r l k (by rw [hlen.out]; omega)
        rwa [hlen.out] at this)
      have hle' : (i : Int) ≤ (n : Int) := by omega
      obtain rfl : i = n := by omega
      clear heq hz hbef
      go_wp2
      go_loopw [7] (fun vk wq => ∃ k : Nat, k ≤ 1000 ∧ vk = .int .i64 ((k : Int) + 1) ∧ Below w.heap.size w wq ∧ Hid (tryG (firstP r l) (1000 - k) k = tryL (firstP r l))) (fun vk _ => 1002 - (intOf vk).toNat)
      case atStart => exact ⟨0, by omega, rfl, hbr, Lib.hid rfl⟩
      case round =>
        obtain ⟨k, hk, rfl, hb, heq⟩ := hrel
        by_cases hlt2 : k < 1000
        · have hkt : ((k : Int) + 1).toNat = k + 1 := by omega
          have HKT := Lib.hid hkt
          clear hkt
          go_wp2_with (go_at_call 47; refine (rorder_any _ _ _ h0 h1 (by omega) (by omega)).mono ?_; rintro e w1 ⟨ao, co, rfl, hown, hb1⟩; rw [HKT.out] at hown)
          have hlo := hown.isL
          have hb2 := hb.trans (hb1.mono hb.size)
          have hl2 := hl.below hb2
          clear hown hb hb1
          generalize hO : ordL r.toNat (k + 1) = lo at *
          have HO := Lib.hid hO
          clear hO
          have hlo1 := hlo.le
          have hlo2 := hlo.cap
          go_loop [9, 10] (fun vg vi => ∃ (j : Nat) (g : Bool), j ≤ i ∧ vi = .int .i64 j ∧ vg = .bool g ∧ Hid ((lo.take j).all (fun x => decide (x ∈ l)) = g)) (fun _ vi => i - (intOf vi).toNat)
          case atStart => exact ⟨0, true, by omega, rfl, rfl, Lib.hid (by simp)⟩
          case round =>
            obtain ⟨j, g, hj, rfl, rfl, hg⟩ := hrel
            by_cases hji : j < i
            · obtain ⟨bo, fo, hao, hbo, hcells⟩ := hlo.cells (by omega)
              subst hao
              have hcell := hcells j (by omega)
              have hsucc := all_succ lo l j (by rw [hlo.len]; omega)
              rw [hg.out] at hsucc
              clear hcells hg
              generalize lo.getD j 0 = x at *
              cases g with
              | true =>
                by_cases hx : x ∈ l
                · have HG : Hid ((lo.take (j + 1)).all (fun x => decide (x ∈ l)) = true) := Lib.hid (by rw [hsucc, decide_eq_true hx]; rfl)
                  have HX := Lib.hid hx
                  clear hsucc hx
                  go_wp2_with (go_at_call 51; refine (rplace_yes _ _ _ _ _ _ hl2 HX.out).mono ?_; rintro e w' ⟨q, hq, rfl, rfl⟩)
                  go_round
                  case rel => exact ⟨j + 1, true, by omega, by go_num, rfl, HG⟩
                  case measure => simp [intOf]; omega
                · have HG : Hid ((lo.take (j + 1)).all (fun x => decide (x ∈ l)) = false) := Lib.hid (by rw [hsucc, decide_eq_false hx]; rfl)
                  have HX := Lib.hid hx
                  clear hsucc hx
                  go_wp2_with (go_at_call 51; refine (rplace_no _ _ _ _ _ _ hl2 HX.out).mono ?_; rintro e w' ⟨rfl, rfl⟩)
                  go_round
                  case rel => exact ⟨j + 1, false, by omega, by go_num, rfl, HG⟩
                  case measure => simp [intOf]; omega
              | false =>
                have HG : Hid ((lo.take (j + 1)).all (fun x => decide (x ∈ l)) = false) := Lib.hid (by rw [hsucc]; rfl)
                clear hsucc
                go_wp2
                go_round
                case rel => exact ⟨j + 1, false, by omega, by go_num, rfl, HG⟩
                case measure => simp [intOf]; omega
            · obtain rfl : j = i := by omega
              have hp : firstP r l (k + 1) = g := by rw [hfo.out (k + 1), HO.out]; exact hg.out
              cases g with
              | true =>
                have HT := Lib.hid (heq.out.symm.trans (try_yes _ k hlt2 hp))
                clear hp
                go_wp2
                go_ret2
                exact ⟨ret_ii (by rw [HS.out, HT.out]) (by rw [HS.out, HT.out]), hb2⟩
              | false =>
                have HT := Lib.hid ((try_no _ k hlt2 hp).symm.trans heq.out)
                clear hp
                go_wp2
                go_roundw
                case rel => exact ⟨k + 1, by omega, by go_num, hb2, HT⟩
                case measure => simp [intOf]; omega
        · obtain rfl : k = 1000 := by omega
          have HT : Hid (tryL (firstP r l) = (0, 12)) := Lib.hid heq.out.symm
          clear heq
          go_wp2
          go_ret2
          exact ⟨ret_ii (by rw [HS.out, HT.out]) (by rw [HS.out, HT.out]), hb⟩
end Go.Proofs.Ythocenkedncoeaa
