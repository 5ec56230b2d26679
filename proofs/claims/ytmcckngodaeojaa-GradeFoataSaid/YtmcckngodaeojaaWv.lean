/- Walks of chapter 3: the order with a code. -/
import Derived.Test.YtmcckngodaeojaaWs
import Derived.Test.YtmcckngodaeojaaPa
namespace Go.Proofs.Ytmcckngodaeojaa
open Go.RowKit Grade03

/-- a list and an error are returned -/
def LP (E : Int) (L : List Int) (w : World) (e : Ending) (w' : World) : Prop := ∃ a' m c', e = .returned (.tuple #[.slice a' m c', .int .i64 E]) ∧ IsL w' a' m c' L ∧ Below w.heap.size w w'
theorem LP.bad {E : Int} {L : List Int} {w w' : World} {e0 : Int} (h : E = e0) (hL : L = []) (hb : Below w.heap.size w w') : LP E L w (.returned (.tuple #[.slice none 0 0, .int .i64 e0])) w' := ⟨none, 0, 0, by rw [h], by rw [hL]; exact IsL.nilL _, hb⟩
theorem LP.good {E : Int} {L : List Int} {w w' : World} {a' m c'} (h : E = 0) (hm : IsL w' a' m c' L) (hb : Below w.heap.size w w') : LP E L w (.returned (.tuple #[.slice a' m c', .int .i64 0])) w' := ⟨a', m, c', by rw [h], hm, hb⟩
def fromR (l : List Int) : List Int := if fromE l = 0 then fromL l else []
theorem fromR_bad {l : List Int} {e0 : Int} (h : fromE l = e0) (h0 : e0 ≠ 0) : fromR l = [] := by unfold fromR; rw [h, if_neg h0]
theorem fromR_ok {l : List Int} (h : fromE l = 0) : fromR l = fromL l := by unfold fromR; rw [if_pos h]

set_option maxHeartbeats 4000000 in
set_option maxRecDepth 100000 in
theorem From_any (a : Option Addr) (n c : Nat) (l : List Int) (w : World) (h : IsL w a n c l) :
    Calls Try.prog 39 #[.slice a n c] w (LP (fromE l) (fromR l) w) := by
  have hl := h.len
  by_cases hs : sizeE n = 0
  · obtain ⟨hn1, hn7⟩ := sizeE_pos hs
    have HL := Lib.hid hl
    have HS : Hid (sizeE l.length = 0) := Lib.hid (by rw [hl]; exact hs)
    have e0 : ((n : Int) == 0) = false := by simp; omega
    have e7 : decide ((7 : Int) < (n : Int)) = false := by simp; omega
    clear hs hl
    go_enter Try.func39, Try.ntmps39
    go_wp2_with fail
    go_loopw [19, 5] (fun vx vl wr => ∃ (x : Nat) (a' : Option Addr) (c' : Nat), x ≤ n ∧ vx = .int .i64 (x : Int) ∧ vl = .slice a' x c' ∧ Hid (OwnL wr 3 w.heap.size a' x c' ((List.range x).map fun y : Nat => (y : Int))) ∧ Below w.heap.size w wr) (fun vx _ _ => n - (intOf vx).toNat)
    case atStart => exact ⟨0, none, 0, by omega, rfl, rfl, Lib.hid (OwnL.nilL _ _ _), Below.refl _ _⟩
    case round =>
      obtain ⟨x, a', c', hx, rfl, rfl, hO, hb⟩ := hrel
      have hsz := hb.size
      by_cases hlt : x < n
      · have q0 : (x : Int) < (n : Int) := by omega
        have HN : Hid ((List.range (x + 1)).map (fun y : Nat => (y : Int)) = (List.range x).map (fun y : Nat => (y : Int)) ++ [(x : Int)]) := Lib.hid (by rw [List.range_succ, List.map_append]; rfl)
        have hO1 := hO.out
        clear hO
        go_wp2_with (at_builtin; refine wl_app_own Try.underlying22 elem3 w.heap.size (.tmp 22) (.tmp 24) rfl rfl rfl rfl (hO1.alloc _) (isL_one _ _ _) (by simp; omega) (by omega) ?_)
        intro a2 c2 w3 ho3 hg3 hb3 _
        have hO3 : Hid (OwnL w3 3 w.heap.size a2 (x + 1) c2 ((List.range (x + 1)).map fun y : Nat => (y : Int))) := Lib.hid (by rw [HN.out]; exact ho3)
        have hb4 := (hb.alloc hsz (.cells #[.int .i64 (x : Int)] 3)).trans hb3
        clear ho3 hg3 hb3 hO1
        go_wp2
        go_roundw
        case rel => first | exact ⟨x + 1, a2, c2, by omega, by go_num, rfl, hO3, hb4⟩ | ((repeat apply Exists.intro); exact ⟨⟨x + 1, a2, c2, by omega, by go_num, rfl, hO3, hb4⟩, rfl⟩)
        case measure => (simp [intOf] <;> omega)
      · obtain rfl : x = n := by omega
        have HO := hO.out
        rw [← lefL_nil x] at HO
        have HO1 := Lib.hid HO
        clear hO HO
        go_wp2_with fail
        go_loopw [29, 5, 6] (fun vi vl vo wr => ∃ (i r : Nat) (a1 : Option Addr) (c1 : Nat) (a2 : Option Addr) (c2 : Nat), r + i = x ∧ vi = .int .i64 (i : Int) ∧ vl = .slice a1 r c1 ∧ vo = .slice a2 i c2 ∧ Hid (∀ j, j < i → okC x l j) ∧ Hid (OwnL wr 3 w.heap.size a1 r c1 (lefL x (fromK x l i))) ∧ Hid (OwnL wr 3 w.heap.size a2 i c2 (fromK x l i)) ∧ Sep a1 a2 ∧ Below w.heap.size w wr) (fun vi _ _ _ => x - (intOf vi).toNat)
        case atStart => exact ⟨0, x, a', c', none, 0, by omega, rfl, rfl, rfl, Lib.hid (fun j hj => by omega), HO1, Lib.hid (OwnL.nilL _ _ _), Sep.none_right _, hb⟩
        case round =>
          clear HO1 hb hsz hx
          obtain ⟨i, r, a1, c1, a2, c2, hir, rfl, rfl, rfl, hD, hE, hO, hsep, hb⟩ := hrel
          have hsz := hb.size
          by_cases hlt2 : i < x
          · have q0 : (i : Int) < (x : Int) := by omega
            have hk := h.below hb
            obtain ⟨b, o, rfl, _, hc⟩ := hk.cells (by omega)
            have y1 := hc i hlt2
            obtain ⟨v, hv⟩ : ∃ v, l.getD i 0 = v := ⟨_, rfl⟩
            rw [hv] at y1
            have w1 : IntKind.i64.wrap ((x : Int) - (i : Int)) = (r : Int) := by rw [show (x : Int) - (i : Int) = (r : Int) by omega]; exact IntWalk.i64_in _ (by omega)
            have HV := Lib.hid hv
            clear hc hv hk
            by_cases hlo : v < 0
            · have d1 : decide (v < 0) = true := by simpa using hlo
              have F : Hid (fromE l = 1) := Lib.hid (fromE_bad HS.out (i := i) (by rw [HL.out]; exact hlt2) (by unfold okC; rw [HV.out]; omega))
              clear hlo
              go_wp2_with fail
              go_ret2
              exact LP.bad F.out (fromR_bad F.out (by decide)) hb
            · have d1 : decide (v < 0) = false := by simpa using hlo
              by_cases hhi : (r : Int) ≤ v
              · have d2 : decide ((r : Int) ≤ v) = true := by simpa using hhi
                have F : Hid (fromE l = 1) := Lib.hid (fromE_bad HS.out (i := i) (by rw [HL.out]; exact hlt2) (by unfold okC; rw [HV.out, HL.out]; omega))
                clear hlo hhi
                go_wp2_with fail
                go_ret2
                exact LP.bad F.out (fromR_bad F.out (by decide)) hb
              · have d2 : decide ((r : Int) ≤ v) = false := by simpa using hhi
                obtain ⟨k, rfl⟩ : ∃ k : Nat, v = (k : Int) := ⟨v.toNat, by omega⟩
                have hkr : k < r := by omega
                have hD2 : Hid (∀ j, j < i + 1 → okC x l j) := Lib.hid (fun j hj => by
                  by_cases e : j = i
                  · rw [e]; unfold okC; rw [HV.out]; omega
                  · exact hD.out j (by omega))
                have q1 : (k : Int) < (r : Int) := by omega
                have hE1 := hE.out
                have hO1 := hO.out
                obtain ⟨g, rfl⟩ := hE1.addr (by omega)
                obtain ⟨y2, _⟩ := hE1.gen.cell k 0 hkr
                have HLE : Hid ((lefL x (fromK x l i)).length = r) := Lib.hid hE1.len
                have HF : Hid (fromK x l (i + 1) = fromK x l i ++ [(lefL x (fromK x l i)).getD k 0]) := Lib.hid (by rw [fromK, HV.out, Int.toNat_natCast])
                have HG : Hid (lefL x (fromK x l (i + 1)) = (lefL x (fromK x l i)).eraseIdx k) := Lib.hid (by rw [HF.out, lef_next (by rw [HLE.out]; exact hkr)])
                have w2 : IntKind.i64.wrap ((k : Int) + 1) = (k : Int) + 1 := IntWalk.i64_in _ (by omega)
                obtain ⟨z, hz⟩ : ∃ z, (lefL x (fromK x l i)).getD k 0 = z := ⟨_, rfl⟩
                rw [hz] at y2 HF
                clear hlo hhi hE hO hz hD
                go_wp2_with (at_builtin; refine wl_app_own Try.underlying22 elem3 w.heap.size (.tmp 43) (.tmp 48) rfl rfl rfl rfl (hO1.alloc _) (isL_one _ _ _) (by simp; omega) (by omega) ?_)
                intro a6 c6 w6 o6 g6 b6 v6
                have hE6 := (hE1.alloc (.cells #[.int .i64 z] 3)).grown g6 hsep
                have hS6 := (hsep.symm.via v6 (fun x hx => by have := (hE1.lt x hx).2; simp; omega)).symm
                have hb6 := (hb.alloc hsz (.cells #[.int .i64 z] 3)).trans b6
                have hg := (hE1.lt _ rfl).1
                simp only [] at hg
                clear g6 b6 v6 hE1 hO1
                go_wp2_with (go_at_call 84; refine (delete_one g r c1 w.heap.size k _ _ hE6 hkr).mono ?_; rintro e w7 ⟨rfl, hE7, g7⟩)
                have hO7 : Hid (OwnL w7 3 w.heap.size a6 (i + 1) c6 (fromK x l (i + 1))) := Lib.hid (by rw [HF.out]; exact o6.grownS g7 hS6.symm)
                have hb7 := hb6.grown g7 hb6.size (fun k hk => by rw [← Option.some.inj hk]; exact hg)
                have hE8 : Hid (OwnL w7 3 w.heap.size (some ⟨g, 0, none⟩) (r - 1) c1 (lefL x (fromK x l (i + 1)))) := Lib.hid (by rw [HG.out]; exact hE7)
                clear g7 o6 hE6 hE7 hb6 hb
                go_wp2
                go_roundw
                case rel => first | exact ⟨i + 1, r - 1, _, c1, a6, c6, by omega, by go_num, rfl, rfl, hD2, hE8, hO7, hS6, hb7⟩ | ((repeat apply Exists.intro); exact ⟨⟨i + 1, r - 1, _, c1, a6, c6, by omega, by go_num, rfl, rfl, hD2, hE8, hO7, hS6, hb7⟩, rfl⟩)
                case measure => (simp [intOf] <;> omega)
          · obtain rfl : i = x := by omega
            have F : Hid (fromE l = 0) := Lib.hid (fromE_ok HS.out (by rw [HL.out]; exact hD.out))
            have F2 : Hid (fromR l = fromK i l i) := Lib.hid (by rw [fromR_ok F.out, fromL, HL.out])
            go_wp2
            go_ret2
            exact LP.good F.out (by rw [F2.out]; exact hO.out.isL) hb
  · obtain ⟨v, hv⟩ : ∃ v, sizeE n = v := ⟨_, rfl⟩
    have hs2 : sizeE l.length ≠ 0 := by rw [hl]; exact hs
    have HE : Hid (fromE l = v) := Lib.hid (by rw [fromE_size hs2, hl, hv])
    have HV : Hid (v ≠ 0) := Lib.hid (by rw [← hv]; exact hs)
    by_cases h0 : n = 0
    · have e0 : ((n : Int) == 0) = true := by simp; exact h0
      have HX : Hid (v = 4) := Lib.hid (by rw [← hv, sizeE, if_pos h0])
      clear hs hl hv h0 hs2
      go_enter Try.func39, Try.ntmps39
      go_wp2_with fail
      go_ret2
      exact LP.bad (by rw [HE.out, HX.out]) (fromR_bad HE.out HV.out) (Below.refl _ _)
    · have h7 : 7 < n := by
        refine Nat.lt_of_not_le fun h7 => hs ?_
        rw [sizeE, if_neg h0, if_neg (by omega)]
      have e0 : ((n : Int) == 0) = false := by simp; exact h0
      have e7 : decide ((7 : Int) < (n : Int)) = true := by simp; omega
      have HX : Hid (v = 3) := Lib.hid (by rw [← hv, sizeE, if_neg h0, if_pos h7])
      clear hs hl hv h0 hs2 h7
      go_enter Try.func39, Try.ntmps39
      go_wp2_with fail
      go_ret2
      exact LP.bad (by rw [HE.out, HX.out]) (fromR_bad HE.out HV.out) (Below.refl _ _)
end Go.Proofs.Ytmcckngodaeojaa
namespace Go.Proofs.Ytmcckngodaeojaa
open Go.RowKit Grade03

set_option maxHeartbeats 4000000 in
set_option maxRecDepth 100000 in
theorem rFrom_any (a : Option Addr) (n c : Nat) (l : List Int) (w : World) (h : IsL w a n c l) :
    Calls Try.prog 40 #[.slice a n c] w (LP (fromE l) (fromR l) w) := by
  have hl := h.len
  by_cases hs : sizeE n = 0
  · obtain ⟨hn1, hn7⟩ := sizeE_pos hs
    have HL := Lib.hid hl
    have HS : Hid (sizeE l.length = 0) := Lib.hid (by rw [hl]; exact hs)
    have e0 : ((n : Int) == 0) = false := by simp; omega
    have e7 : decide ((7 : Int) < (n : Int)) = false := by simp; omega
    have w0 : IntKind.i64.wrap ((n : Int) - 1) = (n : Int) - 1 := IntWalk.i64_in _ (by omega)
    clear hs hl
    go_enter Try.func40, Try.ntmps40
    go_wp2_with fail
    go_loopw [4] (fun vi wr => ∃ i : Nat, i ≤ n ∧ vi = .int .i64 (i : Int) ∧ Hid (∀ j, j < i → okC n l j) ∧ w = wr) (fun vi _ => n - (intOf vi).toNat)
    case atStart => exact ⟨0, by omega, rfl, Lib.hid (fun j hj => by omega), rfl⟩
    case round =>
      obtain ⟨i, hi, rfl, hD, rfl⟩ := hrel
      by_cases hlt : i < n
      · have q0 : (i : Int) < (n : Int) := by omega
        obtain ⟨b, o, rfl, _, hc⟩ := h.cells (by omega)
        have y1 := hc i hlt
        obtain ⟨v, hv⟩ : ∃ v, l.getD i 0 = v := ⟨_, rfl⟩
        rw [hv] at y1
        have w1 : IntKind.i64.wrap ((n : Int) - 1 - (i : Int)) = (n : Int) - 1 - (i : Int) := IntWalk.i64_in _ (by omega)
        have HV := Lib.hid hv
        clear hc hv
        by_cases hr : 0 ≤ v ∧ v ≤ (n : Int) - 1 - (i : Int)
        · have hD2 : Hid (∀ j, j < i + 1 → okC n l j) := Lib.hid (fun j hj => by
            by_cases e : j = i
            · rw [e]; unfold okC; rw [HV.out]; omega
            · exact hD.out j (by omega))
          have HR := Lib.hid hr
          clear hr
          go_wp2_with (go_at_call 72; refine (in_yes _ _ _ _ HR.out.1 HR.out.2).mono ?_; rintro e w9 ⟨rfl, rfl⟩)
          go_roundw
          case rel => first | exact ⟨i + 1, by omega, by go_num, hD2, by trivial⟩ | ((repeat apply Exists.intro); exact ⟨⟨i + 1, by omega, by go_num, hD2, by trivial⟩, rfl⟩)
          case measure => (simp [intOf] <;> omega)
        · have F : Hid (fromE l = 1) := Lib.hid (fromE_bad HS.out (i := i) (by rw [HL.out]; exact hlt) (by unfold okC; rw [HV.out, HL.out]; omega))
          have HR := Lib.hid hr
          clear hr
          go_wp2_with (go_at_call 72; refine (in_no _ _ _ _ HR.out).mono ?_; rintro e w9 ⟨rfl, rfl⟩)
          go_ret2
          exact LP.bad F.out (fromR_bad F.out (by decide)) (Below.refl _ _)
      · obtain rfl : i = n := by omega
        go_wp2_with fail
        go_loopw [6, 5] (fun vi vo wr => ∃ (k : Nat) (a2 : Option Addr) (c2 : Nat), k ≤ i ∧ vi = .int .i64 (k : Int) ∧ vo = .slice a2 k c2 ∧ Hid (OwnL wr 3 w.heap.size a2 k c2 (fromK i l k)) ∧ Below w.heap.size w wr) (fun vi _ _ => i - (intOf vi).toNat)
        case atStart => exact ⟨0, none, 0, by omega, rfl, rfl, Lib.hid (OwnL.nilL _ _ _), Below.refl _ _⟩
        case round =>
          obtain ⟨k, a2, c2, hk, rfl, rfl, hO, hb⟩ := hrel
          have hsz := hb.size
          by_cases hlt2 : k < i
          · have q0 : (k : Int) < (i : Int) := by omega
            have hh := h.below hb
            obtain ⟨b, o, rfl, _, hc⟩ := hh.cells (by omega)
            have y1 := hc k hlt2
            obtain ⟨z, hz, hzo, hzn, hzg⟩ := fromK_is (n := i) (cd := l) (i := k) hlt2 (fun j hj => hD.out j (by omega))
            obtain ⟨d, hd⟩ : ∃ d : Nat, l.getD k 0 = (d : Int) := ⟨_, hzn.symm⟩
            have hdn : d < 10 := by have := hD.out k hlt2; unfold okC at this; rw [hd] at this; omega
            rw [hd] at y1 hzn
            have HZ : Hid (ninL (fromK i l k) z = d) := Lib.hid (by omega)
            have HF : Hid (fromK i l (k + 1) = fromK i l k ++ [(z : Int)]) := Lib.hid (by rw [fromK, hzg])
            have HZO := Lib.hid hzo
            clear hc hd hzg hzn hh hzo
            go_wp2_with fail
            go_loopw [7, 8] (fun vx vd wr2 => ∃ x d2 : Nat, x ≤ z ∧ vx = .int .i64 (x : Int) ∧ vd = .int .i64 (d2 : Int) ∧ d2 ≤ d ∧ Hid (ninL (fromK i l k) x + d2 = d) ∧ wr = wr2) (fun vx _ _ => i - (intOf vx).toNat)
            case atStart => exact ⟨0, d, by omega, rfl, rfl, by omega, Lib.hid (by simp [ninL]), rfl⟩
            case round =>
              obtain ⟨x, d2, hxz, rfl, rfl, hd2, hN, rfl⟩ := hrel
              have hI : Hid (IsL wr a2 k c2 (fromK i l k)) := Lib.hid hO.out.isL
              by_cases hxz2 : x < z
              · obtain ⟨B, hB⟩ : ∃ B, decide ((x : Int) ∈ fromK i l k) = B := ⟨_, rfl⟩
                have HB := Lib.hid hB
                have HC : Hid (Calls Try.prog 73 #[.slice a2 k c2, .int .i64 (x : Int)] wr fun e w' => e = .returned (.bool B) ∧ wr = w') := Lib.hid (by
                  have := has_any a2 k c2 (fromK i l k) (x : Int) wr hI.out
                  rw [hB] at this
                  exact this)
                clear hB
                cases B with
                | true =>
                  have hN2 : Hid (ninL (fromK i l k) (x + 1) + d2 = d) := Lib.hid (by rw [ninL_succ, if_pos (of_decide_eq_true HB.out)]; exact hN.out)
                  go_wp2_with (go_at_call 73; refine HC.out.mono ?_; rintro e w9 ⟨rfl, rfl⟩)
                  go_roundw
                  case rel => first | exact ⟨x + 1, d2, by omega, by go_num, rfl, by omega, hN2, by trivial⟩ | ((repeat apply Exists.intro); exact ⟨⟨x + 1, d2, by omega, by go_num, rfl, by omega, hN2, by trivial⟩, rfl⟩)
                  case measure => (simp [intOf] <;> omega)
                | false =>
                  have hno := of_decide_eq_false HB.out
                  have hlt3 := ninL_lt _ hxz2 hno
                  have hpos : 0 < d2 := by have := hN.out; have := HZ.out; omega
                  have hN2 : Hid (ninL (fromK i l k) (x + 1) + (d2 - 1) = d) := Lib.hid (by rw [ninL_succ, if_neg hno]; have := hN.out; omega)
                  have q2 : decide ((0 : Int) < (d2 : Int)) = true := by simp; omega
                  have w3 : IntKind.i64.wrap ((d2 : Int) - 1) = ((d2 - 1 : Nat) : Int) := by rw [show (d2 : Int) - 1 = ((d2 - 1 : Nat) : Int) by omega]; exact IntWalk.i64_in _ (by omega)
                  clear hno hlt3
                  go_wp2_with (go_at_call 73; refine HC.out.mono ?_; rintro e w9 ⟨rfl, rfl⟩)
                  go_roundw
                  case rel => first | exact ⟨x + 1, d2 - 1, by omega, by go_num, rfl, by omega, hN2, by trivial⟩ | ((repeat apply Exists.intro); exact ⟨⟨x + 1, d2 - 1, by omega, by go_num, rfl, by omega, hN2, by trivial⟩, rfl⟩)
                  case measure => (simp [intOf] <;> omega)
              · obtain rfl : x = z := by omega
                obtain rfl : d2 = 0 := by have := hN.out; have := HZ.out; omega
                have HC : Hid (Calls Try.prog 73 #[.slice a2 k c2, .int .i64 (x : Int)] wr fun e w' => e = .returned (.bool false) ∧ wr = w') := Lib.hid (by
                  have := has_any a2 k c2 (fromK i l k) (x : Int) wr hI.out
                  rw [decide_eq_false HZO.out] at this
                  exact this)
                have hO1 := hO.out
                clear hO hI
                go_wp2_with (first
                  | (go_at_call 73; refine HC.out.mono ?_; rintro e w9 ⟨rfl, rfl⟩)
                  | (at_builtin; refine wl_app_own Try.underlying22 elem3 w.heap.size (.tmp 57) (.tmp 59) rfl rfl rfl rfl (hO1.alloc _) (isL_one _ _ _) (by simp; omega) (by omega) ?_))
                intro a6 c6 w6 o6 g6 b6 v6
                have hO7 : Hid (OwnL w6 3 w.heap.size a6 (k + 1) c6 (fromK i l (k + 1))) := Lib.hid (by rw [HF.out]; exact o6)
                have hb7 := (hb.alloc hsz (.cells #[.int .i64 (x : Int)] 3)).trans b6
                clear g6 v6 o6 b6 hO1 hb HC
                go_wp2
                go_roundw
                case rel => first | exact ⟨k + 1, a6, c6, by omega, by go_num, rfl, hO7, hb7⟩ | ((repeat apply Exists.intro); exact ⟨⟨k + 1, a6, c6, by omega, by go_num, rfl, hO7, hb7⟩, rfl⟩)
                case measure => (simp [intOf] <;> omega)
          · obtain rfl : k = i := by omega
            have F : Hid (fromE l = 0) := Lib.hid (fromE_ok HS.out (by rw [HL.out]; exact hD.out))
            have F2 : Hid (fromR l = fromK k l k) := Lib.hid (by rw [fromR_ok F.out, fromL, HL.out])
            go_wp2
            go_ret2
            exact LP.good F.out (by rw [F2.out]; exact hO.out.isL) hb
  · obtain ⟨v, hv⟩ : ∃ v, sizeE n = v := ⟨_, rfl⟩
    have hs2 : sizeE l.length ≠ 0 := by rw [hl]; exact hs
    have HE : Hid (fromE l = v) := Lib.hid (by rw [fromE_size hs2, hl, hv])
    have HV : Hid (v ≠ 0) := Lib.hid (by rw [← hv]; exact hs)
    by_cases h0 : n = 0
    · have e0 : ((n : Int) == 0) = true := by simp; exact h0
      have HX : Hid (v = 4) := Lib.hid (by rw [← hv, sizeE, if_pos h0])
      clear hs hl hv h0 hs2
      go_enter Try.func40, Try.ntmps40
      go_wp2_with fail
      go_ret2
      exact LP.bad (by rw [HE.out, HX.out]) (fromR_bad HE.out HV.out) (Below.refl _ _)
    · have h7 : 7 < n := by
        refine Nat.lt_of_not_le fun h7 => hs ?_
        rw [sizeE, if_neg h0, if_neg (by omega)]
      have e0 : ((n : Int) == 0) = false := by simp; exact h0
      have e7 : decide ((7 : Int) < (n : Int)) = true := by simp; omega
      have HX : Hid (v = 3) := Lib.hid (by rw [← hv, sizeE, if_neg h0, if_pos h7])
      clear hs hl hv h0 hs2 h7
      go_enter Try.func40, Try.ntmps40
      go_wp2_with fail
      go_ret2
      exact LP.bad (by rw [HE.out, HX.out]) (fromR_bad HE.out HV.out) (Below.refl _ _)
end Go.Proofs.Ytmcckngodaeojaa
