/- Chapter 3: two orders by numbers, as the laws take them; the code as a list of the call's own. -/
import Derived.Test.YtmcckngodaeojaaXb
import Derived.Deep.MidRow
namespace Go.Proofs.Ytmcckngodaeojaa
open Go.RowKit Go.ChangeShapes Go.WideShapes Grade03
theorem cells5 : Try.prog.cellsOf 5 = 1 := by kernel_rfl
theorem cells44 : Try.prog.cellsOf 44 = 7 := by kernel_rfl
theorem cells46 : Try.prog.cellsOf 46 = 15 := by kernel_rfl
theorem flat5 : FlatTy Try.prog 5 [.u8] := flat_int Try.underlying5 cells5
set_option maxRecDepth 100000 in
theorem flat44 : FlatTy Try.prog 44 [.u8, .u8, .u8, .u8, .u8, .u8, .u8] :=
  flat_array (kss := [[.u8], [.u8], [.u8], [.u8], [.u8], [.u8], [.u8]]) Try.underlying44 cells44 (by
    rw [cells5]
    exact ⟨rfl, flat5, rfl, flat5, rfl, flat5, rfl, flat5, rfl, flat5, rfl, flat5, rfl, flat5, trivial⟩)
set_option maxRecDepth 100000 in
theorem flat46 : FlatTy Try.prog 46 (List.replicate 15 .u8) :=
  flat_struct (kss := [[.u8], [.u8, .u8, .u8, .u8, .u8, .u8, .u8], [.u8, .u8, .u8, .u8, .u8, .u8, .u8]]) Try.underlying46 cells46 ⟨rfl, flat5, rfl, flat44, rfl, flat44, trivial⟩
/-- a number of eight bits -/
def B8 (z : Int) : Prop := 0 ≤ z ∧ z < 256
theorem b8_of {z : Int} (h : (Lit.int .u8 z).wf = true) : B8 z := by
  simp [Lit.wf, IntKind.min, IntKind.max, IntKind.signed, IntKind.bits] at h
  unfold B8; omega
set_option maxRecDepth 100000 in
theorem open_buyers {H : Type} {enc : TypeId × Value → H} {W : World} {base : Nat} {sp : Nat → Bool} {held : Bool} {r : Reach} {b0 : Nat} {v : Value} {d : DataW H} {ps : List MemPlace} (hval : Value.okWide Try.prog W r b0 46 v) (hd : DataW.Trod enc Try.prog W base sp held 46 v d ps) :
    ∃ bx x0 x1 x2 x3 x4 x5 x6 y0 y1 y2 y3 y4 y5 y6 : Int, v = .agg #[U8 bx, U8 x0, U8 x1, U8 x2, U8 x3, U8 x4, U8 x5, U8 x6, U8 y0, U8 y1, U8 y2, U8 y3, U8 y4, U8 y5, U8 y6] ∧ B8 bx ∧ (∀ i, B8 (([x0, x1, x2, x3, x4, x5, x6] : List Int).getD i 0)) ∧ (∀ i, B8 (([y0, y1, y2, y3, y4, y5, y6] : List Int).getD i 0)) ∧ ps = [] ∧
      ∀ (W' : World) (base' : Nat) (sp' : Nat → Bool) (held' : Bool), DataW.Trod enc Try.prog W' base' sp' held' 46 v d [] := by
  obtain ⟨zs, hz, rfl, hw, rfl, hs⟩ := open_flat flat46 (.inl ⟨_, Try.underlying46⟩) hval hd
  match zs, hz with
  | [bx, x0, x1, x2, x3, x4, x5, x6, y0, y1, y2, y3, y4, y5, y6], _ =>
    have hb : ∀ i, i < 15 → B8 (([bx, x0, x1, x2, x3, x4, x5, x6, y0, y1, y2, y3, y4, y5, y6] : List Int).getD i 0) := fun i hi => b8_of (by
      have := hw i (by simpa using hi)
      rwa [show (List.replicate 15 IntKind.u8).getD i .i64 = .u8 by rw [List.getD, List.getElem?_replicate, if_pos hi]; rfl] at this)
    refine ⟨bx, x0, x1, x2, x3, x4, x5, x6, y0, y1, y2, y3, y4, y5, y6, rfl, hb 0 (by omega), fun i => ?_, fun i => ?_, rfl, hs⟩
    · by_cases hi : i < 7
      · have := hb (i + 1) (by omega)
        rcases (by omega : i = 0 ∨ i = 1 ∨ i = 2 ∨ i = 3 ∨ i = 4 ∨ i = 5 ∨ i = 6) with rfl | rfl | rfl | rfl | rfl | rfl | rfl <;> exact this
      · rw [List.getD, List.getElem?_eq_none (by simp; omega)]; exact ⟨by decide, by decide⟩
    · by_cases hi : i < 7
      · have := hb (i + 8) (by omega)
        rcases (by omega : i = 0 ∨ i = 1 ∨ i = 2 ∨ i = 3 ∨ i = 4 ∨ i = 5 ∨ i = 6) with rfl | rfl | rfl | rfl | rfl | rfl | rfl <;> exact this
      · rw [List.getD, List.getElem?_eq_none (by simp; omega)]; exact ⟨by decide, by decide⟩
/-- what 'made' leaves: two orders of N bales -/
def MadeIs (w : World) (N : Nat) (e : Ending) (w' : World) : Prop :=
  ∃ a c b d d1 d2, e = .returned (.tuple #[.slice a N c, .slice b N d]) ∧ IsL w' a N c d1 ∧ IsL w' b N d d2 ∧ Below w.heap.size w w' ∧ IsO d1 ∧ IsO d2
/-- numbers, as the laws take them -/
def BuyArg (L : List Value) : Prop :=
  L.length = 15 ∧ ∀ (most : Nat) (w : World), 1 ≤ most → most ≤ 7 → ∃ N : Nat, 1 ≤ N ∧ N ≤ most ∧ Calls Try.prog 49 #[.agg L.toArray, .int .i64 (most : Int)] w (MadeIs w N)
theorem buy_arg (bx x0 x1 x2 x3 x4 x5 x6 y0 y1 y2 y3 y4 y5 y6 : Int) (hb0 : B8 bx) (hb1 : ∀ i, B8 (([x0, x1, x2, x3, x4, x5, x6] : List Int).getD i 0)) (hb2 : ∀ i, B8 (([y0, y1, y2, y3, y4, y5, y6] : List Int).getD i 0)) : BuyArg [U8 bx, U8 x0, U8 x1, U8 x2, U8 x3, U8 x4, U8 x5, U8 x6, U8 y0, U8 y1, U8 y2, U8 y3, U8 y4, U8 y5, U8 y6] := by
  refine ⟨rfl, fun most w h1 h2 => ?_⟩
  have m1 := Int.emod_nonneg bx (b := (most : Int)) (by omega)
  have m2 := Int.emod_lt_of_pos bx (b := (most : Int)) (by omega)
  obtain ⟨N, hN⟩ : ∃ N : Nat, 1 + bx % (most : Int) = (N : Int) := ⟨(1 + bx % (most : Int)).toNat, by omega⟩
  refine ⟨N, by omega, by omega, (made_any bx x0 x1 x2 x3 x4 x5 x6 y0 y1 y2 y3 y4 y5 y6 most w hb0 hb1 hb2 h1 h2 N hN).mono ?_⟩
  rintro e w' ⟨a, c, b, d, rfl, h1, h2, hb⟩
  exact ⟨a, c, b, d, _, _, rfl, h1, h2, hb, (deal_ord _ _).1, (deal_ord _ _).1⟩
theorem buy_range (w : World) (L : List Value) : (w.alloc (.cells L.toArray 46)).rangeAt w.heap.size 0 L := by
  intro j v hj
  simp [go_sem, hj]
theorem info46 {L : List Value} (h : L.length = 15) : (Try.prog.info? 46).map (·.size) = some L.length := by rw [h]; kernel_rfl
theorem chk_ord {l : List Int} {n : Nat} (h : IsO l) (hl : l.length = n) (h1 : 1 ≤ n) (h7 : n ≤ 7) : chkE l = 0 := chkE_zero.2 ⟨h, by omega, by omega⟩
theorem both_ord {a b : List Int} {n : Nat} (h : IsO a) (h' : IsO b) (hl : a.length = n) (hl' : b.length = n) (h1 : 1 ≤ n) (h7 : n ≤ 7) : bothE a b = 0 := bothE_zero.2 ⟨chk_ord h hl h1 h7, chk_ord h' hl' h1 h7, by omega⟩
set_option maxHeartbeats 4000000 in
set_option maxRecDepth 100000 in
theorem Code_own (a : Option Addr) (n c : Nat) (l : List Int) (w : World) (h : IsL w a n c l) (he0 : chkE l = 0) :
    Calls Try.prog 37 #[.slice a n c] w fun e w' => ∃ a' c', e = .returned (.tuple #[.slice a' n c', .int .i64 0]) ∧ OwnL w' 3 w.heap.size a' n c' (codeL l) ∧ Below w.heap.size w w' := by
  have H0 := Lib.hid he0
  · skip
    obtain ⟨hO, hn1, hn7⟩ := chkE_zero.1 he0
    have hl := h.len
    rw [hl] at hn1 hn7
    have HL := Lib.hid hl
    have HO := Lib.hid hO
    obtain ⟨P, M, hP, hM, hP1, hM1, e1, e2, e3⟩ := pow_facts n hn7
    have HM := Lib.hid hM
    clear hl he0 hO hP hM
    go_enter Try.func37, Try.ntmps37
    go_wp2_with fail
    refine (Check_any _ _ _ _ _ h).mono ?_
    rintro e w1 ⟨rfl, b1⟩
    rw [H0.out]
    go_wp2_with fail
    go_loopw [20, 5, 6] (fun vi vs vo wr => ∃ (i s : Nat) (a' : Option Addr) (c' : Nat), i ≤ n ∧ vi = .int .i64 (i : Int) ∧ vs = .int .u64 (s : Int) ∧ Hid (LeftB l i s) ∧ vo = .slice a' i c' ∧ Hid (OwnL wr 3 w.heap.size a' i c' ((codeL l).take i)) ∧ Below w.heap.size w wr) (fun vi _ _ _ => n - (intOf vi).toNat)
    case atStart => exact ⟨0, M, none, 0, by omega, rfl, rfl, Lib.hid (by rw [HM.out, ← HL.out]; exact LeftB.start l), rfl, Lib.hid (OwnL.nilL _ _ _), b1⟩
    case round =>
      clear b1
      obtain ⟨i, s, a', c', hi, rfl, rfl, hS, rfl, hO1, hb⟩ := hrel
      by_cases hlt : i < n
      · have q0 : (i : Int) < (n : Int) := by omega
        have hk := h.below hb
        have hsz := hb.size
        obtain ⟨b, o, rfl, _, hc⟩ := hk.cells (by omega)
        have y1 := hc i (by omega)
        have hlo := HO.out.lo i (by rw [HL.out]; exact hlt)
        rw [HL.out] at hlo
        obtain ⟨v, hv⟩ : ∃ v : Nat, l.getD i 0 = (v : Int) := ⟨(l.getD i 0).toNat, by omega⟩
        rw [hv] at y1 hlo
        have hs7 := hS.out.lt (by rw [HL.out]; exact hn7)
        have hst := hS.out.step HO.out (by rw [HL.out]; exact hn7) (by rw [HL.out]; exact hlt) hv
        have hcn := hst.count HO.out (by rw [HL.out]; exact hn7) hv
        have hv7 : v < 7 := by omega
        obtain ⟨V, U, hV, hU, hV1, hU1, f1, f2, f3⟩ := pow_facts v (by omega)
        have f4 := u64_andNot_nat s V (by omega) (by omega)
        rw [← hV] at hst hcn
        have ht7 := hst.lt (by rw [HL.out]; exact hn7)
        rw [hV, ← hU, ← hV] at hcn
        obtain ⟨t, ht⟩ : ∃ t, s &&& (18446744073709551615 - V) = t := ⟨_, rfl⟩
        rw [ht] at f4 hst hcn ht7
        have f5 := u64_and_nat t U (by omega) (by omega)
        have hr7 : t &&& U < 128 := Nat.lt_of_le_of_lt Nat.and_le_left ht7
        obtain ⟨r, hr⟩ : ∃ r, t &&& U = r := ⟨_, rfl⟩
        rw [hr] at f5 hcn hr7
        have HT := Lib.hid hst
        have HN : Hid ((codeL l).take (i + 1) = (codeL l).take i ++ [cdN l i]) := Lib.hid (codeL_take (by rw [HL.out]; exact hlt))
        obtain ⟨z, hz⟩ : ∃ z, cdN l i = z := ⟨_, rfl⟩
        rw [hz] at hcn HN
        have HC : Hid (∀ w, Calls Try.prog 83 #[.int .u64 (r : Int)] w fun e w' => e = .returned (.int .i64 z) ∧ w = w') := Lib.hid (fun w => by
          have := OnesCount_any r w hr7
          rw [hcn] at this
          exact this)
        have hO2 := hO1.out
        clear hc hv hst hcn hz hr ht hV hU hlo hO1 hk hS
        go_wp2_with (first
          | (go_at_call 83; refine (HC.out _).mono ?_; rintro e w9 ⟨rfl, rfl⟩)
          | (at_builtin; refine wl_app_own Try.underlying22 elem3 w.heap.size (.tmp 28) (.tmp 35) rfl rfl rfl rfl (hO2.alloc _) (isL_one _ _ _) (by simp; omega) (by omega) ?_))
        intro a2 c2 w3 ho3 hg3 hb3 _
        have hO3 : Hid (OwnL w3 3 w.heap.size a2 (i + 1) c2 ((codeL l).take (i + 1))) := Lib.hid (by rw [HN.out]; exact ho3)
        have hb4 := (hb.alloc hsz (.cells #[.int .i64 z] 3)).trans hb3
        clear ho3 hg3 hb3 hO2
        go_wp2
        go_roundw
        case rel => first | exact ⟨i + 1, t, a2, c2, by omega, by go_num, rfl, HT, rfl, hO3, hb4⟩ | ((repeat apply Exists.intro); exact ⟨⟨i + 1, t, a2, c2, by omega, by go_num, rfl, HT, rfl, hO3, hb4⟩, rfl⟩)
        case measure => (simp [intOf] <;> omega)
      · obtain rfl : i = n := by omega
        have F : Hid ((codeL l).take i = codeL l) := Lib.hid (List.take_of_length_le (by rw [← HL.out]; simp [codeL]))
        go_wp2
        go_ret2
        exact ⟨_, _, rfl, by rw [← F.out]; exact hO1.out, hb⟩
end Go.Proofs.Ytmcckngodaeojaa
