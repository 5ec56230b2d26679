/- Law of chapter 11: StoreCrossed. -/
import Derived.Test.YtjedmiegcbdedaaXo
import Derived.Test.YtjedmiegcbdedaaXb
import Derived.Test.YtjedmiegcbdedaaLr
import Derived.Laws.EntriesVeiled
namespace Go.Proofs.Ytjedmiegcbdedaa
open Go.RowKit Go.ChangeMaps Store11
theorem crs_start (w W : World) (n : Nat) (hW : ((((w.alloc (.map #[] 0)).alloc (.cells #[.map (some w.heap.size)] 45)).alloc (.cells #[.bool true] 4)).alloc (.cells #[.int .i64 0] 3)) = W) : CrI w w.heap.size n 0 W := by
  subst hW
  refine ⟨0, ?_⟩
  rw [List.take_zero]
  have hm : MapF enc2 3 (w.alloc (.map #[] 0)) w.heap.size 0 0 (fX []) := by
    have := MapF.made (E := enc2) (e := 3) w
    rw [show fX [] = fun _ => none from funext fun l => by
      match l with
      | [c, d] => rfl
      | [] => rfl
      | [c] => rfl
      | c :: d :: e :: r => rfl]
    exact this
  have a1 : ArrV VX ((w.alloc (.map #[] 0)).alloc (.cells #[.map (some w.heap.size)] 45)) (w.heap.size + 1) 45 [.map (some w.heap.size)] := ArrV.new _ _ _ _ _ (by simp) rfl
  have a2 : ArrV VX (((w.alloc (.map #[] 0)).alloc (.cells #[.map (some w.heap.size)] 45)).alloc (.cells #[.bool true] 4)) (w.heap.size + 2) 4 [.bool true] := ArrV.new _ _ _ _ _ (by simp) rfl
  have b4 : Below w.heap.size w ((((w.alloc (.map #[] 0)).alloc (.cells #[.map (some w.heap.size)] 45)).alloc (.cells #[.bool true] 4)).alloc (.cells #[.int .i64 0] 3)) := ((((Below.refl _ w).alloc (Nat.le_refl _) _).alloc (by simp) _).alloc (by simp; omega) _).alloc (by simp; omega) _
  refine ⟨by simp, ((hm.alloc _).alloc _).alloc _, (a1.alloc _).alloc _, a2.alloc _, ?_, b4⟩
  exact ArrV.new _ _ _ _ _ (by simp) rfl
theorem fX_isSome (L : List (List Int)) (c d : Int) : (fX L [c, d]).isSome = decide (hisX L c d ≠ 0) := by
  show (if hisX L c d = 0 then none else some (hisX L c d : Int)).isSome = _
  by_cases h : hisX L c d = 0
  · rw [if_pos h, decide_eq_false (by omega)]; rfl
  · rw [if_neg h, decide_eq_true h]; rfl
noncomputable abbrev leftX (left : Lit → Bool) (d : Nat) : Bool := left ((enc2).lit [0, (d : Int)])
abbrev hX (n : Nat) (d : Nat) : Nat := hisX (allL n) 0 (d : Int)
theorem lit_other {n : Nat} {d : Nat} (hd : d < 16) {x1 x2 : Int} (hok : (enc2).ok [x1, x2]) (hne : ¬ ((0 : Int) = x1 ∧ (d : Int) = x2)) : ((enc2).lit [0, (d : Int)]).sameKey ((enc2).lit [x1, x2]) = false := by
  rw [Bool.eq_false_iff]
  intro h
  have := (enc2).inj _ _ (enc2_ok (by omega) (by omega)) hok (WideAt.sameKey_eq h)
  exact hne (by simpa using this)
set_option maxHeartbeats 16000000 in
set_option maxRecDepth 100000 in
theorem StoreCrossed_u (b : Int) (w : World) (hb : 0 ≤ b ∧ b ≤ 255) : Calls Try.prog 8 #[.int .u8 b] w fun e w' => e = .returned (.bool true) ∧ Below w.heap.size w w' := by
  obtain ⟨n, hn, hn1, hn8⟩ : ∃ n : Nat, 1 + b % 7 = (n : Int) ∧ 1 ≤ n ∧ n < 8 := ⟨(1 + b % 7).toNat, by omega, by omega, by omega⟩
  obtain ⟨W, hW⟩ : ∃ W, ((((w.alloc (.map #[] 0)).alloc (.cells #[.map (some w.heap.size)] 45)).alloc (.cells #[.bool true] 4)).alloc (.cells #[.int .i64 0] 3)) = W := ⟨_, rfl⟩
  have hK0 := crs_start w W n hW
  have hs0 : w.heap.size + 4 ≤ W.heap.size := by obtain ⟨_, h⟩ := hK0; exact h.s4
  have K0 := Lib.hid hK0
  have HW := Lib.hid hW
  have hmk := @run_makeMap Try.prog
  have Q1 := Lib.hid (sumX_flat hn8 hn1).symm
  have Q2 := Lib.hid (cross_flat n hn8 hn1).2.1
  have QL := Lib.hid (sumX_le hn8 hn1)
  clear hW hK0
  go_enter Try.func8, Try.ntmps8
  go_wp2_with fail
  rw [HW.out]
  refine (all_any n (w.heap.size + 4) 48 #[.pointer (some ⟨w.heap.size + 1, 0, none⟩), .pointer (some ⟨w.heap.size + 3, 0, none⟩), .pointer (some ⟨w.heap.size + 2, 0, none⟩)] (fun i w' => CrI w w.heap.size n i w') (by omega) (fun _ _ => rfl) (Lib.hid fun _ _ _ ⟨sz, h1⟩ h2 => ⟨sz, CrS.newB h1 h2⟩) (Lib.hid ?_) W hs0 K0.out).mono ?_
  · intro i l w1 a1 m c1 hl hI h1 hx _
    exact crs1 w w.heap.size n hn1 hn8 i l w1 a1 m c1 hl hI h1 hx
  rintro e w2 ⟨rfl, hI, _⟩
  obtain ⟨sz, hF⟩ := hI
  rw [List.take_length] at hF
  have z1 := cellX hF.hx 0 rfl
  have HF := Lib.hid hF
  obtain ⟨D, hD, _, hr⟩ := hF.hm
  have HR := Lib.hid hr
  clear hF hmk hr
  have hs4 := HF.out.s4
  go_wp2_with (first | (at_range; refine wpList_range_own _ rfl _ 45 rfl 49 3 keyed49 Try.underlying45 _ _ _ _ rfl hD ?_; intro w3 hrg0 hg0 hs3) | fail)
  go_frame
  go_loopw [24] (fun _ wr => ∃ (left : Lit → Bool) (cnt : Nat), wr.ranges Try.prog 49 (plainElem Try.prog 3) w.heap.size w2.heap.size (allL n).length D left cnt ∧ Below (w.heap.size + 4) w2 wr) (fun _ wr => wr.rangeLeft w.heap.size w2.heap.size)
  case atStart => exact ⟨_, _, hrg0, (below_of_grown0 hg0).mono hs4⟩
  case round =>
    clear hrg0 hg0 hs3 z1
    obtain ⟨left, cnt, hrg, hbl⟩ := hrel
    go_wp2_with (first | (at_next; refine wpList_next_ranges _ rfl _ rfl 49 keyed49 (plainElem Try.prog 3) kk2 (Value.int .i64) inv2 inv3 w.heap.size w2.heap.size _ _ _ _ rfl hrg ?_ ?_) | fail)
    · intro _ hl0
      rename World => wA
      have hs5 := Nat.le_trans hs4 hbl.size
      have z1 := cellX (HF.out.newB hbl).hx 0 rfl
      have hD5 := hrg.owns
      have HBL := Lib.hid hbl
      clear hrg hl0 hbl
      go_wp2_with (first | (at_range; refine wpList_range_own _ rfl _ 45 rfl 49 3 keyed49 Try.underlying45 _ _ _ _ rfl hD5 ?_; intro w5 hrg0 hg0 hs3) | fail)
      go_frame
      go_loopw [40, 9] (fun _ vs wr => ∃ (left : Lit → Bool) (cnt : Nat) (S : Int), wr.ranges Try.prog 49 (plainElem Try.prog 3) w.heap.size wA.heap.size (allL n).length D left cnt ∧ vs = .int .i64 S ∧ Hid (doneX (hX n) (leftX left) 16 = S) ∧ Below (w.heap.size + 4) wA wr) (fun _ _ wr => wr.rangeLeft w.heap.size wA.heap.size)
      case atStart => exact ⟨_, _, 0, hrg0, rfl, Lib.hid (doneX_none _ _ 16 fun d hd hl => by
        have := (HR.out [0, (d : Int)] (enc2_ok (by omega) (by omega))).1
        rw [fX_isSome] at this
        have hl : Maps.has D ((enc2).lit [0, (d : Int)]) = false := hl
        rw [hl] at this
        have := of_decide_eq_false this.symm
        show hisX (allL n) 0 (d : Int) = 0
        omega), (below_of_grown0 hg0).mono hs5⟩
      case round =>
        clear hrg0 hg0 hs3 z1
        obtain ⟨left, cnt, S, hrg, rfl, hS, hbq⟩ := hrel
        go_wp2_with (first | (at_next; refine wpList_next_ranges _ rfl _ rfl 49 keyed49 (plainElem Try.prog 3) kk2 (Value.int .i64) inv2 inv3 w.heap.size wA.heap.size _ _ _ _ rfl hrg ?_ ?_) | fail)
        · intro _ hl0
          have hSS : S = (sumX (allL n) 16 : Int) := by rw [← hS.out]; exact doneX_sum _ _ (fun d => hl0 _) 16
          obtain ⟨T, hT⟩ : ∃ T, (sumX (allL n) 16 : Int) = T := ⟨_, rfl⟩
          rw [hT] at hSS
          have Q1' := Q1.out
          rw [hT] at Q1'
          have Q3 := Lib.hid Q1'
          subst hSS
          have HB9 := Lib.hid (HBL.out.trans hbq)
          clear hl0 hS hrg hbq Q1' hT
          go_wp2_with fail
          refine (Flat_c _ _ Q3.out Q2.out).mono ?_
          rintro e w7 ⟨rfl, b7⟩
          have hF7 := (HF.out.newB HB9.out).new b7
          have z2 := cellX hF7.hg 0 rfl
          have HB7 := Lib.hid hF7.bel
          clear hF7 b7
          go_wp2_with fail
          refine (works_any _).mono ?_
          rintro e w8 ⟨rfl, b8⟩
          have B8 := HB7.out.trans (b8.mono HB7.out.size)
          go_wp2
          go_ret
          exact ⟨rfl, B8⟩
        · intro x1 x2 c kl y1 y2 w4 cnt1 hkey hlk hv hat hrg1 hlt hg1 hs1 hen
          obtain ⟨hok, rfl, hf⟩ := entry2 (x := (x1, x2)) (y := (y1, y2)) HR.out hkey hv hat
          obtain ⟨c9, d9, e9, hc9, hpos⟩ := fX_some hf
          obtain ⟨rfl, rfl⟩ : x1 = c9 ∧ x2 = d9 := by simpa using e9
          obtain ⟨hx1, hx2⟩ := hisX_pos hn8 hn1 hpos
          have hself : ((enc2).lit [x1, x2]).sameKey ((enc2).lit [x1, x2]) = true := WideAt.sameKey_self (keyed49.key hkey)
          have hSb : 0 ≤ S ∧ S ≤ 1000 := by
            have h1 := doneX_le (hX n) (leftX left) 16
            have h2 := doneX_sum (allL n) (fun _ => false) (fun _ => rfl) 16
            have h3 := QL.out
            rw [hS.out] at h1
            have h4 : doneX (hX n) (fun _ => false) 16 = (sumX (allL n) 16 : Int) := h2
            rw [h4] at h1
            omega
          have hvb := hisX_le hn8 hn1 x1 x2
          have hb4 : Below (w.heap.size + 4) wA w4 := hbq.trans (below_of_grown hg1 hs5 (Nat.le_trans hs5 hbq.size))
          have hb5 : Below (w.heap.size + 4) wA (w4.alloc (.cells #[.int .i64 x1, .int .i64 x2] 49)) := hb4.alloc (Nat.le_trans hs5 hb4.size) _
          have HRG := Lib.hid (hrg1.alloc (.cells #[.int .i64 x1, .int .i64 x2] 49))
          have HB5 := Lib.hid hb5
          have hlt2 : (w4.alloc (.cells #[.int .i64 x1, .int .i64 x2] 49)).rangeLeft w.heap.size wA.heap.size < wr.rangeLeft w.heap.size wA.heap.size := by
            rw [HRG.out.left_eq, hrg.left_eq]; exact hlt
          have HLT := Lib.hid hlt2
          by_cases h0 : x1 = 0
          · subst h0
            obtain ⟨d0, rfl⟩ : ∃ d : Nat, x2 = d := ⟨x2.toNat, by omega⟩
            have HS2 : Hid (doneX (hX n) (leftX fun z => left z && !z.sameKey ((enc2).lit [0, (d0 : Int)])) 16 = S + (hisX (allL n) 0 (d0 : Int) : Int)) := Lib.hid (by
              rw [doneX_one (hX n) (leftX left) _ d0 hlk (by show (_ && !_) = false; rw [hself]; simp) 16 (by omega) fun d hd16 hd => ?_, hS.out]
              show (_ && !_) = _
              rw [lit_other (n := n) hd16 hok (by omega)]; simp)
            obtain ⟨v, hvv⟩ : ∃ v, hisX (allL n) 0 (d0 : Int) = v := ⟨_, rfl⟩
            rw [hvv] at hc9 hvb HS2
            subst hc9
            clear hkey hlk hv hat hrg1 hlt hg1 hs1 hf hok e9 hpos hb4 hb5 hbq hrg hlt2 hvv hS hself
            go_wp2_with fail
            go_roundw
            case rel => first | exact ⟨_, cnt1, _, HRG.out, rfl, HS2, HB5.out⟩ | ((repeat apply Exists.intro); exact ⟨⟨_, cnt1, _, HRG.out, rfl, HS2, HB5.out⟩, rfl⟩)
            case measure => exact HLT.out
          · have t1 : (x1 == 0) = false := by simpa using h0
            have HS2 : Hid (doneX (hX n) (leftX fun z => left z && !z.sameKey ((enc2).lit [x1, x2])) 16 = S) := Lib.hid (by
              rw [← hS.out]
              refine doneX_congr _ _ _ 16 fun d hd => ?_
              show (_ && !_) = _
              rw [lit_other (n := n) hd hok (by omega)]; simp)
            subst hc9
            clear hkey hlk hv hat hrg1 hlt hg1 hs1 hf hok e9 hpos hb4 hb5 hbq hrg hlt2 hS hself h0
            go_wp2_with fail
            go_roundw
            case rel => first | exact ⟨_, cnt1, _, HRG.out, rfl, HS2, HB5.out⟩ | ((repeat apply Exists.intro); exact ⟨⟨_, cnt1, _, HRG.out, rfl, HS2, HB5.out⟩, rfl⟩)
            case measure => exact HLT.out
    · intro x1 x2 c kl y1 y2 w4 cnt1 hkey hlk hv hat hrg1 hlt hg1 hs1 hen
      obtain ⟨hok, rfl, hf⟩ := entry2 (x := (x1, x2)) (y := (y1, y2)) HR.out hkey hv hat
      have hok2 : (enc2).ok [x2, x1] := by
        refine ⟨rfl, fun z hz => hok.2 z ?_⟩
        simp only [List.mem_cons, List.not_mem_nil, or_false] at hz ⊢
        exact hz.symm
      obtain ⟨c9, d9, e9, hc9, hpos⟩ := fX_some hf
      obtain ⟨rfl, rfl⟩ : x1 = c9 ∧ x2 = d9 := by simpa using e9
      have hb4 : Below (w.heap.size + 4) w2 w4 := hbl.trans (below_of_grown hg1 hs4 (Nat.le_trans hs4 hbl.size))
      have hb5 : Below (w.heap.size + 4) w2 (w4.alloc (.cells #[.int .i64 x1, .int .i64 x2] 49)) := hb4.alloc (Nat.le_trans hs4 hb4.size) _
      have hlook := (HF.out.newB hb5).hm.run (t := 45) Try.underlying45 Try.underlying3 (by rfl) [x2, x1] hok2
      rw [fX_get, hisX_sym hn8 hn1 x2 x1] at hlook
      obtain ⟨v, hvv⟩ : ∃ v, hisX (allL n) x1 x2 = v := ⟨_, rfl⟩
      rw [hvv] at hlook hc9
      subst hc9
      have t1 : ((v : Int) != (v : Int)) = false := by simp
      have z1 := cellX (HF.out.newB hb5).hx 0 rfl
      have HRG := Lib.hid (hrg1.alloc (.cells #[.int .i64 x1, .int .i64 x2] 49))
      have HB5 := Lib.hid hb5
      have hlt2 : (w4.alloc (.cells #[.int .i64 x1, .int .i64 x2] 49)).rangeLeft w.heap.size w2.heap.size < wr.rangeLeft w.heap.size w2.heap.size := by
        rw [HRG.out.left_eq, hrg.left_eq]; exact hlt
      have HLT := Lib.hid hlt2
      replace hlook : (Instr.lookup 45 (.map (some w.heap.size)) (.agg #[.int .i64 x2, .int .i64 x1]) false).run Try.prog (w4.alloc (.cells #[.int .i64 x1, .int .i64 x2] 49)) = .ok (.int .i64 (v : Int)) (w4.alloc (.cells #[.int .i64 x1, .int .i64 x2] 49)) := hlook
      clear hkey hlk hv hat hrg1 hlt hg1 hs1 hf hok hok2 e9 hpos hb4 hb5 hbl hrg hlt2 hvv
      go_wp2_with fail
      go_roundw
      case rel => first | exact ⟨_, cnt1, HRG.out, HB5.out⟩ | ((repeat apply Exists.intro); exact ⟨⟨_, cnt1, HRG.out, HB5.out⟩, rfl⟩)
      case measure => exact HLT.out
theorem StoreCrossed_any (a0 : Int) (w0 : (Lit.int .u8 a0).wf = true) (w : World) : Calls Try.prog 8 #[.int .u8 a0] w fun e w' => e = .returned (.bool true) ∧ Below w.heap.size w w' :=
  StoreCrossed_u a0 w (u8_bounds w0)
end Go.Proofs.Ytjedmiegcbdedaa
