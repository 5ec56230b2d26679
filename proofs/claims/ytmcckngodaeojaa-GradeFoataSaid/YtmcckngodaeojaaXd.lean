/- Walks of chapter 3: the place of a bale; Meet as a list of the call's own. -/
import Derived.Test.YtmcckngodaeojaaWO
namespace Go.Proofs.Ytmcckngodaeojaa
open Go.RowKit Grade03
set_option maxHeartbeats 2000000 in
set_option maxRecDepth 100000 in
theorem Index_any (a : Option Addr) (n c : Nat) (l : List Int) (x : Int) (w : World) (h : IsL w a n c l) (hO : IsO l) (h0 : 0 ≤ x) (h1 : x < n) (hn : n ≤ 1000) :
    Calls Try.prog 57 #[.slice a n c, .int .i64 x] w fun e w' => e = .returned (.int .i64 (pos l x : Int)) ∧ w = w' := by
  have hl := h.len
  obtain ⟨p1, p2⟩ := hO.get_pos x h0 (by omega)
  obtain ⟨p, hp⟩ : ∃ p, pos l x = p := ⟨_, rfl⟩
  rw [hp] at p1 p2 ⊢
  have HP2 := Lib.hid p2
  have HNE : Hid (∀ i, i < p → l.getD i 0 ≠ x) := Lib.hid (fun i hi e => by
    have := hO.inj i p (by omega) p1 (by rw [e, p2])
    omega)
  rw [hl] at p1
  clear hp p2 hl hO
  go_enter Try.func57, Try.ntmps57
  go_wp2_with fail
  go_loopw [8] (fun vi wr => ∃ i : Nat, i ≤ p ∧ vi = .int .i64 (i : Int) ∧ w = wr) (fun vi _ => n - (intOf vi).toNat)
  case atStart => exact ⟨0, by omega, rfl, rfl⟩
  case round =>
    obtain ⟨i, hi, rfl, rfl⟩ := hrel
    have q0 : (i : Int) < (n : Int) := by omega
    obtain ⟨b, o, rfl, _, hc⟩ := h.cells (by omega)
    have y := hc i (by omega)
    obtain ⟨v, hv⟩ : ∃ v, l.getD i 0 = v := ⟨_, rfl⟩
    rw [hv] at y
    by_cases hlt : i < p
    · have e1 : (x == v) = false := by
        have := HNE.out i hlt
        rw [hv] at this
        simpa using fun e => this e.symm
      clear hv hc
      go_wp2_with fail
      go_roundw
      case rel => first | exact ⟨i + 1, by omega, by go_num, by trivial⟩ | ((repeat apply Exists.intro); exact ⟨⟨i + 1, by omega, by go_num, by trivial⟩, rfl⟩)
      case measure => (simp [intOf] <;> omega)
    · obtain rfl : i = p := by omega
      have e0 : v = x := by rw [← hv]; exact HP2.out
      subst e0
      have e1 : (v == v) = true := by simp
      clear hv hc
      go_wp2_with fail
      go_ret
      exact ⟨rfl, rfl⟩
set_option maxHeartbeats 4000000 in
set_option maxRecDepth 100000 in
theorem Meet_own (a b : Option Addr) (n m0 c d : Nat) (la lb : List Int) (w : World) (h : IsL w a n c la) (h' : IsL w b m0 d lb) (he : bothE la lb = 0) :
    Calls Try.prog 35 #[.slice a n c, .slice b m0 d] w fun e w' => ∃ a' c', e = .returned (.tuple #[.slice a' n c', .int .i64 0]) ∧ OwnL w' 3 w.heap.size a' n c' (meetO la lb) ∧ Below w.heap.size w w' := by
  have HCH := Lib.hid (checked2 a b n m0 c d la lb w h h')
  · obtain ⟨hc1, hc2, hlen⟩ := bothE_zero.1 he
    obtain ⟨hO, hn1, hn7⟩ := chkE_zero.1 hc1
    obtain ⟨hO', _, _⟩ := chkE_zero.1 hc2
    have hl := h.len
    have hl' := h'.len
    obtain rfl : m0 = n := by omega
    rw [hl] at hn1 hn7
    have HO := Lib.hid hO
    have HO' := Lib.hid hO'
    have HE := Lib.hid he
    have F : Hid (meetO la lb = (joinO la.reverse lb.reverse).reverse) := Lib.hid rfl
    clear he hc1 hc2 hlen hO hO' hl hl'
    go_enter Try.func35, Try.ntmps35
    go_wp2_with fail
    refine HCH.out.mono ?_
    rintro e w1 ⟨rfl, b1⟩
    rw [HE.out]
    go_wp2_with fail
    refine (round_any a m0 c la w1 (h.below b1) hn1 hn7).mono ?_
    rintro e w2 ⟨a2, c2, rfl, o2, b2⟩
    have k2 := b1.trans (b2.mono b1.size)
    go_wp2_with fail
    refine (round_any b m0 d lb w2 (h'.below k2) hn1 hn7).mono ?_
    rintro e w3 ⟨a3, c3, rfl, o3, b3⟩
    have k3 := k2.trans (b3.mono k2.size)
    go_wp2_with fail
    refine (join_any a2 a3 m0 c2 c3 la.reverse lb.reverse w3 (o2.below b3).isL o3.isL (rev_ord HO.out) (rev_ord HO'.out) hn1 hn7).mono ?_
    rintro e w4 ⟨a4, c4, rfl, o4, b4⟩
    have k4 := k3.trans (b4.mono k3.size)
    go_wp2_with fail
    refine (round_any a4 m0 c4 _ w4 o4.isL hn1 hn7).mono ?_
    rintro e w5 ⟨a5, c5, rfl, o5, b5⟩
    go_wp2
    go_ret2
    exact ⟨_, _, rfl, by rw [F.out]; exact o5.weaken k4.size, k4.trans (b5.mono k4.size)⟩
set_option maxHeartbeats 4000000 in
set_option maxRecDepth 100000 in
theorem Reverse_grown (B : Nat) (a : Option Addr) (n c : Nat) (l : List Int) (w : World) (h : OwnL w 3 B a n c l) (hn : 1 ≤ n) (hB : B ≤ w.heap.size) : Calls Try.prog 56 #[.slice a n c] w fun e w' => e = .returned (.tuple #[]) ∧ OwnL w' 3 B a n c l.reverse ∧ w.grownBy w' (Value.slice a n c).ownBlock := by
  have hl := h.len
  have hc := h.isL.cap
  have hle := h.isL.le
  obtain ⟨g, rfl⟩ := h.addr (by omega)
  have hg := (h.lt _ rfl).1
  have w1 : IntKind.i64.wrap ((n : Int) - 1) = (n : Int) - 1 := IntWalk.i64_in _ (by omega)
  have HL := Lib.hid hl
  have HO := Lib.hid h
  simp only [] at hg
  clear hl h
  go_enter Try.func56, Try.ntmps56
  go_wp2_with fail
  go_loopw [2, 3] (fun vi vj wr => ∃ i : Nat, 2 * i ≤ n + 1 ∧ vi = .int .i64 (i : Int) ∧ vj = .int .i64 ((n : Int) - 1 - (i : Int)) ∧ Hid (OwnL wr 3 B (some ⟨g, 0, none⟩) n c (revK l i)) ∧ Hid (w.grownBy wr (some g))) (fun vi _ _ => n - (intOf vi).toNat)
  case atStart => exact ⟨0, by omega, rfl, by go_num, HO, Lib.hid (World.grownBy.refl _ _)⟩
  case round =>
    obtain ⟨i, hi, rfl, rfl, hO, hb⟩ := hrel
    by_cases hlt : (i : Int) < (n : Int) - 1 - (i : Int)
    · obtain ⟨j, hj⟩ : ∃ j : Nat, (n : Int) - 1 - (i : Int) = (j : Int) := ⟨n - 1 - i, by omega⟩
      have HJ := Lib.hid hj
      rw [hj] at hlt ⊢
      have hjn : j < n := by omega
      have hO1 := hO.out
      have y1 := (hO1.gen.cell i 0 (by omega))
      have y2 := (hO1.gen.cell j 0 (by omega))
      obtain ⟨y11, y12⟩ := y1
      obtain ⟨y21, y22⟩ := y2
      have q1 : (i : Int) < (n : Int) := by omega
      have q2 : (j : Int) < (n : Int) := by omega
      have hne : i ≠ j := by omega
      have hn1 : 1 ≤ n := hn
      have hnj : n - 1 - i = j := by omega
      have hs := (hO1.set i ((revK l i).getD j 0) (by omega)).set j ((revK l i).getD i 0) (by omega)
      have hO2 : Hid (OwnL ((wr.setCell ⟨g, i, none⟩ (.int .i64 ((revK l i).getD j 0))).setCell ⟨g, j, none⟩ (.int .i64 ((revK l i).getD i 0))) 3 B (some ⟨g, 0, none⟩) n c (revK l (i + 1))) := Lib.hid (by rw [revK, HL.out, hnj]; exact hs)
      have hb2 : Hid (w.grownBy ((wr.setCell ⟨g, i, none⟩ (.int .i64 ((revK l i).getD j 0))).setCell ⟨g, j, none⟩ (.int .i64 ((revK l i).getD i 0))) (some g)) := Lib.hid (grown_trans hb.out (grown_trans (grown_setCell wr g i _) (grown_setCell _ g j _)))
      have w2 : IntKind.i64.wrap ((j : Int) - 1) = (j : Int) - 1 := IntWalk.i64_in _ (by omega)
      obtain ⟨u, hu⟩ : ∃ u, (revK l i).getD i 0 = u := ⟨_, rfl⟩
      obtain ⟨v, hv⟩ : ∃ v, (revK l i).getD j 0 = v := ⟨_, rfl⟩
      rw [hu] at y11 hO2 hb2
      rw [hv] at y21 hO2 hb2
      clear hu hv hO hO1 hs hj hn hnj hb
      go_wp2_with fail
      go_region
      all_goals
        go_wp2_with fail
        go_roundw
        case rel => exact ⟨i + 1, by have := HJ.out; omega, by go_num, by (congr 1; have := HJ.out; omega), Lib.hid hO2.out.drew, Lib.hid (grown_trans hb2.out (grown_drew _ _))⟩
        case measure => simp [intOf]; omega
    · have HR : Hid (OwnL wr 3 B (some ⟨g, 0, none⟩) n c l.reverse) := Lib.hid (by rw [← revK_rev l i (by rw [HL.out]; omega) (by rw [HL.out]; omega)]; exact hO.out)
      have hlt2 : decide ((i : Int) < (n : Int) - 1 - (i : Int)) = false := by simpa using hlt
      clear hO
      go_wp2
      go_end0
      exact ⟨rfl, HR.out, hb.out⟩
end Go.Proofs.Ytmcckngodaeojaa
