/- Walks of chapter 3: the reference's way. -/
import Derived.Test.YtmcckngodaeojaaWg
import Derived.Test.YtmcckngodaeojaaPa
namespace Go.Proofs.Ytmcckngodaeojaa
open Go.RowKit Grade03

set_option maxHeartbeats 4000000 in
set_option maxRecDepth 100000 in
theorem exchanged_any (a : Option Addr) (n c i : Nat) (l : List Int) (w : World) (h : IsL w a n c l) (hi : i + 1 < n) (hn : n ≤ 1000) : Calls Try.prog 70 #[.slice a n c, .int .i64 (i : Int)] w fun e w' => ∃ a' c', e = .returned (.slice a' n c') ∧ OwnL w' 3 w.heap.size a' n c' (swp l i) ∧ Below w.heap.size w w' := by
  have o0 := own_lit w 3 w.heap.size (Nat.le_refl _) ([] : List Int) #[] 0 rfl rfl (by omega)
  have h2 := h.alloc (.cells #[] 3)
  go_enter Try.func70, Try.ntmps70
  go_wp2_with (at_builtin; refine wl_app_own Try.underlying22 elem3 w.heap.size (.tmp 6) (.tmp 7) rfl rfl rfl rfl o0 h2 (by simp) (by omega) ?_)
  intro a2 c2 w2 o2 hg2 hb2 hv2
  have k2 := ((Below.refl _ w).alloc (Nat.le_refl _) (.cells #[] 3)).trans hb2
  clear hg2 hb2 hv2 o0 h2
  obtain ⟨g, rfl⟩ := o2.addr (by omega)
  have hg := (o2.lt _ rfl).1
  simp only [] at hg
  obtain ⟨y11, y12⟩ := o2.gen.cell i 0 (by omega)
  obtain ⟨y21, y22⟩ := o2.gen.cell (i + 1) 0 (by omega)
  have hs : OwnL _ 3 w.heap.size (some ⟨g, 0, none⟩) n c2 (swp l i) := (o2.set i (l.getD (i + 1) 0) (by omega)).set (i + 1) (l.getD i 0) (by omega)
  have hb : Below w.heap.size w ((w2.setCell ⟨g, i, none⟩ (.int .i64 (l.getD (i + 1) 0))).setCell ⟨g, i + 1, none⟩ (.int .i64 (l.getD i 0))) := (k2.setCell (p := ⟨g, i, none⟩) hg _).setCell (p := ⟨g, i + 1, none⟩) hg _
  obtain ⟨u, hu⟩ : ∃ u, l.getD i 0 = u := ⟨_, rfl⟩
  obtain ⟨v, hv⟩ : ∃ v, l.getD (i + 1) 0 = v := ⟨_, rfl⟩
  rw [hu] at y11 hs hb
  rw [hv] at y21 hs hb
  have HS := Lib.hid hs
  have q1 : (i : Int) < (n : Int) := by omega
  have q2 : (i : Int) + 1 < (n : Int) := by omega
  have w1 : IntKind.i64.wrap ((i : Int) + 1) = (i : Int) + 1 := IntWalk.i64_in _ (by omega)
  have q3 : (0 : Int) ≤ (i : Int) + 1 := by omega
  have q4 : ((i : Int) + 1).toNat = i + 1 := by omega
  clear hu hv hs o2 k2
  go_wp2_with fail
  go_region
  all_goals
    go_wp2_with fail
    go_ret
    exact ⟨_, _, rfl, HS.out.drew, hb.drew⟩

/-- how many pairs differ, as the reference counts them -/
theorem rdiffer_c (a b : Option Addr) (n c d : Nat) (la lb : List Int) (w : World) (h : IsL w a n c la) (h' : IsL w b n d lb) (hO : IsO la) (hO' : IsO lb) (hn : n ≤ 7) (D : Nat) (hD : dist la lb = (D : Int)) :
    Calls Try.prog 68 #[.slice a n c, .slice b n d] w fun e w' => ∃ a' c', e = .returned (.slice a' D c') ∧ D ≤ c' ∧ c' ≤ 9223372036854775807 ∧ Below w.heap.size w w' := by
  refine (rdiffer_any a b n c d la lb w h h' hO hO' hn).mono ?_
  rintro e w' ⟨a', m, c', rfl, h1, h2⟩
  have h3 := h1.len
  have h4 := difL_len la lb
  obtain rfl : m = D := by omega
  exact ⟨a', c', rfl, h1.caps.1, h1.caps.2, h2⟩
set_option maxHeartbeats 4000000 in
set_option maxRecDepth 100000 in
theorem rWay_any (a b : Option Addr) (n m0 c d : Nat) (la lb : List Int) (w : World) (h : IsL w a n c la) (h' : IsL w b m0 d lb) :
    Calls Try.prog 20 #[.slice a n c, .slice b m0 d] w (WayP la lb w) := by
  have HCH := Lib.hid (rboth_any a b n m0 c d la lb w h h')
  by_cases he : bothE la lb = 0
  · obtain ⟨hc1, hc2, hlen⟩ := bothE_zero.1 he
    obtain ⟨hO, hn1, hn7⟩ := chkE_zero.1 hc1
    obtain ⟨hO', _, _⟩ := chkE_zero.1 hc2
    have hl := h.len
    have hl' := h'.len
    obtain rfl : m0 = n := by omega
    rw [hl] at hn1 hn7
    have HL := Lib.hid hl
    have HLL := Lib.hid hlen
    have HO := Lib.hid hO
    have HO' := Lib.hid hO'
    have HE := Lib.hid he
    have HRES : Hid ((if bothE la lb = 0 then wayR lb la else []) = wayR lb la) := Lib.hid (by rw [if_pos he])
    have HD49 : Hid (dist la lb ≤ 49) := Lib.hid (dist_le (by omega))
    have HST : Hid (WayS la lb la [] 0) := Lib.hid (WayS.start hO)
    clear he hc1 hc2 hlen hO hO' hl hl'
    go_enter Try.func20, Try.ntmps20
    go_wp2_with fail
    refine HCH.out.mono ?_
    rintro e w1 ⟨rfl, b1⟩
    rw [HE.out]
    have h1 := h.below b1
    clear HCH
    go_wp2_with fail
    go_loopw [8, 7] (fun vn vo wr => ∃ (m : Nat) (now out : List Int) (a2 : Option Addr) (c2 : Nat) (a3 : Option Addr) (c3 : Nat), vn = .slice a2 m0 c2 ∧ vo = .slice a3 m c3 ∧ m ≤ 50 ∧ Hid (WayS la lb now out 0) ∧ IsL wr a2 m0 c2 now ∧ Hid (OwnL wr 3 w.heap.size a3 m c3 out) ∧ Below w.heap.size w wr ∧ w.heap.size ≤ wr.heap.size) (fun _ vo _ => 100 - lenOf vo)
    case atStart => exact ⟨0, la, [], a, c, none, 0, rfl, rfl, by omega, HST, h1, Lib.hid (OwnL.nilL _ _ _), b1, b1.size⟩
    case round =>
      clear h1 b1
      obtain ⟨m, now, out, a2, c2, a3, c3, rfl, rfl, hm, hS, hN, hT, hb, hsz⟩ := hrel
      have hlen : now.length = m0 := by rw [hS.out.len, HL.out]
      obtain ⟨D, hD⟩ : ∃ D : Nat, dist now lb = (D : Int) := ⟨(dist now lb).toNat, by have := dist_nonneg now lb; omega⟩
      have HDD := Lib.hid hD
      have hC : ∀ w9, Below w.heap.size w w9 → IsL w9 a2 m0 c2 now → Calls Try.prog 68 #[.slice a2 m0 c2, .slice b m0 d] w9 fun e w' => ∃ a' c', e = .returned (.slice a' D c') ∧ D ≤ c' ∧ c' ≤ 9223372036854775807 ∧ Below w9.heap.size w9 w' := fun w9 hb9 hN9 => rdiffer_c a2 b m0 c2 d now lb w9 hN9 (h'.below hb9) hS.out.ord HO'.out hn7 D hD
      have HC := Lib.hid hC
      have HLEN := Lib.hid hlen
      clear hC hlen hD
      by_cases hD0 : D = 0
      · have hfd := (fd_dist hS.out.ord HO'.out (by rw [HLEN.out]; have := HLL.out; have := HL.out; omega)).2 (by rw [HDD.out, hD0]; rfl)
        have F1 : Hid (out = wayR lb la) := Lib.hid (by have := hS.out.way; rwa [wayR_none hfd, List.append_nil] at this)
        have d1 : ¬ (0 : Int) < (D : Int) := by omega
        have hT1 := hT.out
        clear hD0 hfd hT
        go_wp2_with fail
        refine (HC.out _ hb hN).mono ?_
        rintro e w2 ⟨a5, c5, rfl, x1, x2, b2⟩
        go_wp2
        go_ret2
        exact ⟨_, _, _, by rw [HE.out]; rfl, by rw [HRES.out, ← F1.out]; exact (hT1.below b2).isL, hb.trans (b2.mono hsz)⟩
      · have hfdn : fd lb now ≠ none := fun hfd => hD0 (by have := (fd_dist hS.out.ord HO'.out (by rw [HLEN.out]; have := HLL.out; have := HL.out; omega)).1 hfd; have := HDD.out; omega)
        have HFD := Lib.hid hfdn
        have d1 : (0 : Int) < (D : Int) := by omega
        have d1b : decide (0 < D) = true := by simp; omega
        have hm2 : m + 1 ≤ 50 := by
          have h1 := hS.out.cnt
          have h3 := HD49.out
          have h4 := hT.out.len
          have h5 := HDD.out
          omega
        have HSW : Hid (∀ i, i + 1 < m0 → dist (swp now i) lb = if okP lb now i then (D : Int) + 1 else (D : Int) - 1) := Lib.hid (fun i hi => by
          rw [swp_dist hS.out.ord HO'.out (by rw [HLEN.out]; have := HLL.out; have := HL.out; omega) i (by rw [HLEN.out]; exact hi), HDD.out]; rfl)
        clear hfdn
        go_wp2_with fail
        refine (HC.out _ hb hN).mono ?_
        rintro e w2 ⟨a5, c5, rfl, x1, x2, b2⟩
        clear x1 x2
        go_wp2_with fail
        go_loopw [9] (fun vi wq => ∃ i : Nat, i ≤ m0 ∧ vi = .int .i64 (i : Int) ∧ Hid (∀ j, j < i → okP lb now j) ∧ Below wr.heap.size wr wq) (fun vi _ => m0 - (intOf vi).toNat)
        case atStart => exact ⟨0, by omega, rfl, Lib.hid (fun j hj => by omega), b2⟩
        case round =>
          clear b2
          obtain ⟨i, hi, rfl, hOK, bq⟩ := hrel
          have hkq := hb.trans (bq.mono hsz)
          have hsq := hkq.size
          have hNq := hN.below bq
          have hi1 : i + 1 < m0 := by
            refine Nat.lt_of_not_le fun hle => HFD.out (fd_no fun j hj => hOK.out j ?_)
            rw [HLEN.out] at hj; omega
          have hXC := exchanged_any a2 m0 c2 i now _ hNq hi1 (by omega)
          have HXC := Lib.hid hXC
          clear hXC
          obtain ⟨D1, hD1⟩ : ∃ D1 : Nat, dist (swp now i) lb = (D1 : Int) := ⟨(dist (swp now i) lb).toNat, by have := dist_nonneg (swp now i) lb; omega⟩
          have hDC := HSW.out i hi1
          rw [hD1] at hDC
          have HD1 := Lib.hid hD1
          have HCX : Hid (∀ w9 a6 c6, Below w.heap.size w w9 → IsL w9 a6 m0 c6 (swp now i) → Calls Try.prog 68 #[.slice a6 m0 c6, .slice b m0 d] w9 fun e w' => ∃ a' c', e = .returned (.slice a' D1 c') ∧ D1 ≤ c' ∧ c' ≤ 9223372036854775807 ∧ Below w9.heap.size w9 w') := Lib.hid (fun w9 a6 c6 hb9 hN9 => rdiffer_c a6 b m0 c6 d (swp now i) lb w9 hN9 (h'.below hb9) (swp_ord hS.out.ord i (by rw [HLEN.out]; exact hi1)) HO'.out hn7 D1 HD1.out)
          clear hD1
          by_cases hok : okP lb now i
          · rw [if_pos hok] at hDC
            have hOK2 : Hid (∀ j, j < i + 1 → okP lb now j) := Lib.hid (fun j hj => by
              by_cases e : j = i
              · rw [e]; exact hok
              · exact hOK.out j (by omega))
            have d2 : (D : Int) < (D1 : Int) := by omega
            have d3 : decide (D < D1) = true := by simp; omega
            clear hok hDC
            go_wp2_with fail
            refine (HXC.out).mono ?_
            rintro e w4 ⟨a6, c6, rfl, hX, b4⟩
            have k4 := hkq.trans (b4.mono hsq)
            go_wp2_with fail
            refine (HCX.out _ _ _ k4 hX.isL).mono ?_
            rintro e w5 ⟨a7, c7, rfl, y1, y2, b5⟩
            have k5 := k4.trans (b5.mono k4.size)
            have l5 := (bq.trans (b4.mono bq.size)).trans (b5.mono (bq.trans (b4.mono bq.size)).size)
            go_wp2_with fail
            refine (HC.out _ k5 (hN.below l5)).mono ?_
            rintro e w6 ⟨a8, c8, rfl, z1, z2, b6⟩
            have l6 := l5.trans (b6.mono l5.size)
            clear b4 b5 b6 k4 k5 l5 hX y1 y2 z1 z2
            go_wp2
            go_roundw
            case rel => first | exact ⟨i + 1, by omega, by go_num, hOK2, l6⟩ | ((repeat apply Exists.intro); exact ⟨⟨i + 1, by omega, by go_num, hOK2, l6⟩, rfl⟩)
            case measure => simp [intOf]; omega
          · rw [if_neg hok] at hDC
            have hS1 := hS.out.swap' HO'.out HLL.out (by rw [HL.out]; exact hi1) hok hOK.out
            have hS2 := Lib.hid hS1
            have d2 : ¬ (D : Int) < (D1 : Int) := by omega
            have d3 : decide (D < D1) = false := by simp; omega
            clear hok hDC hS1
            go_wp2_with fail
            refine (HXC.out).mono ?_
            rintro e w4 ⟨a6, c6, rfl, hX, b4⟩
            have k4 := hkq.trans (b4.mono hsq)
            go_wp2_with fail
            refine (HCX.out _ _ _ k4 hX.isL).mono ?_
            rintro e w5 ⟨a7, c7, rfl, y1, y2, b5⟩
            have k5 := k4.trans (b5.mono k4.size)
            have l5 := (bq.trans (b4.mono bq.size)).trans (b5.mono (bq.trans (b4.mono bq.size)).size)
            go_wp2_with fail
            refine (HC.out _ k5 (hN.below l5)).mono ?_
            rintro e w6 ⟨a8, c8, rfl, z1, z2, b6⟩
            have l6 := l5.trans (b6.mono l5.size)
            clear b4 b5 b6 k4 k5 l5 hX y1 y2 z1 z2
            have hE := exchanged_any a2 m0 c2 i now _ (hN.below l6) hi1 (by omega)
            have HE2 := Lib.hid hE
            clear hE
            go_wp2_with fail
            refine (HE2.out).mono ?_
            rintro e w7 ⟨a9, c9, rfl, hX2, b7⟩
            have l7 := l6.trans (b7.mono l6.size)
            have k7 := hb.trans (l7.mono hsz)
            have hT7 := hT.out.below l7
            have hsep : Sep a9 a3 := fun x y hx hy e => by
              have z1 := (hX2.lt x hx).1
              have z2 := (hT.out.lt y hy).2
              have z3 := l6.size
              omega
            clear b7 l6
            go_wp2_with (at_builtin; refine wl_app_own Try.underlying22 elem3 w.heap.size (.tmp 38) (.tmp 40) rfl rfl rfl rfl (hT7.alloc _) (isL_one _ _ _) (by have := k7.size; simp; omega) (by omega) ?_)
            intro aa cc w8 o8 g8 b8 v8
            have hT8 := Lib.hid o8
            have k8 := (k7.alloc k7.size (.cells #[.int .i64 (i : Int)] 3)).trans b8
            have hN8 : IsL w8 a9 m0 c9 (swp now i) := (hX2.isL.alloc _).grown g8 hsep
            clear g8 b8 v8 o8
            go_wp2
            go_roundw
            case rel => first | exact ⟨m + 1, _, _, a9, c9, aa, cc, rfl, rfl, hm2, hS2, hN8, hT8, k8, k8.size⟩ | ((repeat apply Exists.intro); exact ⟨⟨m + 1, _, _, a9, c9, aa, cc, rfl, rfl, hm2, hS2, hN8, hT8, k8, k8.size⟩, rfl⟩)
            case measure => (simp [lenOf] <;> omega)
  · obtain ⟨e0, he0⟩ : ∃ e0, bothE la lb = e0 := ⟨_, rfl⟩
    have e1 : (e0 != 0) = true := by rw [← he0]; simpa using he
    have e2 : (e0 == 0) = false := by rw [← he0]; simpa using he
    have HRES : Hid ((if bothE la lb = 0 then wayR lb la else []) = []) := Lib.hid (by rw [if_neg he])
    have HE := Lib.hid he0
    clear he he0
    go_enter Try.func20, Try.ntmps20
    go_wp2_with fail
    refine HCH.out.mono ?_
    rintro e w1 ⟨rfl, b1⟩
    rw [HE.out]
    go_wp2
    go_ret2
    exact ⟨_, _, _, by rw [HE.out]; rfl, by rw [HRES.out]; exact IsL.nilL _, b1⟩
end Go.Proofs.Ytmcckngodaeojaa
namespace Go.Proofs.Ytmcckngodaeojaa
open Go.RowKit Grade03

set_option maxHeartbeats 400000 in
set_option maxRecDepth 100000 in
theorem Equal_yes (a b : Option Addr) (n c m d : Nat) (l : List Int) (w : World) (h : IsL w a n c l) (h' : IsL w b m d l) :
    Calls Try.prog 71 #[.slice a n c, .slice b m d] w fun e w' => e = .returned (.bool true) ∧ Below w.heap.size w w' := by
  obtain rfl : m = n := by rw [← h.len, ← h'.len]
  have hcap := h.cap
  have hle := h.le
  have hcap' := h'.cap
  have hle' := h'.le
  have hr : ((m : Int) != (m : Int)) = false := by simp
  go_enter Try.func71, Try.ntmps71
  go_wp2
  go_loopw [13] (fun vi wr => ∃ k : Nat, k ≤ m ∧ vi = .int .i64 k ∧ Below w.heap.size w wr) (fun vi _ => m - (intOf vi).toNat)
  case atStart => exact ⟨0, by omega, rfl, Below.refl _ _⟩
  case round =>
    obtain ⟨k, hk, rfl, hb⟩ := hrel
    by_cases hlt : k < m
    · obtain ⟨b1, o1, rfl, hb1, hc1⟩ := h.cells (by omega)
      obtain ⟨b2, o2, rfl, hb2, hc2⟩ := h'.cells (by omega)
      have x1 := (hb.cell (p := ⟨b1, o1 + k, none⟩) hb1).trans (hc1 k hlt)
      have x2 := (hb.cell (p := ⟨b2, o2 + k, none⟩) hb2).trans (hc2 k hlt)
      clear hc1 hc2
      generalize l.getD k 0 = x at *
      have q1 : (k : Int) < (m : Int) := by omega
      have hx : (x != x) = false := by simp
      go_wp2
      go_quiet (fail)
      go_wp2
      go_roundw
      case rel => exact ⟨k + 1, by omega, by go_num, belowN hb _⟩
      case measure => simp [intOf]; omega
    · go_wp2
      go_ret
      exact ⟨rfl, hb⟩

/-- the first place at which two lists differ -/
theorem first_diff : ∀ (l l' : List Int), l.length = l'.length → l ≠ l' → ∃ p, p < l.length ∧ l.getD p 0 ≠ l'.getD p 0 ∧ ∀ k, k < p → l.getD k 0 = l'.getD k 0
  | [], [], _, h => absurd rfl h
  | x :: l, y :: l', hl, h => by
    by_cases hxy : x = y
    · subst hxy
      obtain ⟨p, h1, h2, h3⟩ := first_diff l l' (by simpa using hl) (fun e => h (by rw [e]))
      refine ⟨p + 1, by simpa using h1, by simpa using h2, fun k hk => ?_⟩
      cases k with
      | zero => rfl
      | succ k => simpa using h3 k (by omega)
    · exact ⟨0, by simp, by simpa using hxy, fun k hk => by omega⟩

set_option maxHeartbeats 400000 in
set_option maxRecDepth 100000 in
theorem Equal_no (a b : Option Addr) (n c m d : Nat) (l l' : List Int) (w : World) (h : IsL w a n c l) (h' : IsL w b m d l') (hne : l ≠ l') :
    Calls Try.prog 71 #[.slice a n c, .slice b m d] w fun e w' => e = .returned (.bool false) ∧ Below w.heap.size w w' := by
  have hcap := h.cap
  have hle := h.le
  have hcap' := h'.cap
  have hle' := h'.le
  by_cases hnm : m = n
  · subst hnm
    obtain ⟨p, hp, hd, hs⟩ := first_diff l l' (by rw [h.len, h'.len]) hne
    rw [h.len] at hp
    have hr : ((m : Int) != (m : Int)) = false := by simp
    have HS := Lib.hid hs
    clear hs
    go_enter Try.func71, Try.ntmps71
    go_wp2
    go_loopw [13] (fun vi wr => ∃ k : Nat, k ≤ p ∧ vi = .int .i64 k ∧ Below w.heap.size w wr) (fun vi _ => m - (intOf vi).toNat)
    case atStart => exact ⟨0, by omega, rfl, Below.refl _ _⟩
    case round =>
      obtain ⟨k, hk, rfl, hb⟩ := hrel
      have hlt : k < m := by omega
      obtain ⟨b1, o1, rfl, hb1, hc1⟩ := h.cells (by omega)
      obtain ⟨b2, o2, rfl, hb2, hc2⟩ := h'.cells (by omega)
      have x1 := (hb.cell (p := ⟨b1, o1 + k, none⟩) hb1).trans (hc1 k hlt)
      have x2 := (hb.cell (p := ⟨b2, o2 + k, none⟩) hb2).trans (hc2 k hlt)
      have q1 : (k : Int) < (m : Int) := by omega
      clear hc1 hc2
      by_cases hkp : k < p
      · have he := HS.out k hkp
        rw [he] at x1
        generalize l'.getD k 0 = x at *
        have hx : (x != x) = false := by simp
        clear he hd
        go_wp2
        go_quiet (fail)
        go_wp2
        go_roundw
        case rel => exact ⟨k + 1, by omega, by go_num, belowN hb _⟩
        case measure => simp [intOf]; omega
      · obtain rfl : k = p := by omega
        generalize l'.getD k 0 = x at *
        generalize l.getD k 0 = y at *
        have hx : (y != x) = true := by simpa using hd
        clear hd
        go_wp2
        go_quiet (fail)
        go_wp2
        go_ret
        exact ⟨rfl, belowN hb _⟩
  · have hr : ((n : Int) != (m : Int)) = true := by simp; omega
    go_enter Try.func71, Try.ntmps71
    go_wp2
    go_ret
    exact ⟨rfl, Below.refl _ _⟩
theorem Equal_any (a b : Option Addr) (n c m d : Nat) (l l' : List Int) (w : World) (h : IsL w a n c l) (h' : IsL w b m d l') :
    Calls Try.prog 71 #[.slice a n c, .slice b m d] w fun e w' => e = .returned (.bool (decide (l = l'))) ∧ Below w.heap.size w w' := by
  by_cases e : l = l'
  · subst e
    simpa using Equal_yes a b n c m d l w h h'
  · have := Equal_no a b n c m d l l' w h h' e
    simpa [e] using this

def leadsE (la lb lx : List Int) : Int := if bothE la lb = 0 then leadE la lb lx else bothE la lb
set_option maxHeartbeats 4000000 in
set_option maxRecDepth 100000 in
theorem Leads_any (a b x : Option Addr) (n m0 k c d f : Nat) (la lb lx : List Int) (w : World) (h : IsL w a n c la) (h' : IsL w b m0 d lb) (h2 : IsL w x k f lx) :
    Calls Try.prog 23 #[.slice a n c, .slice b m0 d, .slice x k f] w fun e w' => e = .returned (.int .i64 (leadsE la lb lx)) ∧ Below w.heap.size w w' := by
  have HCH := Lib.hid (checked2 a b n m0 c d la lb w h h')
  by_cases he : bothE la lb = 0
  · obtain ⟨hc1, hc2, hlen⟩ := bothE_zero.1 he
    obtain ⟨hO, hn1, hn7⟩ := chkE_zero.1 hc1
    have hl := h.len
    have hl' := h'.len
    obtain rfl : m0 = n := by omega
    rw [hl] at hn1 hn7
    have hx1 := h2.len
    have hx2 := h2.cap
    have hx3 := h2.le
    have HX := Lib.hid hx1
    have HL := Lib.hid hl
    have HO := Lib.hid hO
    have HE := Lib.hid he
    have HRES : Hid (leadsE la lb lx = leadE la lb lx) := Lib.hid (by unfold leadsE; rw [if_pos he])
    have w2 : IntKind.i64.wrap ((m0 : Int) - 2) = (m0 : Int) - 2 := IntWalk.i64_in _ (by omega)
    clear he hc1 hc2 hlen hO hl hl' hx1
    go_enter Try.func23, Try.ntmps23
    go_wp2_with fail
    refine HCH.out.mono ?_
    rintro e w1 ⟨rfl, b1⟩
    rw [HE.out]
    clear HCH
    go_wp2_with fail
    refine (Clone_any _ _ _ _ _ (h.below b1) hn1 (by omega)).mono ?_
    rintro e w3 ⟨a2, c2, rfl, hN, b3⟩
    have hb3 := b1.trans (b3.mono b1.size)
    have hN2 : Hid (OwnL w3 3 w1.heap.size a2 m0 c2 la) := Lib.hid hN
    have hs13 := b1.size
    have hs3 := b3.size
    clear hN b3
    go_wp2_with fail
    go_loopw [22] (fun vi wr => ∃ (i : Nat) (now : List Int), i ≤ k ∧ vi = .int .i64 (i : Int) ∧ Hid (IsO now ∧ runW la lx = runW now (lx.drop i)) ∧ Hid (OwnL wr 3 w1.heap.size a2 m0 c2 now) ∧ Below w.heap.size w wr ∧ w1.heap.size ≤ wr.heap.size) (fun vi _ => k - (intOf vi).toNat)
    case atStart => exact ⟨0, la, by omega, rfl, Lib.hid ⟨HO.out, rfl⟩, hN2, hb3, hs3⟩
    case round =>
      clear hN2 hb3
      obtain ⟨i, now, hi, rfl, hS, hN, hb, hsz⟩ := hrel
      have hlen : now.length = m0 := hN.out.len
      by_cases hlt : i < k
      · have q1 : (i : Int) < (k : Int) := by omega
        obtain ⟨b2, o2, rfl, hb2, hc2⟩ := h2.cells (by omega)
        have y1 := (hb.cell (p := ⟨b2, o2 + i, none⟩) hb2).trans (hc2 i hlt)
        obtain ⟨v, hv⟩ : ∃ v, lx.getD i 0 = v := ⟨_, rfl⟩
        rw [hv] at y1
        have HV := Lib.hid hv
        have HLEN := Lib.hid hlen
        have hix : i < lx.length := by rw [HX.out]; exact hlt
        have HIX := Lib.hid hix
        clear hc2 hv hlen hix
        by_cases hv0 : v < 0
        · have F : Hid (leadsE la lb lx = 2) := Lib.hid (by rw [HRES.out]; exact leadE_bad (by rw [hS.out.2]; exact runW_bad HIX.out (by rw [HV.out]; omega)))
          go_wp2
          go_ret
          exact ⟨by rw [F.out]; rfl, hb⟩
        · by_cases hv1 : (m0 : Int) - 2 < v
          · have F : Hid (leadsE la lb lx = 2) := Lib.hid (by rw [HRES.out]; exact leadE_bad (by rw [hS.out.2]; exact runW_bad HIX.out (by rw [HV.out, HLEN.out]; omega)))
            go_wp2
            go_ret
            exact ⟨by rw [F.out]; rfl, hb⟩
          · obtain ⟨j, rfl⟩ : ∃ j : Nat, v = (j : Int) := ⟨v.toNat, by omega⟩
            have hS2 : Hid (IsO (swp now j) ∧ runW la lx = runW (swp now j) (lx.drop (i + 1))) := Lib.hid ⟨swp_ord hS.out.1 j (by rw [HLEN.out]; omega), by rw [hS.out.2]; exact runW_ok HIX.out HV.out (by rw [HLEN.out]; omega)⟩
            have hN1 := hN.out
            clear hN
            go_wp2_with fail
            refine (swap_any w1.heap.size a2 m0 c2 j now _ hN1 (by omega) (by omega) hsz).mono ?_
            rintro e w5 ⟨rfl, hN5, b5, _⟩
            have hb5 := hb.trans (b5.mono hs13)
            have hN6 := Lib.hid hN5
            have hs5 := b5.size
            clear hN5 b5
            go_wp2
            go_roundw
            case rel => first | exact ⟨i + 1, _, by omega, by go_num, hS2, hN6, hb5, by omega⟩ | ((repeat apply Exists.intro); exact ⟨⟨i + 1, _, by omega, by go_num, hS2, hN6, hb5, by omega⟩, rfl⟩)
            case measure => simp [intOf]; omega
      · have F : Hid (leadsE la lb lx = if now = lb then 0 else 12) := Lib.hid (by rw [HRES.out]; exact leadE_end (by rw [hS.out.2]; exact runW_end (by rw [HX.out]; omega)))
        have hN1 := hN.out
        clear hN
        by_cases hq : now = lb
        · rw [if_pos hq] at F
          have hd : decide (now = lb) = true := by simpa using hq
          clear hq
          go_wp2_with fail
          refine (Equal_any a2 b m0 c2 m0 d now lb _ hN1.isL (h'.below hb)).mono ?_
          rintro e w6 ⟨rfl, b6⟩
          rw [hd]
          go_wp2
          go_ret
          exact ⟨by rw [F.out]; rfl, hb.trans (b6.mono (by omega))⟩
        · rw [if_neg hq] at F
          have hd : decide (now = lb) = false := by simpa using hq
          clear hq
          go_wp2_with fail
          refine (Equal_any a2 b m0 c2 m0 d now lb _ hN1.isL (h'.below hb)).mono ?_
          rintro e w6 ⟨rfl, b6⟩
          rw [hd]
          go_wp2
          go_ret
          exact ⟨by rw [F.out]; rfl, hb.trans (b6.mono (by omega))⟩
  · obtain ⟨e0, he0⟩ : ∃ e0, bothE la lb = e0 := ⟨_, rfl⟩
    have e1 : (e0 != 0) = true := by rw [← he0]; simpa using he
    have e2 : (e0 == 0) = false := by rw [← he0]; simpa using he
    have HRES : Hid (leadsE la lb lx = e0) := Lib.hid (by unfold leadsE; rw [if_neg he, he0])
    have HE := Lib.hid he0
    clear he he0
    go_enter Try.func23, Try.ntmps23
    go_wp2_with fail
    refine HCH.out.mono ?_
    rintro e w1 ⟨rfl, b1⟩
    rw [HE.out]
    go_wp2
    go_ret
    exact ⟨by rw [HRES.out]; rfl, b1⟩

end Go.Proofs.Ytmcckngodaeojaa
namespace Go.Proofs.Ytmcckngodaeojaa
open Go.RowKit Grade03

set_option maxHeartbeats 4000000 in
set_option maxRecDepth 100000 in
theorem rLeads_any (a b x : Option Addr) (n m0 k c d f : Nat) (la lb lx : List Int) (w : World) (h : IsL w a n c la) (h' : IsL w b m0 d lb) (h2 : IsL w x k f lx) :
    Calls Try.prog 24 #[.slice a n c, .slice b m0 d, .slice x k f] w fun e w' => e = .returned (.int .i64 (leadsE la lb lx)) ∧ Below w.heap.size w w' := by
  have HCH := Lib.hid (rboth_any a b n m0 c d la lb w h h')
  by_cases he : bothE la lb = 0
  · obtain ⟨hc1, hc2, hlen⟩ := bothE_zero.1 he
    obtain ⟨hO, hn1, hn7⟩ := chkE_zero.1 hc1
    obtain ⟨hO', _, _⟩ := chkE_zero.1 hc2
    have hl := h.len
    have hl' := h'.len
    obtain rfl : m0 = n := by omega
    rw [hl] at hn1 hn7
    have hx1 := h2.len
    have hx2 := h2.cap
    have hx3 := h2.le
    have HX := Lib.hid hx1
    have HL := Lib.hid hl
    have HO := Lib.hid hO
    have HO' := Lib.hid hO'
    have HE := Lib.hid he
    have HRES : Hid (leadsE la lb lx = leadE la lb lx) := Lib.hid (by unfold leadsE; rw [if_pos he])
    have w2 : IntKind.i64.wrap ((m0 : Int) - 2) = (m0 : Int) - 2 := IntWalk.i64_in _ (by omega)
    clear he hc1 hc2 hlen hO hO' hl hl' hx1
    go_enter Try.func24, Try.ntmps24
    go_wp2_with fail
    refine HCH.out.mono ?_
    rintro e w1 ⟨rfl, b1⟩
    rw [HE.out]
    have h1 := h.below b1
    clear HCH
    go_wp2_with fail
    go_loopw [8, 9] (fun vo vi wr => ∃ (i : Nat) (now : List Int) (a2 : Option Addr) (c2 : Nat), i ≤ k ∧ vo = .slice a2 m0 c2 ∧ vi = .int .i64 (i : Int) ∧ Hid (IsO now ∧ runW la lx = runW now (lx.drop i)) ∧ IsL wr a2 m0 c2 now ∧ Below w.heap.size w wr) (fun _ vi _ => k - (intOf vi).toNat)
    case atStart => exact ⟨0, la, a, c, by omega, rfl, rfl, Lib.hid ⟨HO.out, rfl⟩, h1, b1⟩
    case round =>
      clear h1 b1
      obtain ⟨i, now, a2, c2, hi, rfl, rfl, hS, hN, hb⟩ := hrel
      have hsz := hb.size
      have hlen : now.length = m0 := hN.len
      by_cases hlt : i < k
      · have q1 : (i : Int) < (k : Int) := by omega
        obtain ⟨b2, o2, rfl, hb2, hc2⟩ := h2.cells (by omega)
        have y1 := (hb.cell (p := ⟨b2, o2 + i, none⟩) hb2).trans (hc2 i hlt)
        obtain ⟨v, hv⟩ : ∃ v, lx.getD i 0 = v := ⟨_, rfl⟩
        rw [hv] at y1
        have HV := Lib.hid hv
        have HLEN := Lib.hid hlen
        have hix : i < lx.length := by rw [HX.out]; exact hlt
        have HIX := Lib.hid hix
        clear hc2 hv hlen hix
        by_cases hv1 : 0 ≤ v ∧ v ≤ (m0 : Int) - 2
        · obtain ⟨j, rfl⟩ : ∃ j : Nat, v = (j : Int) := ⟨v.toNat, by omega⟩
          have hS2 : Hid (IsO (swp now j) ∧ runW la lx = runW (swp now j) (lx.drop (i + 1))) := Lib.hid ⟨swp_ord hS.out.1 j (by rw [HLEN.out]; omega), by rw [hS.out.2]; exact runW_ok HIX.out HV.out (by rw [HLEN.out]; omega)⟩
          obtain ⟨hv2, hv3⟩ := hv1
          go_wp2_with fail
          refine (in_yes _ _ _ _ hv2 hv3).mono ?_
          rintro e w4 ⟨rfl, rfl⟩
          go_wp2_with fail
          refine (exchanged_any a2 m0 c2 j now _ hN (by omega) (by omega)).mono ?_
          rintro e w5 ⟨a5, c5, rfl, hN5, b5⟩
          have hb5 := hb.trans (b5.mono hsz)
          have hN6 := hN5.isL
          clear hN5 b5
          go_wp2
          go_roundw
          case rel => first | exact ⟨i + 1, _, a5, c5, by omega, rfl, by go_num, hS2, hN6, hb5⟩ | ((repeat apply Exists.intro); exact ⟨⟨i + 1, _, a5, c5, by omega, rfl, by go_num, hS2, hN6, hb5⟩, rfl⟩)
          case measure => simp [intOf]; omega
        · have F : Hid (leadsE la lb lx = 2) := Lib.hid (by rw [HRES.out]; exact leadE_bad (by rw [hS.out.2]; exact runW_bad HIX.out (by rw [HV.out, HLEN.out]; omega)))
          have HV1 := Lib.hid hv1
          clear hv1
          go_wp2_with fail
          refine (in_no _ _ _ _ HV1.out).mono ?_
          rintro e w4 ⟨rfl, rfl⟩
          go_wp2
          go_ret
          exact ⟨by rw [F.out]; rfl, hb⟩
      · have F : Hid (leadsE la lb lx = if now = lb then 0 else 12) := Lib.hid (by rw [HRES.out]; exact leadE_end (by rw [hS.out.2]; exact runW_end (by rw [HX.out]; omega)))
        obtain ⟨D, hD⟩ : ∃ D : Nat, dist now lb = (D : Int) := ⟨(dist now lb).toNat, by have := dist_nonneg now lb; omega⟩
        have hDZ := dist_zero hS.out.1 HO'.out (by rw [hlen]; have := h'.len; omega)
        rw [hD] at hDZ
        have HDC : Hid (∀ w9, Below w.heap.size w w9 → IsL w9 a2 m0 c2 now → Calls Try.prog 68 #[.slice a2 m0 c2, .slice b m0 d] w9 fun e w' => ∃ a' c', e = .returned (.slice a' D c') ∧ D ≤ c' ∧ c' ≤ 9223372036854775807 ∧ Below w9.heap.size w9 w') := Lib.hid (fun w9 hb9 hN9 => rdiffer_c a2 b m0 c2 d now lb w9 hN9 (h'.below hb9) hS.out.1 HO'.out hn7 D hD)
        clear hD hlen
        by_cases hq : now = lb
        · rw [if_pos hq] at F
          have hD0 : ¬ (0 : Int) < (D : Int) := by have := hDZ.2 hq; omega
          have hD1 : decide (0 < D) = false := by simp; omega
          clear hq hDZ
          go_wp2_with fail
          refine (HDC.out _ hb hN).mono ?_
          rintro e w6 ⟨a6, c6, rfl, x1, x2, b6⟩
          go_wp2
          go_ret
          exact ⟨by rw [F.out]; rfl, hb.trans (b6.mono hsz)⟩
        · rw [if_neg hq] at F
          have hD0 : (0 : Int) < (D : Int) := by
            rcases Nat.eq_zero_or_pos D with e | e
            · exact absurd (hDZ.1 (by omega)) hq
            · omega
          have hD1 : decide (0 < D) = true := by simp; omega
          clear hq hDZ
          go_wp2_with fail
          refine (HDC.out _ hb hN).mono ?_
          rintro e w6 ⟨a6, c6, rfl, x1, x2, b6⟩
          go_wp2
          go_ret
          exact ⟨by rw [F.out]; rfl, hb.trans (b6.mono hsz)⟩
  · obtain ⟨e0, he0⟩ : ∃ e0, bothE la lb = e0 := ⟨_, rfl⟩
    have e1 : (e0 != 0) = true := by rw [← he0]; simpa using he
    have e2 : (e0 == 0) = false := by rw [← he0]; simpa using he
    have HRES : Hid (leadsE la lb lx = e0) := Lib.hid (by unfold leadsE; rw [if_neg he, he0])
    have HE := Lib.hid he0
    clear he he0
    go_enter Try.func24, Try.ntmps24
    go_wp2_with fail
    refine HCH.out.mono ?_
    rintro e w1 ⟨rfl, b1⟩
    rw [HE.out]
    go_wp2
    go_ret
    exact ⟨by rw [HRES.out]; rfl, b1⟩

end Go.Proofs.Ytmcckngodaeojaa
