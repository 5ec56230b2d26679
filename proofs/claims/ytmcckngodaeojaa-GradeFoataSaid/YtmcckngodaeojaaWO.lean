/- Walks of chapter 3: Join and Meet. -/
import Derived.Test.YtmcckngodaeojaaWN
import Derived.Test.YtmcckngodaeojaaWC
import Derived.ChangeKeysEq
namespace Go.Proofs.Ytmcckngodaeojaa
open Go.RowKit Grade03

theorem round_any (a : Option Addr) (n c : Nat) (l : List Int) (w : World) (h : IsL w a n c l) (hn1 : 1 ≤ n) (hn : n ≤ 7) :
    Calls Try.prog 81 #[.slice a n c] w fun e w' => ∃ a' c', e = .returned (.slice a' n c') ∧ OwnL w' 3 w.heap.size a' n c' l.reverse ∧ Below w.heap.size w w' := by
  go_enter Try.func81, Try.ntmps81
  go_wp2_with fail
  refine (Clone_any _ _ _ _ _ h hn1 (by omega)).mono ?_
  rintro e w1 ⟨a1, c1, rfl, o1, b1⟩
  go_wp2_with fail
  refine (Reverse_any w.heap.size a1 n c1 l w1 o1 hn1 b1.size).mono ?_
  rintro e w2 ⟨rfl, o2, b2⟩
  go_wp2
  go_ret
  exact ⟨_, _, rfl, o2, b1.trans b2⟩
set_option maxHeartbeats 4000000 in
set_option maxRecDepth 100000 in
theorem Join_any (a b : Option Addr) (n m0 c d : Nat) (la lb : List Int) (w : World) (h : IsL w a n c la) (h' : IsL w b m0 d lb) :
    Calls Try.prog 33 #[.slice a n c, .slice b m0 d] w (LP (bothE la lb) (joinE la lb) w) := by
  have HCH := Lib.hid (checked2 a b n m0 c d la lb w h h')
  by_cases he : bothE la lb = 0
  · obtain ⟨hc1, hc2, hlen⟩ := bothE_zero.1 he
    obtain ⟨hO, hn1, hn7⟩ := chkE_zero.1 hc1
    obtain ⟨hO', _, _⟩ := chkE_zero.1 hc2
    have hl := h.len
    have hl' := h'.len
    obtain rfl : m0 = n := by omega
    rw [hl] at hn1 hn7
    have HO := Lib.hid hO
    have HO' := Lib.hid hO'
    have HE := Lib.hid he
    have F : Hid (joinE la lb = joinO la lb) := Lib.hid (by unfold joinE; rw [if_pos he])
    clear he hc1 hc2 hlen hO hO' hl hl'
    go_enter Try.func33, Try.ntmps33
    go_wp2_with fail
    refine HCH.out.mono ?_
    rintro e w1 ⟨rfl, b1⟩
    rw [HE.out]
    go_wp2_with fail
    refine (join_any a b m0 c d la lb w1 (h.below b1) (h'.below b1) HO.out HO'.out hn1 hn7).mono ?_
    rintro e w2 ⟨a2, c2, rfl, o2, b2⟩
    go_wp2
    go_ret2
    exact LP.good HE.out (by rw [F.out]; exact o2.isL) (b1.trans (b2.mono b1.size))
  · obtain ⟨e0, he0⟩ : ∃ e0, bothE la lb = e0 := ⟨_, rfl⟩
    have e1 : (e0 != 0) = true := by rw [← he0]; simpa using he
    have e2 : (e0 == 0) = false := by rw [← he0]; simpa using he
    have HZ : Hid (joinE la lb = []) := Lib.hid (by unfold joinE; rw [if_neg he])
    have HE := Lib.hid he0
    clear he he0
    go_enter Try.func33, Try.ntmps33
    go_wp2_with fail
    refine HCH.out.mono ?_
    rintro e w1 ⟨rfl, b1⟩
    rw [HE.out]
    go_wp2
    go_ret2
    exact LP.bad HE.out HZ.out b1
set_option maxHeartbeats 4000000 in
set_option maxRecDepth 100000 in
theorem Meet_any (a b : Option Addr) (n m0 c d : Nat) (la lb : List Int) (w : World) (h : IsL w a n c la) (h' : IsL w b m0 d lb) :
    Calls Try.prog 35 #[.slice a n c, .slice b m0 d] w (LP (bothE la lb) (meetE la lb) w) := by
  have HCH := Lib.hid (checked2 a b n m0 c d la lb w h h')
  by_cases he : bothE la lb = 0
  · obtain ⟨hc1, hc2, hlen⟩ := bothE_zero.1 he
    obtain ⟨hO, hn1, hn7⟩ := chkE_zero.1 hc1
    obtain ⟨hO', _, _⟩ := chkE_zero.1 hc2
    have hl := h.len
    have hl' := h'.len
    obtain rfl : m0 = n := by omega
    rw [hl] at hn1 hn7
    have HO := Lib.hid hO
    have HO' := Lib.hid hO'
    have HE := Lib.hid he
    have F : Hid (meetE la lb = (joinO la.reverse lb.reverse).reverse) := Lib.hid (by unfold meetE; rw [if_pos he]; rfl)
    clear he hc1 hc2 hlen hO hO' hl hl'
    go_enter Try.func35, Try.ntmps35
    go_wp2_with fail
    refine HCH.out.mono ?_
    rintro e w1 ⟨rfl, b1⟩
    rw [HE.out]
    go_wp2_with fail
    refine (round_any a m0 c la w1 (h.below b1) hn1 hn7).mono ?_
    rintro e w2 ⟨a2, c2, rfl, o2, b2⟩
    have k2 := b1.trans (b2.mono b1.size)
    go_wp2_with fail
    refine (round_any b m0 d lb w2 (h'.below k2) hn1 hn7).mono ?_
    rintro e w3 ⟨a3, c3, rfl, o3, b3⟩
    have k3 := k2.trans (b3.mono k2.size)
    go_wp2_with fail
    refine (join_any a2 a3 m0 c2 c3 la.reverse lb.reverse w3 (o2.below b3).isL o3.isL (rev_ord HO.out) (rev_ord HO'.out) hn1 hn7).mono ?_
    rintro e w4 ⟨a4, c4, rfl, o4, b4⟩
    have k4 := k3.trans (b4.mono k3.size)
    go_wp2_with fail
    refine (round_any a4 m0 c4 _ w4 o4.isL hn1 hn7).mono ?_
    rintro e w5 ⟨a5, c5, rfl, o5, b5⟩
    go_wp2
    go_ret2
    exact LP.good HE.out (by rw [F.out]; exact o5.isL) (k4.trans (b5.mono k4.size))
  · obtain ⟨e0, he0⟩ : ∃ e0, bothE la lb = e0 := ⟨_, rfl⟩
    have e1 : (e0 != 0) = true := by rw [← he0]; simpa using he
    have e2 : (e0 == 0) = false := by rw [← he0]; simpa using he
    have HZ : Hid (meetE la lb = []) := Lib.hid (by unfold meetE; rw [if_neg he])
    have HE := Lib.hid he0
    clear he he0
    go_enter Try.func35, Try.ntmps35
    go_wp2_with fail
    refine HCH.out.mono ?_
    rintro e w1 ⟨rfl, b1⟩
    rw [HE.out]
    go_wp2
    go_ret2
    exact LP.bad HE.out HZ.out b1
end Go.Proofs.Ytmcckngodaeojaa
namespace Go.Proofs.Ytmcckngodaeojaa
open Go.RowKit Grade03

theorem cells3 : Try.prog.cellsOf 3 = 1 := by kernel_rfl
/-- two pairs of numbers are compared -/
theorem eq_pair (u v x y : Int) (w : World) : (Op.equalIn 10000 65 (.agg #[.int .i64 u, .int .i64 v]) (.agg #[.int .i64 x, .int .i64 y])).run Try.prog w = .ok (u == x && v == y) w := by
  obtain ⟨i, hi, _⟩ := info_parts elem3
  rw [show 10000 = 9999 + 1 from rfl, run_equalIn_array w 9999 _ _ Try.underlying65 hi, cells3]
  have e : ∀ a b : Int, (Op.equalIn 9999 3 (.int .i64 a) (.int .i64 b)).run Try.prog w = .ok (a == b) w := fun a b => run_equalIn_int w 9998 3 .i64 .i64 a b Try.underlying3
  simp only [List.range, List.range.loop, Op.eqItems, Sem.run_bind]
  go_simp
  by_cases h1 : u = x <;> by_cases h2 : v = y <;> simp [h1, h2]
def largeB (L : List Sl) : Bool := L.any fun s => decide (60 < s.n)
theorem largeB_hit (L : List Sl) (i : Nat) (hi : i < L.length) (h : 60 < (L.getD i sl0).n) : largeB L = true :=
  List.any_eq_true.2 ⟨L.getD i sl0, by rw [List.getD, List.getElem?_eq_getElem hi]; exact List.getElem_mem hi, by simpa using h⟩
theorem largeB_no (L : List Sl) (h : ∀ i, i < L.length → ¬ 60 < (L.getD i sl0).n) : largeB L = false := by
  rw [largeB, List.any_eq_false]
  intro s hs
  obtain ⟨i, hi, rfl⟩ := List.mem_iff_getElem.1 hs
  have := h i hi
  rw [List.getD, List.getElem?_eq_getElem hi] at this
  simpa using this
set_option maxHeartbeats 2000000 in
set_option maxRecDepth 100000 in
theorem large_any (g m c0 : Nat) (L : List Sl) (w : World) (hR : RowsL w g L) (hm : L.length = m) (hm9 : m ≤ 9) :
    Calls Try.prog 15 #[.slice (some ⟨g, 0, none⟩) m c0] w fun e w' => e = .returned (.bool (largeB L)) ∧ w = w' := by
  have HM := Lib.hid hm
  clear hm
  go_enter Try.func15, Try.ntmps15
  go_wp2_with fail
  go_loopw [3] (fun vi wr => ∃ i : Nat, i ≤ m ∧ vi = .int .i64 (i : Int) ∧ Hid (∀ j, j < i → ¬ 60 < (L.getD j sl0).n) ∧ w = wr) (fun vi _ => m - (intOf vi).toNat)
  case atStart => exact ⟨0, by omega, rfl, Lib.hid (fun j hj => by omega), rfl⟩
  case round =>
    obtain ⟨i, hi, rfl, hD, rfl⟩ := hrel
    by_cases hlt : i < m
    · have y := hR.arr.cell i sl0 (by rw [HM.out]; exact hlt)
      have q1 : (i : Int) < (m : Int) := by omega
      obtain ⟨s, hs⟩ : ∃ s, L.getD i sl0 = s := ⟨_, rfl⟩
      rw [hs] at y
      obtain ⟨sa, sn, sc, sll⟩ := s
      rw [show Sl.v ⟨sa, sn, sc, sll⟩ = .slice sa sn sc from rfl] at y
      have HS := Lib.hid hs
      clear hs
      by_cases h60 : 60 < sn
      · have d1 : decide ((60 : Int) < (sn : Int)) = true := by simp; omega
        have d2 : (60 : Int) < (sn : Int) := by omega
        have HR : Hid (largeB L = true) := Lib.hid (largeB_hit L i (by rw [HM.out]; exact hlt) (by rw [HS.out]; exact h60))
        clear h60
        go_wp2_with fail
        go_ret
        exact ⟨by rw [HR.out]; rfl, rfl⟩
      · have d1 : decide ((60 : Int) < (sn : Int)) = false := by simp; omega
        have d2 : ¬ (60 : Int) < (sn : Int) := by omega
        have hD2 : Hid (∀ j, j < i + 1 → ¬ 60 < (L.getD j sl0).n) := Lib.hid (fun j hj => by
          by_cases e : j = i
          · rw [e, HS.out]; exact h60
          · exact hD.out j (by omega))
        clear h60
        go_wp2_with fail
        go_roundw
        case rel => first | exact ⟨i + 1, by omega, by go_num, hD2, by first | trivial | rfl⟩ | ((repeat apply Exists.intro); exact ⟨⟨i + 1, by omega, by go_num, hD2, by first | trivial | rfl⟩, rfl⟩)
        case measure => (simp [intOf] <;> omega)
    · obtain rfl : i = m := by omega
      have HR : Hid (largeB L = false) := Lib.hid (largeB_no L (by rw [HM.out]; exact hD.out))
      go_wp2_with fail
      go_ret
      exact ⟨by rw [HR.out]; rfl, rfl⟩
set_option maxHeartbeats 2000000 in
set_option maxRecDepth 100000 in
theorem pairs_yes (a b : Option Addr) (n m c c' B B' e e' : Nat) (A A' : List (Int × Int)) (w : World) (h : OwnP w e B a n c A) (h' : OwnP w e' B' b m c' A') (he : A = A') :
    Calls Try.prog 21 #[.slice a n c, .slice b m c'] w fun e w' => e = .returned (.bool true) ∧ Below w.heap.size w w' := by
  subst he
  obtain rfl : m = n := by rw [← h.len, ← h'.len]
  have hcap := h.caps
  have hcap' := h'.caps
  have hr : ((m : Int) != (m : Int)) = false := by simp
  go_enter Try.func21, Try.ntmps21
  go_wp2
  go_loopw [5] (fun vi wr => ∃ k : Nat, k ≤ m ∧ vi = .int .i64 k ∧ Below w.heap.size w wr) (fun vi _ => m - (intOf vi).toNat)
  case atStart => exact ⟨0, by omega, rfl, Below.refl _ _⟩
  case round =>
    obtain ⟨k, hk, rfl, hb⟩ := hrel
    by_cases hlt : k < m
    · obtain ⟨g1, rfl, _, _⟩ := h.addr (by omega)
      obtain ⟨g2, rfl, _, _⟩ := h'.addr (by omega)
      obtain ⟨x1, x2⟩ := (h.below hb).cell k hlt
      obtain ⟨y1, y2⟩ := (h'.below hb).cell k hlt
      generalize (A.getD k (0, 0)).1 = u at *
      generalize (A.getD k (0, 0)).2 = v at *
      have q1 : (k : Int) < (m : Int) := by omega
      have hq : ∀ w, (Op.equalIn 10000 65 (.agg #[.int .i64 u, .int .i64 v]) (.agg #[.int .i64 u, .int .i64 v])).run Try.prog w = .ok true w := fun w => by rw [eq_pair]; simp
      go_wp2
      go_quiet (fail)
      go_wp2
      go_roundw
      case rel => exact ⟨k + 1, by omega, by go_num, belowN hb _⟩
      case measure => simp [intOf]; omega
    · go_wp2
      go_ret
      exact ⟨rfl, hb⟩
end Go.Proofs.Ytmcckngodaeojaa
namespace Go.Proofs.Ytmcckngodaeojaa
open Go.RowKit Grade03
set_option maxHeartbeats 4000000 in
set_option maxRecDepth 100000 in
theorem rDiffer_any (a b : Option Addr) (n m0 c d : Nat) (la lb : List Int) (w : World) (h : IsL w a n c la) (h' : IsL w b m0 d lb) :
    Calls Try.prog 18 #[.slice a n c, .slice b m0 d] w (DiffP la lb w) := by
  by_cases he : bothE la lb = 0
  · obtain ⟨hc1, hc2, hlen⟩ := bothE_zero.1 he
    obtain ⟨hO, hn1, hn7⟩ := chkE_zero.1 hc1
    obtain ⟨hO', _, _⟩ := chkE_zero.1 hc2
    have hl := h.len
    have hl' := h'.len
    obtain rfl : m0 = n := by omega
    rw [hl] at hn1 hn7
    have HO := Lib.hid hO
    have HO' := Lib.hid hO'
    have HE := Lib.hid he
    have HRES : Hid ((if bothE la lb = 0 then difL la lb else []) = difL la lb) := Lib.hid (by rw [if_pos he])
    clear he hc1 hc2 hlen hO hO' hl hl'
    go_enter Try.func18, Try.ntmps18
    go_wp2_with fail
    refine (rboth_any a b m0 m0 c d la lb w h h').mono ?_
    rintro e w1 ⟨rfl, b1⟩
    rw [HE.out]
    go_wp2_with fail
    refine (rdiffer_any a b m0 c d la lb w1 (h.below b1) (h'.below b1) HO.out HO'.out hn7).mono ?_
    rintro e w2 ⟨a2, m2, c2, rfl, o2, b2⟩
    go_wp2
    go_ret2
    exact ⟨_, _, _, by rw [HE.out]; rfl, by rw [HRES.out]; exact o2.weaken b1.size, b1.trans (b2.mono b1.size)⟩
  · obtain ⟨e0, he0⟩ : ∃ e0, bothE la lb = e0 := ⟨_, rfl⟩
    have e1 : (e0 != 0) = true := by rw [← he0]; simpa using he
    have e2 : (e0 == 0) = false := by rw [← he0]; simpa using he
    have HRES : Hid ((if bothE la lb = 0 then difL la lb else []) = []) := Lib.hid (by rw [if_neg he])
    have HE := Lib.hid he0
    clear he he0
    go_enter Try.func18, Try.ntmps18
    go_wp2_with fail
    refine (rboth_any a b n m0 c d la lb w h h').mono ?_
    rintro e w1 ⟨rfl, b1⟩
    rw [HE.out]
    go_wp2
    go_ret2
    exact ⟨_, _, _, by rw [HE.out]; rfl, by rw [HRES.out]; exact OwnP.nilP _ _ _, b1⟩
section
variable {f : Nat} {args : Array Value} {w : World} {E x R r : Int} {L l : List Int}
theorem lp_c (h : Calls Try.prog f args w (LP E L w)) (hx : E = x) (hr : L = l) : Calls Try.prog f args w (LP x l w) := by subst hx hr; exact h
theorem np_c (h : Calls Try.prog f args w (NP E R w)) (hx : E = x) (hr : R = r) : Calls Try.prog f args w (NP x r w) := by subst hx hr; exact h
/-- an error alone -/
def EP (x : Int) (w : World) (e : Ending) (w' : World) : Prop := e = .returned (.int .i64 x) ∧ Below w.heap.size w w'
theorem ep_c (h : Calls Try.prog f args w (EP E w)) (hx : E = x) : Calls Try.prog f args w (EP x w) := by subst hx; exact h
/-- a truth and an error -/
def BP (b : Bool) (x : Int) (w : World) (e : Ending) (w' : World) : Prop := e = .returned (.tuple #[.bool b, .int .i64 x]) ∧ Below w.heap.size w w'
theorem bp_c {B b : Bool} (h : Calls Try.prog f args w (BP B E w)) (hx : E = x) (hb : B = b) : Calls Try.prog f args w (BP b x w) := by subst hx hb; exact h
/-- pairs and an error -/
def PP (x : Int) (A : List (Int × Int)) (w : World) (e : Ending) (w' : World) : Prop := ∃ a' m c', e = .returned (.tuple #[.slice a' m c', .int .i64 x]) ∧ OwnP w' 65 w.heap.size a' m c' A ∧ Below w.heap.size w w'
theorem pp_c {A a : List (Int × Int)} (h : Calls Try.prog f args w (PP E A w)) (hx : E = x) (ha : A = a) : Calls Try.prog f args w (PP x a w) := by subst hx ha; exact h
end
def difE (la lb : List Int) : List (Int × Int) := if bothE la lb = 0 then difL la lb else []
def wayE (la lb : List Int) : List Int := if bothE la lb = 0 then wayR lb la else []
variable {a b x : Option Addr} {n m k c d f : Nat} {la lb lx l : List Int} {w : World}
theorem Differ_c (h : IsL w a n c la) (h' : IsL w b m d lb) {v : Int} {A : List (Int × Int)} (hx : bothE la lb = v) (hr : difE la lb = A) : Calls Try.prog 17 #[.slice a n c, .slice b m d] w (PP v A w) := pp_c (Differ_any a b n m c d la lb w h h') hx hr
theorem rDiffer_c (h : IsL w a n c la) (h' : IsL w b m d lb) {v : Int} {A : List (Int × Int)} (hx : bothE la lb = v) (hr : difE la lb = A) : Calls Try.prog 18 #[.slice a n c, .slice b m d] w (PP v A w) := pp_c (rDiffer_any a b n m c d la lb w h h') hx hr
theorem Way_c (h : IsL w a n c la) (h' : IsL w b m d lb) {v : Int} {r : List Int} (hx : bothE la lb = v) (hr : wayE la lb = r) : Calls Try.prog 19 #[.slice a n c, .slice b m d] w (LP v r w) := lp_c (Way_any a b n m c d la lb w h h') hx hr
theorem rWay_c (h : IsL w a n c la) (h' : IsL w b m d lb) {v : Int} {r : List Int} (hx : bothE la lb = v) (hr : wayE la lb = r) : Calls Try.prog 20 #[.slice a n c, .slice b m d] w (LP v r w) := lp_c (rWay_any a b n m c d la lb w h h') hx hr
theorem First_c (h : IsL w a n c la) (h' : IsL w b m d lb) {v : Int} {r : List Int} (hx : bothE la lb = v) (hr : fstE la lb = r) : Calls Try.prog 31 #[.slice a n c, .slice b m d] w (LP v r w) := lp_c (First_any a b n m c d la lb w h h') hx hr
theorem rFirst_c (h : IsL w a n c la) (h' : IsL w b m d lb) {v : Int} {r : List Int} (hx : bothE la lb = v) (hr : fstE la lb = r) : Calls Try.prog 32 #[.slice a n c, .slice b m d] w (LP v r w) := lp_c (rFirst_any a b n m c d la lb w h h') hx hr
theorem Join_c (h : IsL w a n c la) (h' : IsL w b m d lb) {v : Int} {r : List Int} (hx : bothE la lb = v) (hr : joinE la lb = r) : Calls Try.prog 33 #[.slice a n c, .slice b m d] w (LP v r w) := lp_c (Join_any a b n m c d la lb w h h') hx hr
theorem rJoin_c (h : IsL w a n c la) (h' : IsL w b m d lb) {v : Int} {r : List Int} (hx : bothE la lb = v) (hr : joinE la lb = r) : Calls Try.prog 34 #[.slice a n c, .slice b m d] w (LP v r w) := lp_c (rJoin_any a b n m c d la lb w h h') hx hr
theorem Meet_c (h : IsL w a n c la) (h' : IsL w b m d lb) {v : Int} {r : List Int} (hx : bothE la lb = v) (hr : meetE la lb = r) : Calls Try.prog 35 #[.slice a n c, .slice b m d] w (LP v r w) := lp_c (Meet_any a b n m c d la lb w h h') hx hr
theorem rMeet_c (h : IsL w a n c la) (h' : IsL w b m d lb) {v : Int} {r : List Int} (hx : bothE la lb = v) (hr : meetE la lb = r) : Calls Try.prog 36 #[.slice a n c, .slice b m d] w (LP v r w) := lp_c (rMeet_any a b n m c d la lb w h h') hx hr
theorem Joint_c (h : IsL w a n c la) (h' : IsL w b m d lb) {v r : Int} (hx : bothE la lb = v) (hr : jntE la lb = r) : Calls Try.prog 29 #[.slice a n c, .slice b m d] w (NP v r w) := np_c (Joint_any a b n m c d la lb w h h') hx hr
theorem Between_c (h : IsL w a n c la) (h' : IsL w b m d lb) (h2 : IsL w x k f lx) {v : Int} {r : Bool} (hx : threeE la lb lx = v) (hr : btwE la lb lx = r) : Calls Try.prog 27 #[.slice a n c, .slice b m d, .slice x k f] w (BP r v w) := bp_c (Between_any a b x n m k c d f la lb lx w h h' h2) hx hr
theorem Leads_c (h : IsL w a n c la) (h' : IsL w b m d lb) (h2 : IsL w x k f lx) {v : Int} (hx : leadsE la lb lx = v) : Calls Try.prog 23 #[.slice a n c, .slice b m d, .slice x k f] w (EP v w) := ep_c (Leads_any a b x n m k c d f la lb lx w h h' h2) hx
theorem Check_c (h : IsL w a n c l) {v : Int} (hx : chkE l = v) : Calls Try.prog 25 #[.slice a n c] w (EP v w) := ep_c (Check_any a n c l w h) hx
theorem Code_c (h : IsL w a n c l) {v : Int} {r : List Int} (hx : chkE l = v) (hr : codE l = r) : Calls Try.prog 37 #[.slice a n c] w (LP v r w) := lp_c (Code_any a n c l w h) hx hr
theorem From_c (h : IsL w a n c l) {v : Int} {r : List Int} (hx : fromE l = v) (hr : fromR l = r) : Calls Try.prog 39 #[.slice a n c] w (LP v r w) := lp_c (From_any a n c l w h) hx hr
theorem Shift_c (h : IsL w a n c l) {v : Int} {r : List Int} (hx : chkE l = v) (hr : shiftR l = r) : Calls Try.prog 43 #[.slice a n c] w (LP v r w) := lp_c (Shift_any a n c l w h) hx hr
theorem Back_c (h : IsL w a n c l) {v : Int} {r : List Int} (hx : chkE l = v) (hr : backR l = r) : Calls Try.prog 45 #[.slice a n c] w (LP v r w) := lp_c (Back_any a n c l w h) hx hr
theorem Major_c (h : IsL w a n c l) {v r : Int} (hx : chkE l = v) (hr : majE l = r) : Calls Try.prog 41 #[.slice a n c] w (NP v r w) := np_c (Major_any a n c l w h) hx hr
theorem Count_c (i j : Int) (w : World) {v r : Int} (hx : cntE i j = v) (hr : cntR i j = r) : Calls Try.prog 47 #[.int .i64 i, .int .i64 j] w (NP v r w) := np_c (Count_any i j w) hx hr
theorem rJoint_c (h : IsL w a n c la) (h' : IsL w b m d lb) {v r : Int} (hx : bothE la lb = v) (hr : jntE la lb = r) : Calls Try.prog 30 #[.slice a n c, .slice b m d] w (NP v r w) := np_c (rJoint_any a b n m c d la lb w h h') hx hr
theorem rBetween_c (h : IsL w a n c la) (h' : IsL w b m d lb) (h2 : IsL w x k f lx) {v : Int} {r : Bool} (hx : threeE la lb lx = v) (hr : btwE la lb lx = r) : Calls Try.prog 28 #[.slice a n c, .slice b m d, .slice x k f] w (BP r v w) := bp_c (rBetween_any a b x n m k c d f la lb lx w h h' h2) hx hr
theorem rLeads_c (h : IsL w a n c la) (h' : IsL w b m d lb) (h2 : IsL w x k f lx) {v : Int} (hx : leadsE la lb lx = v) : Calls Try.prog 24 #[.slice a n c, .slice b m d, .slice x k f] w (EP v w) := ep_c (rLeads_any a b x n m k c d f la lb lx w h h' h2) hx
theorem rCheck_c (h : IsL w a n c l) {v : Int} (hx : chkE l = v) : Calls Try.prog 26 #[.slice a n c] w (EP v w) := ep_c (rCheck_any a n c l w h) hx
theorem rCode_c (h : IsL w a n c l) {v : Int} {r : List Int} (hx : chkE l = v) (hr : codE l = r) : Calls Try.prog 38 #[.slice a n c] w (LP v r w) := lp_c (rCode_any a n c l w h) hx hr
theorem rFrom_c (h : IsL w a n c l) {v : Int} {r : List Int} (hx : fromE l = v) (hr : fromR l = r) : Calls Try.prog 40 #[.slice a n c] w (LP v r w) := lp_c (rFrom_any a n c l w h) hx hr
theorem rShift_c (h : IsL w a n c l) {v : Int} {r : List Int} (hx : chkE l = v) (hr : shiftR l = r) : Calls Try.prog 44 #[.slice a n c] w (LP v r w) := lp_c (rShift_any a n c l w h) hx hr
theorem rBack_c (h : IsL w a n c l) {v : Int} {r : List Int} (hx : chkE l = v) (hr : backR l = r) : Calls Try.prog 46 #[.slice a n c] w (LP v r w) := lp_c (rBack_any a n c l w h) hx hr
theorem rMajor_c (h : IsL w a n c l) {v r : Int} (hx : chkE l = v) (hr : majE l = r) : Calls Try.prog 42 #[.slice a n c] w (NP v r w) := np_c (rMajor_any a n c l w h) hx hr
theorem rCount_c (i j : Int) (w : World) {v r : Int} (hx : cntE i j = v) (hr : cntR i j = r) : Calls Try.prog 48 #[.int .i64 i, .int .i64 j] w (NP v r w) := np_c (rCount_any i j w) hx hr
theorem same_c (h : IsL w a n c l) (h' : IsL w b m d l) : Calls Try.prog 22 #[.slice a n c, .slice b m d] w fun e w' => e = .returned (.bool true) ∧ Below w.heap.size w w' :=
  same_yes a b n c m d l l w h h' rfl
theorem pairs_c {e e' B B' : Nat} {A : List (Int × Int)} (h : OwnP w e B a n c A) (h' : OwnP w e' B' b m d A) : Calls Try.prog 21 #[.slice a n c, .slice b m d] w fun e w' => e = .returned (.bool true) ∧ Below w.heap.size w w' :=
  pairs_yes a b n m c d B B' e e' A A w h h' rfl
theorem A_any (w : World) : Calls Try.prog 53 #[] w fun e w' => ∃ a n c, e = .returned (.slice a n c) ∧ IsL w' a n c [1, 3, 0, 2] ∧ Below w.heap.size w w' := by
  have h := isL_lit w ([1, 3, 0, 2] : List Int) #[.int .i64 1, .int .i64 3, .int .i64 0, .int .i64 2] 3 4 rfl rfl (by decide)
  go_enter Try.func53, Try.ntmps53
  go_wp2_with (go_at_call 54; refine (list_any _ _ _ _).mono ?_; rintro e w' ⟨rfl, rfl⟩)
  go_ret
  exact ⟨_, _, _, rfl, h, (Below.refl _ _).alloc (Nat.le_refl _) _⟩
theorem B_any (w : World) : Calls Try.prog 52 #[] w fun e w' => ∃ a n c, e = .returned (.slice a n c) ∧ IsL w' a n c [3, 1, 2, 0] ∧ Below w.heap.size w w' := by
  have h := isL_lit w ([3, 1, 2, 0] : List Int) #[.int .i64 3, .int .i64 1, .int .i64 2, .int .i64 0] 3 4 rfl rfl (by decide)
  go_enter Try.func52, Try.ntmps52
  go_wp2_with (go_at_call 54; refine (list_any _ _ _ _).mono ?_; rintro e w' ⟨rfl, rfl⟩)
  go_ret
  exact ⟨_, _, _, rfl, h, (Below.refl _ _).alloc (Nat.le_refl _) _⟩
end Go.Proofs.Ytmcckngodaeojaa
