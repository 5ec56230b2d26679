/- Walks of chapter 3: bales are moved in parts; the shifted order. -/
import Derived.Test.YtmcckngodaeojaaWv
import Derived.Test.YtmcckngodaeojaaPa
namespace Go.Proofs.Ytmcckngodaeojaa
open Go.RowKit Grade03

set_option maxHeartbeats 4000000 in
set_option maxRecDepth 100000 in
theorem moved_any (a : Option Addr) (n c : Nat) (l : List Int) (x : Int) (w : World) (h : IsL w a n c l) (hn : n ≤ 1000) :
    Calls Try.prog 85 #[.slice a n c, .int .i64 x] w fun e w' => ∃ a' c', e = .returned (.slice a' n c') ∧ OwnL w' 3 w.heap.size a' n c' (movedL l x) ∧ Below w.heap.size w w' := by
  have hl := h.len
  have hcap := h.cap
  have hle := h.le
  have HL := Lib.hid hl
  have mixed : Try.prog.follows Departure.mixedOrders = true := by kernel_rfl
  by_cases h0 : n = 0
  · subst h0
    have F : Hid (movedL l x = []) := Lib.hid (by rw [List.eq_nil_of_length_eq_zero hl]; rfl)
    clear hl
    go_enter Try.func85, Try.ntmps85
    go_wp2_with fail
    go_ret
    exact ⟨none, 0, rfl, by rw [F.out]; exact OwnL.nilL _ _ _, Below.refl _ _⟩
  · have e0 : ((n : Int) == 0) = false := by simpa using h0
    have w0 : IntKind.i64.wrap ((n : Int) - 1) = ((n - 1 : Nat) : Int) := by rw [show (n : Int) - 1 = ((n - 1 : Nat) : Int) by omega]; exact IntWalk.i64_in _ (by omega)
    obtain ⟨m, hm⟩ : ∃ m, n - 1 = m := ⟨_, rfl⟩
    rw [hm] at w0
    have hmn : m < n := by omega
    have q9 : (m : Int) < (n : Int) := by omega
    obtain ⟨b, o, rfl, hbl, hc⟩ := h.cells (by omega)
    have y9 := hc m hmn
    have HG : Hid (cls x (l.getD (l.length - 1) 0) = decide (x < l.getD m 0)) := Lib.hid (by rw [hl, hm]; rfl)
    obtain ⟨t, ht⟩ : ∃ t, l.getD m 0 = t := ⟨_, rfl⟩
    rw [ht] at y9 HG
    obtain ⟨G, hG⟩ : ∃ G, decide (x < t) = G := ⟨_, rfl⟩
    rw [hG] at HG
    clear hl hm ht hc h0
    go_enter Try.func85, Try.ntmps85
    go_wp2_with fail
    go_loopw [23, 6, 7] (fun vi vo vf wr => ∃ (i f : Nat) (out : List Int) (a' : Option Addr) (c' : Nat), i ≤ n ∧ f ≤ i ∧ vi = .int .i64 (i : Int) ∧ vf = .int .i64 (f : Int) ∧ vo = .slice a' f c' ∧ Hid (MvS l x out f i) ∧ Hid (OwnL wr 3 w.heap.size a' f c' out) ∧ Below w.heap.size w wr) (fun vi _ _ _ => n - (intOf vi).toNat)
    case atStart => exact ⟨0, 0, [], none, 0, by omega, by omega, rfl, rfl, rfl, Lib.hid (MvS.start l x), Lib.hid (OwnL.nilL _ _ _), Below.refl _ _⟩
    case round =>
      clear hG y9
      obtain ⟨i, f, out, a', c', hi, hfi, rfl, rfl, rfl, hS, hO, hb⟩ := hrel
      have hsz := hb.size
      by_cases hlt : i < n
      · have q0 : (i : Int) < (n : Int) := by omega
        have hk := h.below hb
        have hcut := h.cut f i c hfi (by omega) (by omega) (Nat.le_refl _)
        rw [if_neg (by omega)] at hcut
        simp only [Option.map_some, add_lit0] at hcut
        obtain ⟨b2, o2, ha2, _, hc⟩ := hk.cells (by omega)
        simp only [Option.some.injEq, Addr.mk.injEq] at ha2
        obtain ⟨rfl, rfl, _⟩ := ha2
        have y1 := hc i hlt
        have HA : Hid ((decide (x < l.getD i 0) == G) = true → MvS l x (out ++ [l.getD i 0] ++ (l.take i).drop f) (i + 1) (i + 1)) := Lib.hid (fun he => hS.out.hit (by rw [HL.out]; exact hlt) (by rw [HG.out]; exact beq_iff_eq.1 he))
        have HB : Hid ((decide (x < l.getD i 0) == G) = false → MvS l x out f (i + 1)) := Lib.hid (fun he => hS.out.miss (by rw [HL.out]; exact hlt) (by rw [HG.out]; intro e; rw [show decide (x < l.getD i 0) = G from e] at he; simp at he))
        obtain ⟨v, hv⟩ : ∃ v, l.getD i 0 = v := ⟨_, rfl⟩
        rw [hv] at y1 HA HB
        obtain ⟨E, hE⟩ : ∃ E, (decide (x < v) == G) = E := ⟨_, rfl⟩
        rw [hE] at HA HB
        clear hc hv hk hS
        cases E with
        | true =>
          have HA2 := Lib.hid (HA.out rfl)
          have hO1 := hO.out
          have HCUT := Lib.hid hcut
          have hcf : ¬ c = f := by omega
          have q1 : (f : Int) ≤ (i : Int) := by omega
          have q2 : (i : Int) ≤ (c : Int) := by omega
          obtain ⟨W1, hW1⟩ : ∃ W1, (wr.alloc (.cells #[.int .i64 v] 3)).drew = W1 := ⟨_, rfl⟩
          have HO2 : Hid (OwnL (wr.alloc (.cells #[.int .i64 v] 3)).drew 3 w.heap.size a' f c' out) := Lib.hid (hO1.alloc _).drew
          have HX2 : Hid (IsL (wr.alloc (.cells #[.int .i64 v] 3)).drew (some ⟨wr.heap.size, 0, none⟩) 1 1 [v]) := Lib.hid (isL_one _ _ _).drew
          have HB3 : Hid (Below w.heap.size w (wr.alloc (.cells #[.int .i64 v] 3)).drew) := Lib.hid (hb.alloc hsz _).drew
          have hs1 : f + 1 ≤ 17592186044416 := by omega
          have hs2 : f + 1 + (i - f) ≤ 17592186044416 := by omega
          have hs3 := HB3.out.size
          clear hO HA HB hcut hO1 hW1
          go_wp2_with fail
          go_region_law_o (first
            | (refine step_app_own Try.underlying22 elem3 w.heap.size (.tmp 33) (.tmp 35) ?_ ?_ ?_ ?_ HO2.out HX2.out hs3 hs1 ?_; rfl; rfl; rfl; rfl; intro a6 c6 w6 o6 g6 b6 v6)
            | (refine step_app_own Try.underlying22 elem3 w.heap.size (.tmp 36) (.tmp 40) ?_ ?_ ?_ ?_ o6 (HCUT.out.below (HB3.out.trans b6)) (HB3.out.trans b6).size hs2 ?_; rfl; rfl; rfl; rfl; intro a7 c7 w7 o7 g7 b7 v7))
          have hO7 : Hid (OwnL w7 3 w.heap.size a7 (i + 1) c7 (out ++ [v] ++ (l.take i).drop f)) := Lib.hid (by
            rw [show f + 1 + (i - f) = i + 1 by omega] at o7
            exact o7)
          have hb7 := (HB3.out.trans b6).trans b7
          clear o6 g6 b6 v6 o7 g7 b7 v7
          go_wp2
          go_roundw
          case rel => exact ⟨i + 1, i + 1, _, a7, c7, by omega, by omega, by go_num, by go_num, (by rw [show f + 1 + (i - f) = i + 1 by omega]), HA2, hO7, hb7⟩
          case measure => (simp [intOf] <;> omega)
        | false =>
          have HB2 := Lib.hid (HB.out rfl)
          clear HA HB hcut
          go_wp2_with fail
          go_roundw
          case rel => first | exact ⟨i + 1, f, out, a', c', by omega, by omega, by go_num, rfl, rfl, HB2, hO, hb⟩ | ((repeat apply Exists.intro); exact ⟨⟨i + 1, f, out, a', c', by omega, by omega, by go_num, rfl, rfl, HB2, hO, hb⟩, rfl⟩)
          case measure => (simp [intOf] <;> omega)
      · obtain rfl : i = n := by omega
        have F : Hid (movedL l x = out ∧ f = i) := Lib.hid (by
          have h1 := hS.out.fin (by rw [HL.out]; omega)
          have h2 := moved_len l x
          rw [h1, hS.out.len, HL.out] at h2
          exact ⟨h1, h2⟩)
        obtain rfl : f = i := F.out.2
        go_wp2
        go_ret
        exact ⟨_, _, rfl, by rw [F.out.1]; exact hO.out, hb⟩

def shiftR (l : List Int) : List Int := if chkE l = 0 then shiftL l else []
theorem shiftR_bad {l : List Int} {e0 : Int} (h : chkE l = e0) (h0 : e0 ≠ 0) : shiftR l = [] := by unfold shiftR; rw [h, if_neg h0]
theorem shiftR_ok {l : List Int} (h : chkE l = 0) : shiftR l = shiftL l := by unfold shiftR; rw [if_pos h]
set_option maxHeartbeats 4000000 in
set_option maxRecDepth 100000 in
theorem Shift_any (a : Option Addr) (n c : Nat) (l : List Int) (w : World) (h : IsL w a n c l) :
    Calls Try.prog 43 #[.slice a n c] w (LP (chkE l) (shiftR l) w) := by
  obtain ⟨e0, he0⟩ : ∃ e0, chkE l = e0 := ⟨_, rfl⟩
  have H0 := Lib.hid he0
  by_cases hz : e0 = 0
  · subst hz
    obtain ⟨hO, hn1, hn7⟩ := chkE_zero.1 he0
    have hl := h.len
    rw [hl] at hn1 hn7
    have HL := Lib.hid hl
    clear hl he0 hO
    go_enter Try.func43, Try.ntmps43
    go_wp2_with fail
    refine (Check_any _ _ _ _ _ h).mono ?_
    rintro e w1 ⟨rfl, b1⟩
    rw [H0.out]
    go_wp2_with fail
    go_loopw [15, 5] (fun vi vo wr => ∃ (i : Nat) (a' : Option Addr) (c' : Nat), i ≤ n ∧ vi = .int .i64 (i : Int) ∧ vo = .slice a' i c' ∧ Hid (OwnL wr 3 w.heap.size a' i c' (shK l i)) ∧ Below w.heap.size w wr) (fun vi _ _ => n - (intOf vi).toNat)
    case atStart => exact ⟨0, none, 0, by omega, rfl, rfl, Lib.hid (OwnL.nilL _ _ _), b1⟩
    case round =>
      clear b1
      obtain ⟨i, a', c', hi, rfl, rfl, hO, hb⟩ := hrel
      have hsz := hb.size
      by_cases hlt : i < n
      · have q0 : (i : Int) < (n : Int) := by omega
        have hk := h.below hb
        obtain ⟨b, o, rfl, _, hc⟩ := hk.cells (by omega)
        have y1 := hc i hlt
        have HF : Hid (shK l (i + 1) = movedL (shK l i) (l.getD i 0) ++ [l.getD i 0]) := Lib.hid rfl
        obtain ⟨v, hv⟩ : ∃ v, l.getD i 0 = v := ⟨_, rfl⟩
        rw [hv] at y1 HF
        have HC := Lib.hid (moved_any a' i c' (shK l i) v wr hO.out.isL (by omega))
        clear hc hv hk hO
        go_wp2_with (first
          | (go_at_call 85; refine HC.out.mono ?_; rintro e w3 ⟨a3, c3, rfl, hO3, b3⟩)
          | (at_builtin; refine wl_app_own Try.underlying22 elem3 w.heap.size (.tmp 21) (.tmp 23) rfl rfl rfl rfl ((hO3.weaken hsz).alloc _) (isL_one _ _ _) (by have := b3.size; simp; omega) (by omega) ?_))
        intro a6 c6 w6 o6 g6 b6 v6
        have hO7 : Hid (OwnL w6 3 w.heap.size a6 (i + 1) c6 (shK l (i + 1))) := Lib.hid (by rw [HF.out]; exact o6)
        have hb7 := ((hb.trans (b3.mono hsz)).alloc (Nat.le_trans hsz b3.size) (.cells #[.int .i64 v] 3)).trans b6
        clear g6 v6 o6 b6 hO3 b3 hb HC
        go_wp2
        go_roundw
        case rel => first | exact ⟨i + 1, a6, c6, by omega, by go_num, rfl, hO7, hb7⟩ | ((repeat apply Exists.intro); exact ⟨⟨i + 1, a6, c6, by omega, by go_num, rfl, hO7, hb7⟩, rfl⟩)
        case measure => (simp [intOf] <;> omega)
      · obtain rfl : i = n := by omega
        have F : Hid (shiftR l = shK l i) := Lib.hid (by rw [shiftR_ok H0.out, shiftL, HL.out])
        go_wp2
        go_ret2
        exact LP.good H0.out (by rw [F.out]; exact hO.out.isL) hb
  · have t1 : (e0 == 0) = false := by simpa using hz
    have t2 : (e0 != 0) = true := by simpa using hz
    have HZ := Lib.hid hz
    clear hz he0
    go_enter Try.func43, Try.ntmps43
    go_wp2_with fail
    refine (Check_any _ _ _ _ _ h).mono ?_
    rintro e w1 ⟨rfl, b1⟩
    rw [H0.out]
    go_wp2
    go_ret2
    exact LP.bad H0.out (shiftR_bad H0.out HZ.out) b1
end Go.Proofs.Ytmcckngodaeojaa
namespace Go.Proofs.Ytmcckngodaeojaa
open Go.RowKit Grade03

set_option maxHeartbeats 8000000 in
set_option maxRecDepth 100000 in
theorem shift_any (a : Option Addr) (n c : Nat) (l : List Int) (w : World) (h : IsL w a n c l) (hn : n ≤ 1000) :
    Calls Try.prog 86 #[.slice a n c] w fun e w' => ∃ a' c', e = .returned (.slice a' n c') ∧ IsL w' a' n c' (shiftL l) ∧ Below w.heap.size w w' := by
  have hl := h.len
  have hcap := h.cap
  have hle := h.le
  have HL := Lib.hid hl
  clear hl
  go_enter Try.func86, Try.ntmps86
  go_wp2_with fail
  go_loopw [4, 3] (fun vi vo wr => ∃ (i : Nat) (a' : Option Addr) (c' : Nat), i ≤ n ∧ vi = .int .i64 (i : Int) ∧ vo = .slice a' i c' ∧ Hid (OwnL wr 3 w.heap.size a' i c' (shK l i)) ∧ Below w.heap.size w wr) (fun vi _ _ => n - (intOf vi).toNat)
  case atStart => exact ⟨0, none, 0, by omega, rfl, rfl, Lib.hid (OwnL.nilL _ _ _), Below.refl _ _⟩
  case round =>
    obtain ⟨i, aO, cO, hi, rfl, rfl, hO, hb⟩ := hrel
    by_cases hlt : i < n
    · have q0 : (i : Int) < (n : Int) := by omega
      have hk := h.below hb
      obtain ⟨b, o, rfl, _, hc⟩ := hk.cells (by omega)
      have y1 := hc i hlt
      have HF : Hid (shK l (i + 1) = movedL (shK l i) (l.getD i 0) ++ [l.getD i 0]) := Lib.hid rfl
      have HLS : Hid ((shK l i).length = i) := Lib.hid (shK_len l i)
      obtain ⟨x, hx⟩ : ∃ x, l.getD i 0 = x := ⟨_, rfl⟩
      rw [hx] at y1 HF
      obtain ⟨L, hL⟩ : ∃ L, shK l i = L := ⟨_, rfl⟩
      rw [hL] at HF HLS hO
      clear hc hx hk hL
      go_wp2_with fail
      go_loopw [8, 6, 7] (fun vk vn vp wr => ∃ (k f p : Nat) (nx : List Int) (aN : Option Addr) (cN : Nat) (aP : Option Addr) (cP : Nat), k ≤ i ∧ p + f = k ∧ vk = .int .i64 (k : Int) ∧ vn = .slice aN f cN ∧ vp = .slice aP p cP ∧ Hid (MvS L x nx f k) ∧ Hid (OwnL wr 3 w.heap.size aN f cN nx) ∧ Hid (OwnL wr 3 w.heap.size aP p cP ((L.take k).drop f)) ∧ Hid (OwnL wr 3 w.heap.size aO i cO L) ∧ Sep aN aP ∧ Sep aN aO ∧ Sep aP aO ∧ Below w.heap.size w wr) (fun vk _ _ _ => i - (intOf vk).toNat)
      case atStart => exact ⟨0, 0, 0, [], none, 0, none, 0, by omega, rfl, rfl, rfl, rfl, Lib.hid (MvS.start L x), Lib.hid (OwnL.nilL _ _ _), Lib.hid (by simpa using OwnL.nilL _ _ _), hO, Sep.none_left _, Sep.none_left _, Sep.none_left _, hb⟩
      case round =>
        clear hO hb
        obtain ⟨k, f, p, nx, aN, cN, aP, cP, hk, hpf, rfl, rfl, rfl, hS, hN, hP, hO, s1, s2, s3, hb⟩ := hrel
        have hsz := hb.size
        by_cases hki : k < i
        · have q1 : (k : Int) < (i : Int) := by omega
          obtain ⟨m, hm⟩ : ∃ m, i = m + 1 := ⟨i - 1, by omega⟩
          have w0 : IntKind.i64.wrap ((i : Int) - 1) = (m : Int) := by rw [show (i : Int) - 1 = (m : Int) by omega]; exact IntWalk.i64_in _ (by omega)
          have q2 : (m : Int) < (i : Int) := by omega
          obtain ⟨g, rfl⟩ := hO.out.addr (by omega)
          obtain ⟨y2, _⟩ := hO.out.gen.cell k 0 hki
          obtain ⟨y3, _⟩ := hO.out.gen.cell m 0 (by omega)
          have HG : Hid (L.length - 1 = m) := Lib.hid (by rw [HLS.out]; omega)
          have HA : Hid ((decide (x < L.getD k 0) == decide (x < L.getD m 0)) = true → MvS L x (nx ++ [L.getD k 0] ++ (L.take k).drop f) (k + 1) (k + 1)) := Lib.hid (fun he => hS.out.hit (by rw [HLS.out]; exact hki) (by rw [HG.out]; exact beq_iff_eq.1 he))
          have HB : Hid ((decide (x < L.getD k 0) == decide (x < L.getD m 0)) = false → MvS L x nx f (k + 1)) := Lib.hid (fun he => hS.out.miss (by rw [HLS.out]; exact hki) (by rw [HG.out]; intro e; rw [show decide (x < L.getD k 0) = decide (x < L.getD m 0) from e] at he; simp at he))
          have HPN : Hid ((L.take (k + 1)).drop f = (L.take k).drop f ++ [L.getD k 0]) := Lib.hid (part_next (by omega) (by rw [HLS.out]; exact hki))
          obtain ⟨v, hv⟩ : ∃ v, L.getD k 0 = v := ⟨_, rfl⟩
          obtain ⟨t, ht⟩ : ∃ t, L.getD m 0 = t := ⟨_, rfl⟩
          rw [hv] at y2 HA HB HPN
          have HV := Lib.hid hv
          rw [ht] at y3 HA HB
          have HT := Lib.hid ht
          obtain ⟨E, hE⟩ : ∃ E, (decide (x < v) == decide (x < t)) = E := ⟨_, rfl⟩
          rw [hE] at HA HB
          have hN1 := hN.out
          have hP1 := hP.out
          have hO1 := hO.out
          clear hv ht hm hS hN hP hO
          go_wp2_with (at_builtin; refine wl_app_own Try.underlying22 elem3 w.heap.size (.tmp 25) (.tmp 30) rfl rfl rfl rfl (hP1.alloc _) (isL_one _ _ _) (by simp; omega) (by omega) ?_)
          intro a6 c6 w6 o6 g6 b6 v6
          have hN6 := (hN1.alloc (.cells #[.int .i64 v] 3)).grown g6 s1
          have hO6 := (hO1.alloc (.cells #[.int .i64 v] 3)).grown g6 s3.symm
          have s16 := (s1.symm.via v6 (fun x hx => by have := (hN1.lt x hx).2; simp; omega)).symm
          have s36 := s3.via v6 (fun x hx => by have := (hO1.lt x hx).2; simp; omega)
          have hP6 : OwnL w6 3 w.heap.size a6 (p + 1) c6 ((L.take (k + 1)).drop f) := by rw [HPN.out]; exact o6
          have hb6 := (hb.alloc hsz (.cells #[.int .i64 v] 3)).trans b6
          obtain ⟨y2, _⟩ := hO6.gen.cell k 0 hki
          obtain ⟨y3, _⟩ := hO6.gen.cell m 0 (by omega)
          rw [show L.getD k 0 = v from HV.out] at y2
          rw [show L.getD m 0 = t from HT.out] at y3
          clear g6 b6 v6 hb hsz o6 hN1 hP1 hO1
          have HPL : Hid ((L.take (k + 1)).drop f = (L.take k).drop f ++ [v]) := HPN
          cases E with
          | false =>
            have HB2 := Lib.hid (HB.out rfl)
            clear HA HB
            go_wp2_with fail
            go_quiet (fail)
            go_wp2_with fail
            go_roundw
            case rel => first | exact ⟨k + 1, f, p + 1, nx, aN, cN, a6, c6, by omega, by omega, by go_num, rfl, rfl, HB2, Lib.hid (hN6.drewN _), Lib.hid (hP6.drewN _), Lib.hid (hO6.drewN _), s16, s2, s36, belowN hb6 _⟩ | ((repeat apply Exists.intro); exact ⟨⟨k + 1, f, p + 1, nx, aN, cN, a6, c6, by omega, by omega, by go_num, rfl, rfl, HB2, Lib.hid (hN6.drewN _), Lib.hid (hP6.drewN _), Lib.hid (hO6.drewN _), s16, s2, s36, belowN hb6 _⟩, rfl⟩)
            case measure => (simp [intOf] <;> omega)
          | true =>
            have HA2 := Lib.hid (HA.out rfl)
            clear HA HB
            go_wp2_with fail
            go_quiet (fail)
            have hN7 := hN6.drewN nq
            have hO7 := hO6.drewN nq
            have hP7 := hP6.drewN nq
            have hb7 := belowN hb6 nq
            obtain ⟨W7, hW7⟩ : ∃ W, w6.drewN nq = W := ⟨_, rfl⟩
            rw [hW7] at hN7 hO7 hP7 hb7 ⊢
            clear hN6 hO6 hP6 hb6 hW7
            have hsz := hb7.size
            obtain ⟨y4, _⟩ := hO7.gen.cell k 0 hki
            rw [show L.getD k 0 = v from HV.out] at y4
            go_wp2_with (at_builtin; refine wl_app_own Try.underlying22 elem3 w.heap.size (.tmp 47) (.tmp 52) rfl rfl rfl rfl (hN7.alloc _) (isL_one _ _ _) (by simp; omega) (by omega) ?_)
            intro a8 c8 w8 o8 g8 b8 v8
            have hP8 := (hP7.alloc (.cells #[.int .i64 v] 3)).grown g8 s16.symm
            have hO8 := (hO7.alloc (.cells #[.int .i64 v] 3)).grown g8 s2.symm
            have s18 := s16.via v8 (fun x hx => by have := (hP7.lt x hx).2; simp; omega)
            have s28 := s2.via v8 (fun x hx => by have := (hO7.lt x hx).2; simp; omega)
            have hb8 := (hb7.alloc hsz (.cells #[.int .i64 v] 3)).trans b8
            have hpre := hP8.isL.pre p c6 (by omega) (by have := hP8.isL.le; omega) (Nat.le_refl _)
            rw [show ((L.take (k + 1)).drop f).take p = (L.take k).drop f by rw [HPL.out]; exact List.take_left' (by simp [HLS.out]; omega)] at hpre
            have hsz8 := hb8.size
            have hc6 := hP8.isL.le
            have w3 : IntKind.i64.wrap ((p : Int) + 1 - 1) = (p : Int) := by rw [show (p : Int) + 1 - 1 = (p : Int) by omega]; exact IntWalk.i64_in _ (by omega)
            clear g8 b8 v8 hb7 hN7 hO7 hP7
            have q5 : (p : Int) ≤ (c6 : Int) := by omega
            go_wp2_with (at_builtin; refine wl_app_own Try.underlying22 elem3 w.heap.size (.tmp 54) (.tmp 59) rfl rfl rfl rfl o8 hpre hsz8 (by omega) ?_)
            intro a9 c9 w9 o9 g9 b9 v9
            have hO9 := Lib.hid (hO8.grown g9 s28.symm)
            have s29 := s28.via v9 (fun x hx => (hO8.lt x hx).2)
            have hN9 : Hid (OwnL w9 3 w.heap.size a9 (k + 1) c9 (nx ++ [v] ++ (L.take k).drop f)) := Lib.hid (by
              rw [show f + 1 + p = k + 1 by omega] at o9
              simpa using o9)
            have hP9 : Hid (OwnL w9 3 w.heap.size none 0 0 ((L.take (k + 1)).drop (k + 1))) := Lib.hid (by
              rw [show (L.take (k + 1)).drop (k + 1) = [] by simp]
              exact OwnL.nilL _ _ _)
            have hb9 := hb8.trans b9
            clear g9 b9 v9 o9 hO8 hP8 hpre o8 hb8
            go_wp2_with fail
            go_roundw
            case rel => exact ⟨k + 1, k + 1, 0, _, a9, c9, none, 0, by omega, by omega, by go_num, (by rw [show f + 1 + p = k + 1 by omega]), rfl, HA2, hN9, hP9, hO9, Sep.none_right _, s29, Sep.none_left _, hb9⟩
            case measure => (simp [intOf] <;> omega)
        · obtain rfl : k = i := by omega
          have F : Hid (movedL L x = nx ∧ f = k) := Lib.hid (by
            have h1 := hS.out.fin (by rw [HLS.out]; omega)
            have h2 := moved_len L x
            rw [h1, hS.out.len, HLS.out] at h2
            exact ⟨h1, h2⟩)
          obtain rfl : f = k := F.out.2
          have hN1 := hN.out
          clear hN hP hO hS s1 s2 s3
          go_wp2_with (at_builtin; refine wl_app_own Try.underlying22 elem3 w.heap.size (.tmp 61) (.tmp 63) rfl rfl rfl rfl (hN1.alloc _) (isL_one _ _ _) (by simp; omega) (by omega) ?_)
          intro a6 c6 w6 o6 g6 b6 v6
          have hO7 : Hid (OwnL w6 3 w.heap.size a6 (f + 1) c6 (shK l (f + 1))) := Lib.hid (by rw [HF.out, F.out.1]; exact o6)
          have hb7 := (hb.alloc hsz (.cells #[.int .i64 x] 3)).trans b6
          clear g6 v6 o6 b6 hN1 hb
          go_wp2
          go_roundw
          case rel => first | exact ⟨f + 1, a6, c6, by omega, by go_num, rfl, hO7, hb7⟩ | ((repeat apply Exists.intro); exact ⟨⟨f + 1, a6, c6, by omega, by go_num, rfl, hO7, hb7⟩, rfl⟩)
          case measure => (simp [intOf] <;> omega)
    · obtain rfl : i = n := by omega
      have F : Hid (shiftL l = shK l i) := Lib.hid (by rw [shiftL, HL.out])
      go_wp2
      go_ret
      exact ⟨_, _, rfl, by rw [F.out]; exact hO.out.isL, hb⟩
set_option maxHeartbeats 4000000 in
set_option maxRecDepth 100000 in
theorem rShift_any (a : Option Addr) (n c : Nat) (l : List Int) (w : World) (h : IsL w a n c l) :
    Calls Try.prog 44 #[.slice a n c] w (LP (chkE l) (shiftR l) w) := by
  obtain ⟨e0, he0⟩ : ∃ e0, chkE l = e0 := ⟨_, rfl⟩
  have H0 := Lib.hid he0
  by_cases hz : e0 = 0
  · subst hz
    obtain ⟨hO, hn1, hn7⟩ := chkE_zero.1 he0
    have hl := h.len
    rw [hl] at hn1 hn7
    clear hl he0 hO
    go_enter Try.func44, Try.ntmps44
    go_wp2_with fail
    refine (rCheck_any _ _ _ _ _ h).mono ?_
    rintro e w1 ⟨rfl, b1⟩
    rw [H0.out]
    go_wp2_with fail
    refine (shift_any _ _ _ _ _ (h.below b1) (by omega)).mono ?_
    rintro e w2 ⟨a2, c2, rfl, h2, b2⟩
    go_wp2
    go_ret2
    exact LP.good H0.out (by rw [shiftR_ok H0.out]; exact h2) (b1.trans (b2.mono b1.size))
  · have t1 : (e0 == 0) = false := by simpa using hz
    have t2 : (e0 != 0) = true := by simpa using hz
    have HZ := Lib.hid hz
    clear hz he0
    go_enter Try.func44, Try.ntmps44
    go_wp2_with fail
    refine (rCheck_any _ _ _ _ _ h).mono ?_
    rintro e w1 ⟨rfl, b1⟩
    rw [H0.out]
    go_wp2
    go_ret2
    exact LP.bad H0.out (shiftR_bad H0.out HZ.out) b1
end Go.Proofs.Ytmcckngodaeojaa
namespace Go.Proofs.Ytmcckngodaeojaa
open Go.RowKit Grade03

set_option maxHeartbeats 4000000 in
set_option maxRecDepth 100000 in
theorem unmoved_any (a : Option Addr) (n c : Nat) (l : List Int) (x : Int) (w : World) (h : IsL w a n c l) (hn : n ≤ 1000) :
    Calls Try.prog 87 #[.slice a n c, .int .i64 x] w fun e w' => ∃ a' c', e = .returned (.slice a' n c') ∧ OwnL w' 3 w.heap.size a' n c' (unmovedL l x) ∧ Below w.heap.size w w' := by
  have hl := h.len
  have hcap := h.cap
  have hle := h.le
  have HL := Lib.hid hl
  by_cases h0 : n = 0
  · subst h0
    have F : Hid (unmovedL l x = []) := Lib.hid (by rw [List.eq_nil_of_length_eq_zero hl]; rfl)
    clear hl
    go_enter Try.func87, Try.ntmps87
    go_wp2_with fail
    go_ret
    exact ⟨none, 0, rfl, by rw [F.out]; exact OwnL.nilL _ _ _, Below.refl _ _⟩
  · have e0 : ((n : Int) == 0) = false := by simpa using h0
    obtain ⟨b, o, rfl, hbl, hc⟩ := h.cells (by omega)
    have y0 := hc 0 (by omega)
    rw [Nat.add_zero] at y0
    have HST : Hid (UmS l x [] (l.getD 0 0) 0) := Lib.hid (UmS.start (by omega))
    have HG : Hid (cls x (l.getD 0 0) = decide (x < l.getD 0 0)) := Lib.hid rfl
    obtain ⟨t, ht⟩ : ∃ t, l.getD 0 0 = t := ⟨_, rfl⟩
    rw [ht] at y0 HST
    have HT := Lib.hid ht
    obtain ⟨G, hG⟩ : ∃ G, decide (x < t) = G := ⟨_, rfl⟩
    rw [ht, hG] at HG
    have q0 : (0 : Int) < (n : Int) := by omega
    have f1 : (1 : Int) ≤ (n : Int) := by omega
    have q00 : 0 < n := by omega
    clear hl ht hc h0
    by_cases hc1 : c = 1
    · subst hc1
      obtain rfl : n = 1 := by omega
      have F : Hid (unmovedL l x = [t]) := Lib.hid (HST.out.fin (by rw [HL.out]; omega))
      go_enter Try.func87, Try.ntmps87
      go_wp2_with fail
      go_loopw [24, 6, 7] (fun vi vo vf wr => vi = .int .i64 0 ∧ vo = .slice none 0 0 ∧ vf = .int .i64 t ∧ wr = w) (fun vi _ _ _ => 1 - (intOf vi).toNat)
      case atStart => exact ⟨rfl, rfl, rfl, rfl⟩
      case round =>
        obtain ⟨rfl, rfl, rfl, rfl⟩ := hrel
        go_wp2_with (at_builtin; refine wl_app_own Try.underlying22 elem3 wr.heap.size (.tmp 43) (.tmp 45) rfl rfl rfl rfl (OwnL.nilL _ _ _) (isL_one _ _ _) (by simp) (by omega) ?_)
        intro a6 c6 w6 o6 g6 b6 v6
        go_wp2
        go_ret
        exact ⟨_, _, rfl, by rw [F.out]; exact o6, ((Below.refl _ _).alloc (Nat.le_refl _) _).trans b6⟩
    · have hc2 : ¬ c = 1 := hc1
      have hc3 : (c == 1) = false := by simpa using hc1
      obtain ⟨m, hm⟩ : ∃ m, n = m + 1 := ⟨n - 1, by omega⟩
      have HM := Lib.hid hm
      have hm1 : n - 1 = m := by omega
      clear hm
      go_enter Try.func87, Try.ntmps87
      go_wp2_with fail
      go_loopw [24, 6, 7] (fun vi vo vf wr => ∃ (i : Nat) (e : Int) (out : List Int) (a' : Option Addr) (c' : Nat), i ≤ m ∧ vi = .int .i64 (i : Int) ∧ vf = .int .i64 e ∧ vo = .slice a' i c' ∧ Hid (UmS l x out e i) ∧ Hid (OwnL wr 3 w.heap.size a' i c' out) ∧ Below w.heap.size w wr) (fun vi _ _ _ => m - (intOf vi).toNat)
      case atStart => exact ⟨0, t, [], none, 0, by omega, rfl, rfl, rfl, HST, Lib.hid (OwnL.nilL _ _ _), Below.refl _ _⟩
      case round =>
        clear hG y0 HST
        obtain ⟨i, e, out, a', c', hi, rfl, rfl, rfl, hS, hO, hb⟩ := hrel
        have hsz := hb.size
        have hmn := HM.out
        by_cases hlt : i < m
        · have q1 : (i : Int) < (m : Int) := by omega
          have hk := h.below hb
          obtain ⟨b2, o2, ha2, _, hc⟩ := hk.cells (by omega)
          simp only [Option.some.injEq, Addr.mk.injEq] at ha2
          obtain ⟨rfl, rfl, _⟩ := ha2
          have y1 := hc (i + 1) (by omega)
          rw [show o + (i + 1) = o + 1 + i by omega] at y1
          have HA : Hid ((decide (x < l.getD (i + 1) 0) == G) = true → UmS l x (out ++ [e]) (l.getD (i + 1) 0) (i + 1)) := Lib.hid (fun he => hS.out.hit (by rw [HL.out]; omega) (by rw [HT.out, HG.out]; exact beq_iff_eq.1 he))
          have HB : Hid ((decide (x < l.getD (i + 1) 0) == G) = false → UmS l x (out ++ [l.getD (i + 1) 0]) e (i + 1)) := Lib.hid (fun he => hS.out.miss (by rw [HL.out]; omega) (by rw [HT.out, HG.out]; intro e; rw [show decide (x < l.getD (i + 1) 0) = G from e] at he; simp at he))
          obtain ⟨v, hv⟩ : ∃ v, l.getD (i + 1) 0 = v := ⟨_, rfl⟩
          rw [hv] at y1 HA HB
          obtain ⟨E, hE⟩ : ∃ E, (decide (x < v) == G) = E := ⟨_, rfl⟩
          rw [hE] at HA HB
          have hO1 := hO.out
          clear hc hv hk hS hO hmn
          cases E with
          | true =>
            have HA2 := Lib.hid (HA.out rfl)
            clear HA HB
            go_wp2_with (at_builtin; refine wl_app_own Try.underlying22 elem3 w.heap.size (.tmp 33) (.tmp 35) rfl rfl rfl rfl (hO1.alloc _) (isL_one _ _ _) (by simp; omega) (by omega) ?_)
            intro a6 c6 w6 o6 g6 b6 v6
            have hO7 := Lib.hid o6
            have hb7 := (hb.alloc hsz (.cells #[.int .i64 e] 3)).trans b6
            clear g6 v6 o6 b6 hO1 hb
            go_wp2
            go_roundw
            case rel => first | exact ⟨i + 1, v, _, a6, c6, by omega, by go_num, rfl, rfl, HA2, hO7, hb7⟩ | ((repeat apply Exists.intro); exact ⟨⟨i + 1, v, _, a6, c6, by omega, by go_num, rfl, rfl, HA2, hO7, hb7⟩, rfl⟩)
            case measure => (simp [intOf] <;> omega)
          | false =>
            have HB2 := Lib.hid (HB.out rfl)
            clear HA HB
            go_wp2_with (at_builtin; refine wl_app_own Try.underlying22 elem3 w.heap.size (.tmp 38) (.tmp 40) rfl rfl rfl rfl (hO1.alloc _) (isL_one _ _ _) (by simp; omega) (by omega) ?_)
            intro a6 c6 w6 o6 g6 b6 v6
            have hO7 := Lib.hid o6
            have hb7 := (hb.alloc hsz (.cells #[.int .i64 v] 3)).trans b6
            clear g6 v6 o6 b6 hO1 hb
            go_wp2
            go_roundw
            case rel => first | exact ⟨i + 1, e, _, a6, c6, by omega, by go_num, rfl, rfl, HB2, hO7, hb7⟩ | ((repeat apply Exists.intro); exact ⟨⟨i + 1, e, _, a6, c6, by omega, by go_num, rfl, rfl, HB2, hO7, hb7⟩, rfl⟩)
            case measure => (simp [intOf] <;> omega)
        · obtain rfl : i = m := by omega
          have F : Hid (unmovedL l x = out ++ [e]) := Lib.hid (hS.out.fin (by rw [HL.out]; omega))
          have hO1 := hO.out
          clear hO hS
          go_wp2_with (at_builtin; refine wl_app_own Try.underlying22 elem3 w.heap.size (.tmp 43) (.tmp 45) rfl rfl rfl rfl (hO1.alloc _) (isL_one _ _ _) (by simp; omega) (by omega) ?_)
          intro a6 c6 w6 o6 g6 b6 v6
          have hb7 := (hb.alloc hsz (.cells #[.int .i64 e] 3)).trans b6
          go_wp2
          go_ret
          have hM := HM.out
          subst hM
          exact ⟨_, _, rfl, by rw [F.out]; exact o6, hb7⟩
def backR (l : List Int) : List Int := if chkE l = 0 then backL l else []
theorem backR_bad {l : List Int} {e0 : Int} (h : chkE l = e0) (h0 : e0 ≠ 0) : backR l = [] := by unfold backR; rw [h, if_neg h0]
theorem backR_ok {l : List Int} (h : chkE l = 0) : backR l = backL l := by unfold backR; rw [if_pos h]
set_option maxHeartbeats 4000000 in
set_option maxRecDepth 100000 in
theorem Back_any (a : Option Addr) (n c : Nat) (l : List Int) (w : World) (h : IsL w a n c l) :
    Calls Try.prog 45 #[.slice a n c] w (LP (chkE l) (backR l) w) := by
  obtain ⟨e0, he0⟩ : ∃ e0, chkE l = e0 := ⟨_, rfl⟩
  have H0 := Lib.hid he0
  by_cases hz : e0 = 0
  · subst hz
    obtain ⟨hO, hn1, hn7⟩ := chkE_zero.1 he0
    have hl := h.len
    rw [hl] at hn1 hn7
    have HL := Lib.hid hl
    have HST : Hid (BkS l l (List.replicate n 0) n) := Lib.hid (by rw [← hl]; exact BkS.start l)
    have w0 : IntKind.i64.wrap ((n : Int) - 1) = (n : Int) - 1 := IntWalk.i64_in _ (by omega)
    clear hl he0 hO
    go_enter Try.func45, Try.ntmps45
    go_wp2_with fail
    refine (Check_any _ _ _ _ _ h).mono ?_
    rintro e w1 ⟨rfl, b1⟩
    rw [H0.out]
    go_wp2_with fail
    refine (Clone_any _ _ _ _ _ (h.below b1) hn1 (by omega)).mono ?_
    rintro e w2 ⟨aS, cS, rfl, hS0, b2⟩
    have k2 := b1.trans (b2.mono b1.size)
    have hS1 := hS0.weaken b1.size
    clear hS0 b1 b2
    go_wp2_with (at_make; refine wl_make (Value.int .i64) 0 (.int .i64 0) 8 w.heap.size Try.underlying22 elem3 rfl rfl (.tmp 16) (.tmp 16) rfl rfl n rfl rfl (by omega) (by omega) k2.size ?_)
    intro w3 og hg3 hb3
    have k3 := k2.trans hb3
    have hgB : w.heap.size ≤ w2.heap.size := k2.size
    have hsep : Sep aS (some ⟨w2.heap.size, 0, none⟩) := fun x y hx hy => by
      have h1 := (hS1.lt x hx).2
      obtain rfl := Option.some.inj hy
      simp only []
      omega
    have HSW : Hid (OwnL w3 3 w.heap.size aS n cS l) := Lib.hid (hS1.gen.grownN hg3)
    generalize w2.heap.size = g at *
    have HOW : Hid (OwnL w3 3 w.heap.size (some ⟨g, 0, none⟩) n n (List.replicate n 0)) := Lib.hid og
    clear k2 hg3 hb3 og hS1
    go_wp2_with fail
    go_loopw [7, 5] (fun vi vs wr => ∃ (j : Nat) (s out : List Int) (aS : Option Addr) (cS : Nat), j ≤ n ∧ vi = .int .i64 ((j : Int) - 1) ∧ vs = .slice aS j cS ∧ Hid (BkS l s out j) ∧ Hid (OwnL wr 3 w.heap.size aS j cS s) ∧ Hid (OwnL wr 3 w.heap.size (some ⟨g, 0, none⟩) n n out) ∧ Sep aS (some ⟨g, 0, none⟩) ∧ Below w.heap.size w wr) (fun _ vs _ => lenOf vs)
    case atStart => exact ⟨n, l, _, aS, cS, by omega, rfl, rfl, HST, HSW, HOW, hsep, k3⟩
    case round =>
      clear HST HSW HOW hsep k3
      obtain ⟨j, s, out, aS, cS, hj, rfl, rfl, hS, hW, hO, hsep, hb⟩ := hrel
      have hsz := hb.size
      rcases j with _ | k
      · have F : Hid (backR l = out) := Lib.hid (by rw [backR_ok H0.out]; exact hS.out.fin)
        have e1 : (((0 : Nat) : Int) - 1) = -1 := by decide
        rw [e1]
        go_wp2
        go_ret2
        exact LP.good H0.out (by rw [F.out]; exact hO.out.isL) hb
      · have e1 : (((k + 1 : Nat) : Int) - 1) = (k : Int) := by omega
        rw [e1]
        obtain ⟨g2, rfl⟩ := hW.out.addr (by omega)
        obtain ⟨y1, _⟩ := hW.out.gen.cell k 0 (by omega)
        obtain ⟨x2, f2⟩ := hO.out.gen.cell k 0 (by omega)
        have HSN := Lib.hid (hS.out.step (by rw [HL.out]; omega))
        have q1 : (k : Int) < ((k + 1 : Nat) : Int) := by omega
        have q2 : (k : Int) < (n : Int) := by omega
        obtain ⟨v, hv⟩ : ∃ v, s.getD k 0 = v := ⟨_, rfl⟩
        rw [hv] at y1 HSN
        obtain ⟨t, ht⟩ : ∃ t, out.getD k 0 = t := ⟨_, rfl⟩
        rw [ht] at x2
        have hle := hW.out.isL.le
        have q3 : (k : Int) ≤ (cS : Int) := by omega
        have w3 : IntKind.i64.wrap ((k : Int) - 1) = (k : Int) - 1 := IntWalk.i64_in _ (by omega)
        have hO2 := hO.out.set k v (by omega)
        have hW2 : OwnL (wr.setCell ⟨g, k, none⟩ (.int .i64 v)) 3 w.heap.size (some ⟨g2, 0, none⟩) (k + 1) cS s := hW.out.grownS (grown_setCell wr g k _) hsep
        have hgB2 := (hO.out.lt _ rfl).1
        simp only [] at hgB2
        have hb2 := hb.setCell (p := ⟨g, k, none⟩) hgB2 (.int .i64 v)
        have hp2 := hW2.isL.pre k cS (by omega) (by omega) (Nat.le_refl _)
        have z1 : (wr.setCell ⟨g, k, none⟩ (.int .i64 v)).cell? ⟨g, k, none⟩ = some (.int .i64 v) := World.cell?_setCell_same _ _ _ x2
        have HQ : Hid (IsL (wr.setCell ⟨g, k, none⟩ (.int .i64 v)) (some ⟨g2, 0, none⟩) k cS (s.take k)) := Lib.hid hp2
        clear hW hO hv ht hS hW2 hp2 hb hsep
        have HO2 := Lib.hid hO2
        clear hO2
        go_wp2_with fail
        obtain ⟨W5, hW5⟩ : ∃ W, wr.setCell ⟨g, k, none⟩ (.int .i64 v) = W := ⟨_, rfl⟩
        rw [hW5] at HQ HO2 hb2 z1 ⊢
        clear hW5
        go_still_tail 7, (by kernel_rfl)
        change wpList _ _ _ _ _ (World.drew W5)
        go_wp2_with (go_at_call 87; refine (unmoved_any (some ⟨g2, 0, none⟩) k cS _ v _ HQ.out.drew (by omega)).mono ?_; rintro e w6 ⟨a6, c6, rfl, o6, b6⟩)
        have hO6 := Lib.hid (HO2.out.drew.below b6)
        have hO7 := Lib.hid (o6.weaken hb2.drew.size)
        have hs6 : Sep a6 (some ⟨g, 0, none⟩) := fun x y hx hy => by
          have h1 := (o6.lt x hx).1
          have h2 := (HO2.out.drew.lt _ hy).2
          omega
        have hb6 := hb2.drew.trans (b6.mono hb2.drew.size)
        clear o6 b6 hb2 z1 HQ HO2
        go_wp2
        go_roundw
        case rel => exact ⟨k, _, _, a6, c6, by omega, rfl, rfl, HSN, hO7, hO6, hs6, hb6⟩
        case measure => (simp [lenOf] <;> omega)
  · have t1 : (e0 == 0) = false := by simpa using hz
    have t2 : (e0 != 0) = true := by simpa using hz
    have HZ := Lib.hid hz
    clear hz he0
    go_enter Try.func45, Try.ntmps45
    go_wp2_with fail
    refine (Check_any _ _ _ _ _ h).mono ?_
    rintro e w1 ⟨rfl, b1⟩
    rw [H0.out]
    go_wp2
    go_ret2
    exact LP.bad H0.out (backR_bad H0.out HZ.out) b1
end Go.Proofs.Ytmcckngodaeojaa
