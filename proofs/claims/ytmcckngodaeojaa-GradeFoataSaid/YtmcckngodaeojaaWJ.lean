/- Walks of chapter 3: the first order that fits. -/
import Derived.Test.YtmcckngodaeojaaWH
import Derived.Test.YtmcckngodaeojaaPa
import Derived.Test.YtmcckngodaeojaaWC
namespace Go.Proofs.Ytmcckngodaeojaa
open Go.RowKit Grade03
variable {R : Nat → Nat → Prop} [DecidableRel R]
/-- s >> y & 1, as the walk writes it -/
theorem shr_facts (s y : Nat) (hs : s < 128) (hy : y ≤ 7) : ∃ V d e : Nat, V = 2 ^ y ∧ V ≤ 128 ∧ (2 : Int) ^ y = (V : Int) ∧ IntKind.u64.wrap (V : Int) = (V : Int) ∧ (s : Int) / (V : Int) = (d : Int) ∧ bits .and .u64 (d : Int) 1 = (e : Int) ∧ ((e : Int) == 0) = (!s.testBit y) := by
  obtain ⟨V, _, hV, _, hV1, _, f1, f2, _⟩ := pow_facts y hy
  have hd : s / V ≤ s := Nat.div_le_self _ _
  refine ⟨V, s / V, (s / V) &&& 1, hV, hV1, f1, f2, by rw [Int.natCast_ediv], u64_and_nat (s / V) 1 (by omega) (by omega), ?_⟩
  rw [hV, bit_shr]
  cases s.testBit y <;> rfl
/-- need &^ s, as the walk writes it -/
theorem sub_facts {n z t : Nat} (hz : z < n) (hn : n ≤ 7) (ht : t < 128) (hirr : ¬ R z z) : ∃ k e : Nat, k = nbK R z n ∧ bits .andNot .u64 (k : Int) (t : Int) = (e : Int) ∧ ((e : Int) == 0) = decide (∀ x, x < n → R x z → t.testBit x = true) := by
  have h7 := nbK_lt7 (R := R) z hn
  refine ⟨nbK R z n, nbK R z n &&& (18446744073709551615 - t), rfl, u64_andNot_nat _ t (by omega) (by omega), ?_⟩
  rw [← need_sub_bool hz hn ht hirr, Bool.eq_iff_iff, beq_iff_eq, decide_eq_true_iff]
  omega

set_option maxHeartbeats 8000000 in
set_option maxRecDepth 100000 in
theorem sorted_any (n : Nat) (w : World) (hn1 : 1 ≤ n) (hn : n ≤ 7) (hS : SPO n R) {r0 r1 r2 r3 r4 r5 r6 : Nat} (hr : needF R n = [r0, r1, r2, r3, r4, r5, r6]) :
    Calls Try.prog 77 #[.int .i64 (n : Int), .agg #[U64 r0, U64 r1, U64 r2, U64 r3, U64 r4, U64 r5, U64 r6]] w fun e w' => ∃ a' c', e = .returned (.slice a' n c') ∧ OwnL w' 3 w.heap.size a' n c' (sortO n R) ∧ Below w.heap.size w w' := by
  have HR := Lib.hid hr
  have HSP := Lib.hid hS
  clear hr hS
  go_enter Try.func77, Try.ntmps77
  go_wp2_with fail
  have A0 : ArrV U64 (w.alloc (.cells #[U64 r0, U64 r1, U64 r2, U64 r3, U64 r4, U64 r5, U64 r6] 80)) w.heap.size 80 (needF R n) := ArrV.new w _ _ _ _ rfl (by rw [HR.out]; rfl)
  have b0 := (Below.refl w.heap.size w).alloc (Nat.le_refl _) (.cells #[U64 r0, U64 r1, U64 r2, U64 r3, U64 r4, U64 r5, U64 r6] 80)
  have b00 : w.heap.size + 1 ≤ (w.alloc (.cells #[U64 r0, U64 r1, U64 r2, U64 r3, U64 r4, U64 r5, U64 r6] 80)).heap.size := by simp
  generalize w.alloc (.cells #[U64 r0, U64 r1, U64 r2, U64 r3, U64 r4, U64 r5, U64 r6] 80) = W at *
  have HA0 := Lib.hid A0
  clear A0
  go_loopw [9, 5, 6] (fun vi vo vs wr => ∃ (i s : Nat) (pre : List Int) (a' : Option Addr) (c' : Nat), i ≤ n ∧ vi = .int .i64 (i : Int) ∧ vo = .slice a' i c' ∧ vs = .int .u64 (s : Int) ∧ Hid (SoS R n pre s i) ∧ Hid (OwnL wr 3 (w.heap.size + 1) a' i c' pre) ∧ Below (w.heap.size + 1) W wr) (fun vi _ _ _ => n - (intOf vi).toNat)
  case atStart => exact ⟨0, 0, [], none, 0, by omega, rfl, rfl, rfl, Lib.hid (SoS.start n), Lib.hid (OwnL.nilL _ _ _), Below.refl _ _⟩
  case round =>
    obtain ⟨i, s, pre, a', c', hi, rfl, rfl, rfl, hQ, hO, hb⟩ := hrel
    have hsz := hb.size
    by_cases hlt : i < n
    · have q0 : (i : Int) < (n : Int) := by omega
      obtain ⟨y0, hy0, hok, hno⟩ := hQ.out.found HSP.out hlt
      have HOK := Lib.hid hok
      have HNO := Lib.hid hno
      clear hok hno
      go_wp2_with fail
      go_loopw [12, 5, 6] (fun vy vo vs wr2 => ∃ y : Nat, y ≤ y0 ∧ vy = .int .i64 (y : Int) ∧ vo = .slice a' i c' ∧ vs = .int .u64 (s : Int) ∧ wr = wr2) (fun vy _ _ _ => n - (intOf vy).toNat)
      case atStart => exact ⟨0, by omega, rfl, rfl, rfl, rfl⟩
      case round =>
        obtain ⟨y, hy, rfl, rfl, rfl, rfl⟩ := hrel
        have hyn : y < n := by omega
        have hy7 : y < 7 := by omega
        have q1 : (y : Int) < (n : Int) := by omega
        have q3 : (y : Int) < 7 := by omega
        have A1 : ArrV U64 wr w.heap.size 80 (needF R n) := (hb.block w.heap.size (Nat.lt_succ_self _)).trans HA0.out
        have m0 := A1.cell y 0 (by rw [needF_len]; omega)
        rw [needF_get hyn hn] at m0
        have HBT := Lib.hid (hQ.out.okN hyn)
        obtain ⟨V, d, e, hV, hV1, f1, f2, f3, f4, f5⟩ := shr_facts s y hQ.out.lt (by omega)
        obtain ⟨k, z, hk, g1, g2⟩ := sub_facts (R := R) hyn hn hQ.out.lt (HSP.out.irr y hyn)
        rw [← hk] at m0
        have m1 : wr.cell? ⟨w.heap.size, y, none⟩ = some (.int .u64 (k : Int)) := m0
        clear m0 hk A1
        by_cases hyy : y < y0
        · have hno := HNO.out y hyy
          rw [HBT.out] at hno
          clear hV
          obtain ⟨B, hB⟩ : ∃ B, s.testBit y = B := ⟨_, rfl⟩
          rw [hB] at f5 hno
          clear hB
          cases B with
          | true =>
            have f6 : ((e : Int) == 0) = false := f5
            clear f5 hno g1 g2
            go_wp2_with fail
            go_roundw
            case rel => first | exact ⟨y + 1, by omega, by go_num, rfl, rfl, by trivial⟩ | ((repeat apply Exists.intro); exact ⟨⟨y + 1, by omega, by go_num, rfl, rfl, by trivial⟩, rfl⟩)
            case measure => (simp [intOf] <;> omega)
          | false =>
            have f6 : ((e : Int) == 0) = true := f5
            have g3 : ((z : Int) == 0) = false := by
              rw [g2]
              exact decide_eq_false fun hh => hno ⟨rfl, hh⟩
            clear f5 hno g2
            go_wp2_with fail
            go_roundw
            case rel => first | exact ⟨y + 1, by omega, by go_num, rfl, rfl, by trivial⟩ | ((repeat apply Exists.intro); exact ⟨⟨y + 1, by omega, by go_num, rfl, rfl, by trivial⟩, rfl⟩)
            case measure => (simp [intOf] <;> omega)
        · obtain rfl : y = y0 := by omega
          have hok := HOK.out
          rw [HBT.out] at hok
          rw [hok.1] at f5
          have f6 : ((e : Int) == 0) = true := f5
          have g3 : ((z : Int) == 0) = true := by
            rw [g2]
            exact decide_eq_true hok.2
          have hq2 := hQ.out.step HSP.out hn hlt hyn HOK.out HNO.out
          rw [← hV] at hq2
          have g4 := u64_or_nat s V (by have := hQ.out.lt; omega) (by omega)
          obtain ⟨s2, hs2⟩ : ∃ s2, s ||| V = s2 := ⟨_, rfl⟩
          rw [hs2] at g4 hq2
          have HQ2 := Lib.hid hq2
          have hO1 := hO.out
          clear f5 g2 hok hV hq2 hs2 hQ hO HOK HNO HBT
          go_wp2_with (at_builtin; refine wl_app_own Try.underlying22 elem3 (w.heap.size + 1) (.tmp 28) (.tmp 30) rfl rfl rfl rfl (hO1.alloc _) (isL_one _ _ _) (by simp; omega) (by omega) ?_)
          intro a6 c6 w6 o6 g6 b6 v6
          have hO7 := Lib.hid o6
          have hb7 := (hb.alloc (Nat.le_trans b00 hsz) (.cells #[.int .i64 (y : Int)] 3)).trans b6
          clear g6 v6 o6 b6 hO1 hb
          go_wp2
          go_roundw
          case rel => first | exact ⟨i + 1, s2, _, a6, c6, by omega, by go_num, rfl, rfl, HQ2, hO7, hb7⟩ | ((repeat apply Exists.intro); exact ⟨⟨i + 1, s2, _, a6, c6, by omega, by go_num, rfl, rfl, HQ2, hO7, hb7⟩, rfl⟩)
          case measure => (simp [intOf] <;> omega)
    · obtain rfl : i = n := by omega
      have F := Lib.hid hQ.out.fin
      go_wp2
      go_ret
      exact ⟨_, _, rfl, by rw [← F.out]; exact hO.out.weaken (Nat.le_succ _), b0.trans (hb.mono (Nat.le_succ _))⟩
end Go.Proofs.Ytmcckngodaeojaa
namespace Go.Proofs.Ytmcckngodaeojaa
open Go.RowKit Grade03

/-- 'agree', its cells written out -/
theorem agree_c (a b : Option Addr) (n c d : Nat) (la lb : List Int) (w : World) (h : IsL w a n c la) (h' : IsL w b n d lb) (hO : IsO la) (hO' : IsO lb) (hn : n ≤ 7) {r0 r1 r2 r3 r4 r5 r6 : Nat} (hr : needF (btwR la lb) n = [r0, r1, r2, r3, r4, r5, r6]) :
    Calls Try.prog 74 #[.slice a n c, .slice b n d] w fun e w' => e = .returned (.agg #[U64 r0, U64 r1, U64 r2, U64 r3, U64 r4, U64 r5, U64 r6]) ∧ Below w.heap.size w w' := by
  have := agree_any a b n c d la lb w h h' hO hO' hn
  rw [hr] at this
  exact this
set_option maxHeartbeats 4000000 in
set_option maxRecDepth 100000 in
theorem First_any (a b : Option Addr) (n m0 c d : Nat) (la lb : List Int) (w : World) (h : IsL w a n c la) (h' : IsL w b m0 d lb) :
    Calls Try.prog 31 #[.slice a n c, .slice b m0 d] w (LP (bothE la lb) (fstE la lb) w) := by
  have HCH := Lib.hid (checked2 a b n m0 c d la lb w h h')
  by_cases he : bothE la lb = 0
  · obtain ⟨hc1, hc2, hlen⟩ := bothE_zero.1 he
    obtain ⟨hO, hn1, hn7⟩ := chkE_zero.1 hc1
    obtain ⟨hO', _, _⟩ := chkE_zero.1 hc2
    have hl := h.len
    have hl' := h'.len
    obtain rfl : m0 = n := by omega
    rw [hl] at hn1 hn7
    have HO := Lib.hid hO
    have HO' := Lib.hid hO'
    have HE := Lib.hid he
    have F : Hid (fstE la lb = sortO m0 (btwR la lb)) := Lib.hid (by unfold fstE; rw [if_pos he, hl])
    obtain ⟨r0, r1, r2, r3, r4, r5, r6, hr⟩ := seven7 (needF_len (R := btwR la lb) m0)
    have HR := Lib.hid hr
    clear he hc1 hc2 hlen hO hO' hl hl' hr
    go_enter Try.func31, Try.ntmps31
    go_wp2_with fail
    refine HCH.out.mono ?_
    rintro e w1 ⟨rfl, b1⟩
    rw [HE.out]
    go_wp2_with fail
    refine (agree_c a b m0 c d la lb w1 (h.below b1) (h'.below b1) HO.out HO'.out hn7 HR.out).mono ?_
    rintro e w2 ⟨rfl, b2⟩
    have k2 := b1.trans (b2.mono b1.size)
    go_wp2_with fail
    refine (sorted_any m0 w2 hn1 hn7 (btw_spo m0 la lb) HR.out).mono ?_
    rintro e w3 ⟨a3, c3, rfl, h3, b3⟩
    go_wp2
    go_ret2
    exact LP.good HE.out (by rw [F.out]; exact h3.isL) (k2.trans (b3.mono k2.size))
  · obtain ⟨e0, he0⟩ : ∃ e0, bothE la lb = e0 := ⟨_, rfl⟩
    have e1 : (e0 != 0) = true := by rw [← he0]; simpa using he
    have e2 : (e0 == 0) = false := by rw [← he0]; simpa using he
    have HZ : Hid (fstE la lb = []) := Lib.hid (by unfold fstE; rw [if_neg he])
    have HE := Lib.hid he0
    clear he he0
    go_enter Try.func31, Try.ntmps31
    go_wp2_with fail
    refine HCH.out.mono ?_
    rintro e w1 ⟨rfl, b1⟩
    rw [HE.out]
    go_wp2
    go_ret2
    exact LP.bad HE.out HZ.out b1

theorem three_zero {a b x : List Int} : threeE a b x = 0 ↔ chkE a = 0 ∧ chkE b = 0 ∧ chkE x = 0 ∧ b.length = a.length ∧ x.length = a.length := by
  unfold threeE
  by_cases h1 : chkE a = 0
  · by_cases h2 : chkE b = 0
    · by_cases h3 : chkE x = 0
      · rw [if_neg (fun h => h h1), if_neg (fun h => h h2), if_neg (fun h => h h3)]
        by_cases h4 : a.length ≠ b.length ∨ a.length ≠ x.length
        · rw [if_pos h4]; exact ⟨(fun h => by cases h), fun h => by omega⟩
        · rw [if_neg h4]; exact ⟨fun _ => ⟨h1, h2, h3, by omega, by omega⟩, fun _ => rfl⟩
      · rw [if_neg (fun h => h h1), if_neg (fun h => h h2), if_pos h3]; exact ⟨fun h => absurd h h3, fun h => absurd h.2.2.1 h3⟩
    · rw [if_neg (fun h => h h1), if_pos h2]; exact ⟨fun h => absurd h h2, fun h => absurd h.2.1 h2⟩
  · rw [if_pos h1]; exact ⟨fun h => absurd h h1, fun h => absurd h.1 h1⟩
set_option maxHeartbeats 4000000 in
set_option maxRecDepth 100000 in
theorem Between_any (a b x : Option Addr) (n m0 k0 c d f : Nat) (la lb lx : List Int) (w : World) (h : IsL w a n c la) (h' : IsL w b m0 d lb) (h2 : IsL w x k0 f lx) :
    Calls Try.prog 27 #[.slice a n c, .slice b m0 d, .slice x k0 f] w (BetP la lb lx w) := by
  have HCH := Lib.hid (checked3 a b x n m0 k0 c d f la lb lx w h h' h2)
  by_cases he : threeE la lb lx = 0
  · obtain ⟨hc1, hc2, hc3, hlen, hlen2⟩ := three_zero.1 he
    obtain ⟨hO, hn1, hn7⟩ := chkE_zero.1 hc1
    obtain ⟨hO', _, _⟩ := chkE_zero.1 hc2
    obtain ⟨hO2, _, _⟩ := chkE_zero.1 hc3
    have hl := h.len
    have hl' := h'.len
    have hl2 := h2.len
    obtain rfl : m0 = n := by omega
    obtain rfl : k0 = m0 := by omega
    rw [hl] at hn1 hn7
    have HO := Lib.hid hO
    have HO' := Lib.hid hO'
    have HO2 := Lib.hid hO2
    have HE := Lib.hid he
    have HL := Lib.hid hl
    have HL2 := Lib.hid hl2
    obtain ⟨r0, r1, r2, r3, r4, r5, r6, hr⟩ := seven7 (needF_len (R := btwR la lb) k0)
    have HR := Lib.hid hr
    clear he hc1 hc2 hc3 hlen hlen2 hO hO' hO2 hl hl' hl2 hr
    go_enter Try.func27, Try.ntmps27
    go_wp2_with fail
    refine HCH.out.mono ?_
    rintro e w1 ⟨rfl, b1⟩
    rw [HE.out]
    go_wp2_with fail
    refine (agree_c a b k0 c d la lb w1 (h.below b1) (h'.below b1) HO.out HO'.out hn7 HR.out).mono ?_
    rintro e w2 ⟨rfl, b2⟩
    have k2 := b1.trans (b2.mono b1.size)
    have hs2 := k2.size
    clear b1 b2
    go_wp2_with fail
    have A0 : ArrV U64 (w2.alloc (.cells #[U64 r0, U64 r1, U64 r2, U64 r3, U64 r4, U64 r5, U64 r6] 80)) w2.heap.size 80 (needF (btwR la lb) k0) := ArrV.new w2 _ _ _ _ rfl (by rw [HR.out]; rfl)
    have k3 := k2.alloc hs2 (.cells #[U64 r0, U64 r1, U64 r2, U64 r3, U64 r4, U64 r5, U64 r6] 80)
    obtain ⟨g, hg⟩ : ∃ g, w2.heap.size = g := ⟨_, rfl⟩
    generalize w2.alloc (.cells #[U64 r0, U64 r1, U64 r2, U64 r3, U64 r4, U64 r5, U64 r6] 80) = W at *
    simp only [hg] at *
    have HA0 := Lib.hid A0
    have HX : Hid (IsL W x k0 f lx) := Lib.hid (h2.below k3)
    clear A0 k2 hg
    go_loopw [26, 10] (fun vi vt wr => ∃ i t : Nat, i ≤ k0 ∧ vi = .int .i64 (i : Int) ∧ vt = .int .u64 (t : Int) ∧ Hid (SeeS (btwR la lb) k0 lx i t) ∧ W = wr) (fun vi _ _ => k0 - (intOf vi).toNat)
    case atStart => exact ⟨0, 0, by omega, rfl, rfl, Lib.hid (SeeS.start _ _), rfl⟩
    case round =>
      obtain ⟨i, t, hi, rfl, rfl, hQ, rfl⟩ := hrel
      by_cases hlt : i < k0
      · have q0 : (i : Int) < (k0 : Int) := by omega
        obtain ⟨b2, o2, rfl, _, hc⟩ := HX.out.cells (by omega)
        have y1 := hc i hlt
        have hlo := HO2.out.lo i (by rw [HL2.out]; exact hlt)
        rw [HL2.out] at hlo
        obtain ⟨y, hy⟩ : ∃ y : Nat, lx.getD i 0 = (y : Int) := ⟨(lx.getD i 0).toNat, by omega⟩
        rw [hy] at y1 hlo
        have hyn : y < k0 := by omega
        have hy7 : y < 7 := by omega
        have q3 : (y : Int) < 7 := by omega
        have m0 := HA0.out.cell y 0 (by rw [needF_len]; omega)
        rw [needF_get hyn hn7] at m0
        obtain ⟨k, z, hk, g1, g2⟩ := sub_facts (R := btwR la lb) hyn hn7 hQ.out.lt ((btw_spo k0 la lb).irr y hyn)
        rw [← hk] at m0
        have m1 : W.cell? ⟨g, y, none⟩ = some (.int .u64 (k : Int)) := m0
        have HY := Lib.hid hy
        clear m0 hk hc hlo hy
        by_cases hok : ∀ x, x < k0 → btwR la lb x y → t.testBit x = true
        · have g3 : ((z : Int) != 0) = false := by
            have : ((z : Int) == 0) = true := by rw [g2]; exact decide_eq_true hok
            simpa [bne] using this
          have hst := hQ.out.step HL2.out hn7 hlt HY.out hyn hok
          obtain ⟨V, _, hV, _, hV1, _, f1, f2, _⟩ := pow_facts y (by omega)
          have f3 := u64_or_nat t V (by have := hQ.out.lt; omega) (by omega)
          rw [← hV] at hst
          obtain ⟨t2, ht2⟩ : ∃ t2, t ||| V = t2 := ⟨_, rfl⟩
          rw [ht2] at f3 hst
          have HQ2 := Lib.hid hst
          clear hst ht2 hok hV g2 hQ
          go_wp2_with fail
          go_roundw
          case rel => first | exact ⟨i + 1, t2, by omega, by go_num, rfl, HQ2, by trivial⟩ | ((repeat apply Exists.intro); exact ⟨⟨i + 1, t2, by omega, by go_num, rfl, HQ2, by trivial⟩, rfl⟩)
          case measure => (simp [intOf] <;> omega)
        · have g3 : ((z : Int) != 0) = true := by
            have : ((z : Int) == 0) = false := by rw [g2]; exact decide_eq_false hok
            simpa [bne] using this
          have F : Hid (decide (Lin la.length (btwR la lb) lx) = false) := Lib.hid (by
            rw [HL.out]
            exact decide_eq_false (hQ.out.bad HO2.out HL2.out hlt HY.out hyn hok))
          clear hok g2
          go_wp2_with fail
          go_ret2
          exact BetP.good HE.out F.out k3
      · obtain rfl : i = k0 := by omega
        have F : Hid (decide (Lin la.length (btwR la lb) lx) = true) := Lib.hid (by
          rw [HL.out]
          exact decide_eq_true (hQ.out.fin HO2.out HL2.out))
        go_wp2_with fail
        go_ret2
        exact BetP.good HE.out F.out k3
  · obtain ⟨e0, he0⟩ : ∃ e0, threeE la lb lx = e0 := ⟨_, rfl⟩
    have e1 : (e0 != 0) = true := by rw [← he0]; simpa using he
    have e2 : (e0 == 0) = false := by rw [← he0]; simpa using he
    have HE := Lib.hid he0
    have HZ : Hid (e0 ≠ 0) := Lib.hid (by rw [← he0]; exact he)
    clear he he0
    go_enter Try.func27, Try.ntmps27
    go_wp2_with fail
    refine HCH.out.mono ?_
    rintro e w1 ⟨rfl, b1⟩
    rw [HE.out]
    go_wp2
    go_ret2
    exact BetP.bad HE.out HZ.out b1
end Go.Proofs.Ytmcckngodaeojaa
namespace Go.Proofs.Ytmcckngodaeojaa
open Go.RowKit Grade03

set_option maxHeartbeats 8000000 in
set_option maxRecDepth 100000 in
theorem Joint_any (a b : Option Addr) (n m0 c d : Nat) (la lb : List Int) (w : World) (h : IsL w a n c la) (h' : IsL w b m0 d lb) :
    Calls Try.prog 29 #[.slice a n c, .slice b m0 d] w (NP (bothE la lb) (jntE la lb) w) := by
  have HCH := Lib.hid (checked2 a b n m0 c d la lb w h h')
  by_cases he : bothE la lb = 0
  · obtain ⟨hc1, hc2, hlen⟩ := bothE_zero.1 he
    obtain ⟨hO, hn1, hn7⟩ := chkE_zero.1 hc1
    obtain ⟨hO', _, _⟩ := chkE_zero.1 hc2
    have hl := h.len
    have hl' := h'.len
    obtain rfl : m0 = n := by omega
    rw [hl] at hn1 hn7
    have HO := Lib.hid hO
    have HO' := Lib.hid hO'
    have HE := Lib.hid he
    have F : Hid (jntE la lb = G m0 (btwR la lb) 0) := Lib.hid (by unfold jntE; rw [if_pos he, hl, count_all (btw_spo m0 la lb)])
    obtain ⟨r0, r1, r2, r3, r4, r5, r6, hr⟩ := seven7 (needF_len (R := btwR la lb) m0)
    have HR := Lib.hid hr
    obtain ⟨P, M, hP, hM, hP1, hM1, e1, e2, _⟩ := pow_facts m0 hn7
    have e3 : IntKind.i64.wrap (P : Int) = (P : Int) := IntWalk.i64_in _ (by omega)
    have hP2 : 2 ≤ P := by
      rw [hP]
      have : (2 : Nat) ^ 1 ≤ 2 ^ m0 := Nat.pow_le_pow_right (by omega) hn1
      omega
    have HP := Lib.hid hP
    have e4 : IntKind.i64.wrap ((P : Int) - 1) = (M : Int) := by
      rw [show (P : Int) - 1 = (M : Int) by omega]; exact IntWalk.i64_in _ (by omega)
    have hMP : M + 1 = P := by omega
    have q9 : (0 : Int) < (P : Int) := by omega
    clear he hc1 hc2 hlen hO hO' hl hl' hr hP hM
    go_enter Try.func29, Try.ntmps29
    go_wp2_with fail
    refine HCH.out.mono ?_
    rintro e w1 ⟨rfl, b1⟩
    rw [HE.out]
    go_wp2_with fail
    refine (agree_c a b m0 c d la lb w1 (h.below b1) (h'.below b1) HO.out HO'.out hn7 HR.out).mono ?_
    rintro e w2 ⟨rfl, b2⟩
    have k2 := b1.trans (b2.mono b1.size)
    have hs2 := k2.size
    clear b1 b2
    go_wp2_with (at_make; refine wl_make (Value.int .i64) 0 (.int .i64 0) 8 (w2.heap.size + 1) Try.underlying22 elem3 rfl rfl (.tmp 23) (.tmp 23) rfl rfl P rfl rfl (by omega) (by omega) (by simp) ?_)
    intro w3 og hg3 hb3
    have A0 : ArrV U64 (w2.alloc (.cells #[U64 r0, U64 r1, U64 r2, U64 r3, U64 r4, U64 r5, U64 r6] 80)) w2.heap.size 80 (needF (btwR la lb) m0) := ArrV.new w2 _ _ _ _ rfl (by rw [HR.out]; rfl)
    have k3 := k2.alloc hs2 (.cells #[U64 r0, U64 r1, U64 r2, U64 r3, U64 r4, U64 r5, U64 r6] 80)
    have A1 : ArrV U64 w3 w2.heap.size 80 (needF (btwR la lb) m0) := (hb3.block w2.heap.size (Nat.lt_succ_self _)).trans A0
    have k4 : Below w.heap.size w w3 := k3.trans (hb3.mono (by omega))
    clear A0 k2 k3 hb3 hg3
    generalize w2.heap.size = g at *
    have HOW : Hid (OwnL w3 3 (g + 1) (some ⟨g + 1, 0, none⟩) P P (List.replicate P 0)) := Lib.hid og
    obtain ⟨x0, f0⟩ := HOW.out.gen.cell 0 0 (by omega)
    have hst := HOW.out.set 0 1 (by omega)
    have kst := (Below.refl (g + 1) w3).setCell (p := ⟨g + 1, 0, none⟩) (Nat.le_refl _) (.int .i64 1)
    have kst2 := k4.setCell (p := ⟨g + 1, 0, none⟩) (by simp only []; omega) (.int .i64 1)
    have hrep : (List.replicate P (0 : Int)).getD 0 0 = 0 := by simp only [List.getD, List.getElem?_replicate]; split <;> rfl
    rw [hrep] at x0
    have HST : Hid (OwnL (w3.setCell ⟨g + 1, 0, none⟩ (.int .i64 1)) 3 (g + 1) (some ⟨g + 1, 0, none⟩) P P ((List.replicate P 0).set 0 1)) := Lib.hid hst
    have HA : Hid (ArrV U64 (w3.setCell ⟨g + 1, 0, none⟩ (.int .i64 1)) g 80 (needF (btwR la lb) m0)) := Lib.hid (A1.other (by simp only []; omega) _)
    have HDP : Hid (Dp m0 (btwR la lb) 0 0 ((List.replicate P 0).set 0 1)) := Lib.hid (Dp.start hn1 (by rw [List.length_set, List.length_replicate, HP.out]) (by rw [set_getD _ _ _ _ (by rw [List.length_replicate]; omega), if_pos rfl]) (fun t ht => by
      rw [set_getD _ _ _ _ (by rw [List.length_replicate]; omega), if_neg (by omega)]
      simp only [List.getD, List.getElem?_replicate]; split <;> rfl))
    have hBG : G m0 noR 0 ≤ 823543 := G_le hn7
    have HBG := Lib.hid hBG
    clear og hst A1 k4 hrep HOW hBG
    go_wp2_with fail
    obtain ⟨W, hW⟩ : ∃ W, w3.setCell ⟨g + 1, 0, none⟩ (.int .i64 1) = W := ⟨_, rfl⟩
    rw [hW] at HST HA kst2 ⊢
    clear hW kst x0 f0
    go_loopw [30] (fun vs wr => ∃ (s : Nat) (C : List Int), s ≤ P ∧ vs = .int .u64 (s : Int) ∧ Hid (OwnL wr 3 (g + 1) (some ⟨g + 1, 0, none⟩) P P C) ∧ Hid (if s < P then Dp m0 (btwR la lb) s 0 C else C.getD M 0 = G m0 (btwR la lb) 0) ∧ Below (g + 1) W wr) (fun vs _ => P - (intOf vs).toNat)
    case atStart => exact ⟨0, _, by omega, rfl, HST, Lib.hid (by rw [if_pos (by omega)]; exact HDP.out), Below.refl _ _⟩
    case round =>
      clear HST HDP
      obtain ⟨s, C, hsP, rfl, hC, hD, hb⟩ := hrel
      by_cases hlt : s < P
      · have q0 : (s : Int) < (P : Int) := by omega
        have hs7 : s < 128 := by omega
        have hD0 := hD.out
        rw [if_pos hlt] at hD0
        have HD0 := Lib.hid hD0
        clear hD hD0
        go_wp2_with fail
        go_loopw [35] (fun vy wr => ∃ (y : Nat) (C : List Int), y ≤ m0 ∧ vy = .int .i64 (y : Int) ∧ Hid (OwnL wr 3 (g + 1) (some ⟨g + 1, 0, none⟩) P P C) ∧ Hid (Dp m0 (btwR la lb) s y C) ∧ Below (g + 1) W wr) (fun vy _ => m0 - (intOf vy).toNat)
        case atStart => exact ⟨0, C, by omega, rfl, hC, HD0, hb⟩
        case round =>
          clear hC HD0 hb
          obtain ⟨y, C, hy, rfl, hC, hD, hb⟩ := hrel
          by_cases hyn : y < m0
          · have q1 : (y : Int) < (m0 : Int) := by omega
            have hy7 : y < 7 := by omega
            have q3 : (y : Int) < 7 := by omega
            have A1 : ArrV U64 wr g 80 (needF (btwR la lb) m0) := (hb.block g (Nat.lt_succ_self _)).trans HA.out
            have m0' := A1.cell y 0 (by rw [needF_len]; omega)
            rw [needF_get hyn hn7] at m0'
            obtain ⟨V, d2, e, hV, hV1, f1, f2, f3, f4, f5⟩ := shr_facts s y hs7 (by omega)
            obtain ⟨k, z, hk, g1, g2⟩ := sub_facts (R := btwR la lb) hyn hn7 hs7 ((btw_spo m0 la lb).irr y hyn)
            rw [← hk] at m0'
            have m1 : wr.cell? ⟨g, y, none⟩ = some (.int .u64 (k : Int)) := m0'
            have hsP2 : s < 2 ^ m0 := by rw [← HP.out]; exact hlt
            clear m0' hk A1
            obtain ⟨B, hB⟩ : ∃ B, s.testBit y = B := ⟨_, rfl⟩
            cases B with
            | true =>
              have f6 : ((e : Int) == 0) = false := by rw [f5, hB]; rfl
              have HN := Lib.hid (hD.out.skip hsP2 hyn (fun hv => by have := hv.1; rw [hB] at this; cases this))
              clear f5 hV hB g1 g2 hD hsP2
              go_wp2_with fail
              go_roundw
              case rel => first | exact ⟨y + 1, C, by omega, by go_num, hC, HN, hb⟩ | ((repeat apply Exists.intro); exact ⟨⟨y + 1, C, by omega, by go_num, hC, HN, hb⟩, rfl⟩)
              case measure => (simp [intOf] <;> omega)
            | false =>
              have f6 : ((e : Int) == 0) = true := by rw [f5, hB]; rfl
              by_cases hok : ∀ x, x < m0 → btwR la lb x y → s.testBit x = true
              · have g3 : ((z : Int) == 0) = true := by rw [g2]; exact decide_eq_true hok
                obtain ⟨hD2, hbd⟩ := hD.out.add hsP2 hyn ⟨hB, hok⟩
                have hlo1 := hD.out.lo (s ||| 2 ^ y)
                have hlo2 := hD.out.lo s
                have hone := hD.out.one
                have hlt2 := or_lt hsP2 hyn
                have hgt := or_gt hB
                rw [← HP.out] at hlt2
                rw [← hV] at hD2 hbd hlo1 hlt2 hgt
                have g4 := u64_or_nat s V (by omega) (by omega)
                obtain ⟨u, hu⟩ : ∃ u, s ||| V = u := ⟨_, rfl⟩
                rw [hu] at g4 hD2 hbd hlo1 hlt2 hgt
                have q4 : (u : Int) < (P : Int) := by omega
                obtain ⟨x1, n1⟩ := hC.out.gen.cell u 0 hlt2
                obtain ⟨x2, _⟩ := hC.out.gen.cell s 0 hlt
                have hset := hC.out.set u (C.getD u 0 + C.getD s 0) hlt2
                obtain ⟨zu, hzu⟩ : ∃ zu, C.getD u 0 = zu := ⟨_, rfl⟩
                obtain ⟨zs, hzs⟩ : ∃ zs, C.getD s 0 = zs := ⟨_, rfl⟩
                rw [hzu] at x1 hset hbd hlo1 hD2
                rw [hzs] at x2 hset hlo2 hone hD2
                have hbg := HBG.out
                have w9 : IntKind.i64.wrap (zu + zs) = zu + zs := IntWalk.i64_in _ (by omega)
                have hb2 := hb.setCell (p := ⟨g + 1, u, none⟩) (Nat.le_refl _) (.int .i64 (zu + zs))
                have HSET : Hid (OwnL (wr.setCell ⟨g + 1, u, none⟩ (.int .i64 (zu + zs))) 3 (g + 1) (some ⟨g + 1, 0, none⟩) P P (C.set u (zu + zs))) := Lib.hid hset
                have HD2 := Lib.hid hD2
                have hne : ¬ u = s := by omega
                clear f5 hV hB g2 hok hD hu hbd hlo1 hlo2 hone hset hD2 hzu hzs hbg hgt hlt2 hsP2 hC hb
                go_wp2_with fail
                go_region
                all_goals
                  go_wp2_with fail
                  go_roundw
                  case rel => first | exact ⟨y + 1, _, by omega, by go_num, Lib.hid HSET.out.drew, HD2, hb2.drew⟩ | ((repeat apply Exists.intro); exact ⟨⟨y + 1, _, by omega, by go_num, Lib.hid HSET.out.drew, HD2, hb2.drew⟩, rfl⟩)
                  case measure => (simp [intOf] <;> omega)
              · have g3 : ((z : Int) == 0) = false := by rw [g2]; exact decide_eq_false hok
                have HN := Lib.hid (hD.out.skip hsP2 hyn (fun hv => hok hv.2))
                clear f5 hV hB g2 hok hD hsP2
                go_wp2_with fail
                go_roundw
                case rel => first | exact ⟨y + 1, C, by omega, by go_num, hC, HN, hb⟩ | ((repeat apply Exists.intro); exact ⟨⟨y + 1, C, by omega, by go_num, hC, HN, hb⟩, rfl⟩)
                case measure => (simp [intOf] <;> omega)
          · obtain rfl : y = m0 := by omega
            have HN : Hid (if s + 1 < P then Dp y (btwR la lb) (s + 1) 0 C else C.getD M 0 = G y (btwR la lb) 0) := Lib.hid (by
              split
              · rename_i hs1
                exact hD.out.next (by rw [← HP.out]; exact hs1)
              · rename_i hs1
                have hm : 2 ^ y - 1 = M := by rw [← HP.out]; omega
                have hs : s = 2 ^ y - 1 := by omega
                have h1 := hD.out
                rw [hs] at h1
                have h2 := h1.fin
                rw [hm] at h2
                exact h2)
            have w5 : IntKind.u64.wrap ((s : Int) + 1) = ((s + 1 : Nat) : Int) := by rw [IntKind.wrap_u64]; omega
            clear hD
            go_wp2_with fail
            go_roundw
            case rel => first | exact ⟨s + 1, C, by omega, by go_num, hC, HN, hb⟩ | ((repeat apply Exists.intro); exact ⟨⟨s + 1, C, by omega, by go_num, hC, HN, hb⟩, rfl⟩)
            case measure => (simp [intOf] <;> omega)
      · obtain rfl : s = P := by omega
        have hD0 := hD.out
        rw [if_neg (by omega)] at hD0
        obtain ⟨x1, _⟩ := hC.out.gen.cell M 0 (by omega)
        rw [hD0] at x1
        obtain ⟨t, ht⟩ : ∃ t, G m0 (btwR la lb) 0 = t := ⟨_, rfl⟩
        rw [ht] at x1
        have HT := Lib.hid ht
        have q5 : (M : Int) < (s : Int) := by omega
        clear hD hD0 ht
        go_wp2_with fail
        go_ret2
        exact NP.is HE.out (by rw [F.out, HT.out]) (kst2.trans (hb.mono (by omega)))
  · obtain ⟨e0, he0⟩ : ∃ e0, bothE la lb = e0 := ⟨_, rfl⟩
    have e1 : (e0 != 0) = true := by rw [← he0]; simpa using he
    have e2 : (e0 == 0) = false := by rw [← he0]; simpa using he
    have HZ : Hid (jntE la lb = 0) := Lib.hid (by unfold jntE; rw [if_neg he])
    have HE := Lib.hid he0
    clear he he0
    go_enter Try.func29, Try.ntmps29
    go_wp2_with fail
    refine HCH.out.mono ?_
    rintro e w1 ⟨rfl, b1⟩
    rw [HE.out]
    go_wp2
    go_ret2
    exact NP.is HE.out HZ.out b1
end Go.Proofs.Ytmcckngodaeojaa
