/- Walks of chapter 3: two orders by numbers; turned pairs as sets, and how many. -/
import Derived.Test.YtmcckngodaeojaaXa
import Derived.Test.YtmcckngodaeojaaQa
namespace Go.Proofs.Ytmcckngodaeojaa
open Go.RowKit Grade03
/-- two orders are left -/
def BothO (w : World) (N : Nat) (d1 d2 : List Int) (e : Ending) (w' : World) : Prop :=
  ∃ a c b d, e = .returned (.tuple #[.slice a N c, .slice b N d]) ∧ IsL w' a N c d1 ∧ IsL w' b N d d2 ∧ Below w.heap.size w w'
set_option maxHeartbeats 4000000 in
set_option maxRecDepth 100000 in
theorem made_any (bx x0 x1 x2 x3 x4 x5 x6 y0 y1 y2 y3 y4 y5 y6 : Int) (most : Nat) (w : World) (hb0 : 0 ≤ bx ∧ bx < 256) (hb1 : ∀ i, 0 ≤ ([x0, x1, x2, x3, x4, x5, x6] : List Int).getD i 0 ∧ ([x0, x1, x2, x3, x4, x5, x6] : List Int).getD i 0 < 256) (hb2 : ∀ i, 0 ≤ ([y0, y1, y2, y3, y4, y5, y6] : List Int).getD i 0 ∧ ([y0, y1, y2, y3, y4, y5, y6] : List Int).getD i 0 < 256)
    (hm : 1 ≤ most) (hm7 : most ≤ 7) (N : Nat) (hN : 1 + bx % (most : Int) = (N : Int)) :
    Calls Try.prog 49 #[.agg #[U8 bx, U8 x0, U8 x1, U8 x2, U8 x3, U8 x4, U8 x5, U8 x6, U8 y0, U8 y1, U8 y2, U8 y3, U8 y4, U8 y5, U8 y6], .int .i64 (most : Int)] w (BothO w N (dealL N [x0, x1, x2, x3, x4, x5, x6]) (dealL N [y0, y1, y2, y3, y4, y5, y6])) := by
  obtain ⟨hb00, hb01⟩ := hb0
  have m1 := Int.emod_nonneg bx (b := (most : Int)) (by omega)
  have m2 := Int.emod_lt_of_pos bx (b := (most : Int)) (by omega)
  have n1 : 1 ≤ N := by omega
  have n7 : N ≤ 7 := by omega
  have q0 : (0 : Int) < (most : Int) := by omega
  have w1 : IntKind.i64.wrap (1 + bx % (most : Int)) = 1 + bx % (most : Int) := IntWalk.i64_in _ (by omega)
  have HN := Lib.hid hN
  clear hN m1 m2
  have D1 : Hid (∀ w' : World, Calls Try.prog 88 #[.int .i64 (N : Int), .agg #[U8 x0, U8 x1, U8 x2, U8 x3, U8 x4, U8 x5, U8 x6]] w' fun e w2 => ∃ a c, e = .returned (.slice a N c) ∧ OwnL w2 3 w'.heap.size a N c (dealL N [x0, x1, x2, x3, x4, x5, x6]) ∧ Below w'.heap.size w' w2) := Lib.hid (fun w' => dealt_any N x0 x1 x2 x3 x4 x5 x6 w' hb1 n7)
  have D2 : Hid (∀ w' : World, Calls Try.prog 88 #[.int .i64 (N : Int), .agg #[U8 y0, U8 y1, U8 y2, U8 y3, U8 y4, U8 y5, U8 y6]] w' fun e w2 => ∃ a c, e = .returned (.slice a N c) ∧ OwnL w2 3 w'.heap.size a N c (dealL N [y0, y1, y2, y3, y4, y5, y6]) ∧ Below w'.heap.size w' w2) := Lib.hid (fun w' => dealt_any N y0 y1 y2 y3 y4 y5 y6 w' hb2 n7)
  clear hb1 hb2
  go_enter Try.func49, Try.ntmps49
  go_wp2_with fail
  rw [HN.out]
  clear w1 q0
  go_region_with (first
    | ((with_reducible refine (D1.out _).mono ?_); rintro e w2 ⟨a, c, rfl, hA, hB⟩; have hc1 : ∀ p, w2.cell? ⟨w.heap.size, p, none⟩ = (w.alloc (.cells #[U8 bx, U8 x0, U8 x1, U8 x2, U8 x3, U8 x4, U8 x5, U8 x6, U8 y0, U8 y1, U8 y2, U8 y3, U8 y4, U8 y5, U8 y6] 46)).cell? ⟨w.heap.size, p, none⟩ := (fun p => hB.cell (p := ⟨w.heap.size, p, none⟩) (by simp)))
    | ((with_reducible refine (D2.out _).mono ?_); rintro e w2 ⟨a, c, rfl, hA2, hB2⟩))
  all_goals
    go_wp2_with fail
    go_ret2
    have hs := hB.size
    refine ⟨_, _, _, _, rfl, hA.isL.below (hB2.mono (by simp)), hA2.isL, ?_⟩
    first
      | exact ((((Below.refl _ _).alloc (Nat.le_refl _) _).trans (hB.mono (by simp))).trans (hB2.mono (by simp at hs ⊢; omega)))
      | exact (((((Below.refl _ _).alloc (Nat.le_refl _) _).drew).trans (hB.mono (by simp))).trans (hB2.mono (by simp at hs ⊢; omega)))
      | exact ((((((Below.refl _ _).alloc (Nat.le_refl _) _).drew).trans (hB.mono (by simp))).drew).trans (hB2.mono (by simp at hs ⊢; omega)))
      | skip
set_option maxHeartbeats 4000000 in
set_option maxRecDepth 100000 in
theorem size_any (s : Nat) (w : World) (hs : s < 2 ^ 49) :
    Calls Try.prog 51 #[.int .u64 (s : Int)] w fun e w' => e = .returned (.int .i64 (pc s)) ∧ w = w' := by
  have HS := Lib.hid hs
  clear hs
  go_enter Try.func51, Try.ntmps51
  go_wp2_with fail
  go_loopw [0, 3] (fun vs vn wr => ∃ (t : Nat) (n : Int), vs = .int .u64 (t : Int) ∧ vn = .int .i64 n ∧ t < 562949953421312 ∧ 0 ≤ n ∧ Hid (n + pc t = pc s) ∧ w = wr) (fun vs _ _ => (intOf vs).toNat)
  case atStart => exact ⟨s, 0, rfl, rfl, HS.out, by omega, Lib.hid (by omega), rfl⟩
  case round =>
    obtain ⟨t, n, rfl, rfl, ht, hn, hI, rfl⟩ := hrel
    by_cases h0 : t = 0
    · subst h0
      have F : Hid (pc s = n) := Lib.hid (by have := hI.out; rw [pc_zero] at this; omega)
      go_wp2_with fail
      go_ret
      exact ⟨by rw [F.out]; rfl, rfl⟩
    · have e1 : ((t : Int) != 0) = true := by simp; omega
      obtain ⟨p1, p2⟩ := pc_step (s := t) (by omega) (by simpa using ht)
      have hpb := pc_nonneg (t &&& (t - 1))
      have hps := pc_le s
      obtain ⟨m, hm⟩ : ∃ m, t - 1 = m := ⟨_, rfl⟩
      rw [hm] at p1 p2 hpb
      have w1 : IntKind.u64.wrap ((t : Int) - 1) = (m : Int) := by rw [IntKind.wrap_u64]; omega
      have w2 := u64_and_nat t m (by omega) (by omega)
      obtain ⟨u, hu⟩ : ∃ u, t &&& m = u := ⟨_, rfl⟩
      rw [hu] at p1 p2 w2 hpb
      have w3 : IntKind.i64.wrap (n + 1) = n + 1 := IntWalk.i64_in _ (by have := hI.out; omega)
      have HI2 : Hid (n + 1 + pc u = pc s) := Lib.hid (by have := hI.out; omega)
      clear hI p1 hpb hps hu hm
      go_wp2_with fail
      go_roundw
      case rel => first | exact ⟨u, n + 1, rfl, rfl, by omega, by omega, HI2, by trivial⟩ | ((repeat apply Exists.intro); exact ⟨⟨u, n + 1, rfl, rfl, by omega, by omega, HI2, by trivial⟩, rfl⟩)
      case measure => (simp [intOf] <;> omega)
set_option maxHeartbeats 8000000 in
set_option maxRecDepth 100000 in
theorem turned_set (a : Option Addr) (n c : Nat) (l : List Int) (w : World) (h : IsL w a n c l) (hO : IsO l) (hn : n ≤ 7) :
    Calls Try.prog 50 #[.slice a n c] w fun e w' => ∃ s : Nat, e = .returned (.int .u64 (s : Int)) ∧ TurnS l s ∧ w = w' := by
  have hcap := h.cap
  have hle := h.le
  have HL := Lib.hid h.len
  have HO := Lib.hid hO
  clear hO
  go_enter Try.func50, Try.ntmps50
  go_wp2_with fail
  go_loopw [10, 3] (fun vi vs wr => ∃ i s : Nat, i ≤ n ∧ vi = .int .i64 (i : Int) ∧ vs = .int .u64 (s : Int) ∧ Hid (TS l i (i + 1) s) ∧ w = wr) (fun vi _ _ => n - (intOf vi).toNat)
  case atStart => exact ⟨0, 0, by omega, rfl, rfl, Lib.hid (TS.start l), rfl⟩
  case round =>
    obtain ⟨i, s, hi, rfl, rfl, hT, rfl⟩ := hrel
    by_cases hlt : i < n
    · have q0 : (i : Int) < (n : Int) := by omega
      obtain ⟨b, o, rfl, _, hc⟩ := h.cells (by omega)
      have y1 := hc i hlt
      have hlo := HO.out.lo i (by rw [HL.out]; exact hlt)
      rw [HL.out] at hlo
      obtain ⟨x, hx⟩ : ∃ x : Nat, l.getD i 0 = (x : Int) := ⟨(l.getD i 0).toNat, by omega⟩
      rw [hx] at y1 hlo
      have HX := Lib.hid hx
      have hx7 : x < 7 := by omega
      have q2 : (0 : Int) ≤ (i : Int) + 1 := by omega
      have q3 : ((i : Int) + 1).toNat = i + 1 := by omega
      have q4 : (i : Int) + 1 ≤ (n : Int) := by omega
      have w1 : IntKind.i64.wrap ((i : Int) + 1) = (i : Int) + 1 := IntWalk.i64_in _ (by omega)
      have HC : Hid (∀ k, k < n → w.cell? ⟨b, o + k, none⟩ = some (.int .i64 (l.getD k 0))) := Lib.hid hc
      clear hx hc hlo
      by_cases hci : c = i + 1
      · have hni : n = i + 1 := by omega
        have hT2 := Lib.hid (hT.out.next (by rw [HL.out]; omega))
        subst hci
        subst hni
        go_wp2_with fail
        go_loopw [20, 3] (fun vk vs wr => vk = .int .i64 0 ∧ vs = .int .u64 (s : Int) ∧ w = wr) (fun vk _ _ => 1 - (intOf vk).toNat)
        case atStart => exact ⟨rfl, rfl, rfl⟩
        case round =>
          obtain ⟨rfl, rfl, rfl⟩ := hrel
          go_wp2_with fail
          go_roundw
          case rel => first | exact ⟨i + 1, s, by omega, by go_num, rfl, hT2, by trivial⟩ | ((repeat apply Exists.intro); exact ⟨⟨i + 1, s, by omega, by go_num, rfl, hT2, by trivial⟩, rfl⟩)
          case measure => (simp [intOf] <;> omega)
      · have hc2 : (c == i + 1) = false := by simpa using hci
        obtain ⟨m, hm⟩ : ∃ m, n - (i + 1) = m := ⟨_, rfl⟩
        have HM : Hid (n = i + 1 + m) := Lib.hid (by omega)
        go_wp2_with fail
        go_loopw [20, 3] (fun vk vs wr => ∃ k s : Nat, k ≤ m ∧ vk = .int .i64 (k : Int) ∧ vs = .int .u64 (s : Int) ∧ Hid (TS l i (i + 1 + k) s) ∧ w = wr) (fun vk _ _ => n - (intOf vk).toNat)
        case atStart => exact ⟨0, s, by omega, rfl, rfl, hT, rfl⟩
        case round =>
          clear hT
          obtain ⟨k, s, hk, rfl, rfl, hT, rfl⟩ := hrel
          have hmn := HM.out
          by_cases hkm : k < m
          · have q5 : (k : Int) < (m : Int) := by omega
            have y2 := HC.out (i + 1 + k) (by omega)
            rw [show o + (i + 1 + k) = o + (i + 1) + k by omega] at y2
            have hlo := HO.out.lo (i + 1 + k) (by rw [HL.out]; omega)
            rw [HL.out] at hlo
            obtain ⟨y, hy⟩ : ∃ y : Nat, l.getD (i + 1 + k) 0 = (y : Int) := ⟨(l.getD (i + 1 + k) 0).toNat, by omega⟩
            rw [hy] at y2 hlo
            have hy7 : y < 7 := by omega
            by_cases hyx : y < x
            · have d1 : decide ((y : Int) < (x : Int)) = true := by simp; omega
              have d1' : (y : Int) < (x : Int) := by omega
              have d2 : decide ((x : Int) < 7) = true := by simp; omega
              have d2' : (x : Int) < 7 := by omega
              have d3 : (0 : Int) ≤ (y : Int) := by omega
              have hT2 := hT.out.hit (by omega) (by rw [HL.out]; omega) HX.out hy hx7 hyx
              obtain ⟨e, he⟩ : ∃ e, 7 * y + x = e := ⟨_, rfl⟩
              rw [he] at hT2
              have he49 : e < 49 := by omega
              have w2 : IntKind.i64.wrap (7 * (y : Int)) = 7 * (y : Int) := IntWalk.i64_in _ (by omega)
              have w3 : IntKind.i64.wrap (7 * (y : Int) + (x : Int)) = (e : Int) := by rw [show 7 * (y : Int) + (x : Int) = (e : Int) by omega]; exact IntWalk.i64_in _ (by omega)
              obtain ⟨V, hV⟩ : ∃ V : Nat, V = 2 ^ e := ⟨_, rfl⟩
              have hVlt : V < 562949953421312 := by
                rw [hV]
                exact Nat.lt_of_lt_of_le (Nat.pow_lt_pow_right (by omega) he49) (by decide)
              have f1 : (2 : Int) ^ e = (V : Int) := by rw [hV, Int.natCast_pow]; rfl
              have f2 : IntKind.u64.wrap (V : Int) = (V : Int) := by rw [IntKind.wrap_u64]; omega
              have hslt : s < 562949953421312 := by have := hT.out.lt; simpa using this
              have f3 := u64_or_nat s V (by omega) (by omega)
              rw [← hV] at hT2
              obtain ⟨s2, hs2⟩ : ∃ s2, s ||| V = s2 := ⟨_, rfl⟩
              rw [hs2] at f3 hT2
              have HT2 := Lib.hid hT2
              clear hT hT2 hs2 hV he hmn hlo hy
              go_wp2_with fail
              go_roundw
              case rel => first | exact ⟨k + 1, s2, by omega, by go_num, rfl, HT2, by trivial⟩ | ((repeat apply Exists.intro); exact ⟨⟨k + 1, s2, by omega, by go_num, rfl, HT2, by trivial⟩, rfl⟩)
              case measure => (simp [intOf] <;> omega)
            · have d1 : decide ((y : Int) < (x : Int)) = false := by simp; omega
              have d1' : ¬ (y : Int) < (x : Int) := by omega
              have HT2 := Lib.hid (hT.out.miss HX.out hy hyx)
              clear hT hmn hlo hy
              go_wp2_with fail
              go_roundw
              case rel => first | exact ⟨k + 1, s, by omega, by go_num, rfl, HT2, by trivial⟩ | ((repeat apply Exists.intro); exact ⟨⟨k + 1, s, by omega, by go_num, rfl, HT2, by trivial⟩, rfl⟩)
              case measure => (simp [intOf] <;> omega)
          · obtain rfl : k = m := by omega
            have HT2 := Lib.hid (hT.out.next (by rw [HL.out]; omega))
            clear hT hmn
            go_wp2_with fail
            go_roundw
            case rel => first | exact ⟨i + 1, s, by omega, by go_num, rfl, HT2, by trivial⟩ | ((repeat apply Exists.intro); exact ⟨⟨i + 1, s, by omega, by go_num, rfl, HT2, by trivial⟩, rfl⟩)
            case measure => (simp [intOf] <;> omega)
    · obtain rfl : i = n := by omega
      have F := Lib.hid (hT.out.fin HO.out (by rw [HL.out]; exact hn) (by rw [HL.out]; exact Nat.le_refl _))
      go_wp2
      go_ret
      exact ⟨s, rfl, F.out, rfl⟩
set_option maxHeartbeats 4000000 in
set_option maxRecDepth 100000 in
theorem far_any (a b : Option Addr) (n c d : Nat) (la lb : List Int) (w : World) (h : IsL w a n c la) (h' : IsL w b n d lb) (hO : IsO la) (hO' : IsO lb) (hn : n ≤ 7) :
    Calls Try.prog 61 #[.slice a n c, .slice b n d] w fun e w' => e = .returned (.int .i64 (dist la lb)) ∧ w = w' := by
  have HC1 := Lib.hid (turned_set a n c la w h hO hn)
  have HC2 := Lib.hid (turned_set b n d lb w h' hO' hn)
  have HF : Hid (∀ s t, TurnS la s → TurnS lb t → pc (s ^^^ t) = dist la lb ∧ s ^^^ t < 2 ^ 49) := Lib.hid (fun s t hs ht => hs.far ht hO hO' (by rw [h.len, h'.len]) (by rw [h.len]; exact hn))
  clear h h' hO hO'
  go_enter Try.func61, Try.ntmps61
  go_wp2_with fail
  refine HC1.out.mono ?_
  rintro e w1 ⟨s, rfl, hs, rfl⟩
  go_wp2_with fail
  refine HC2.out.mono ?_
  rintro e w2 ⟨t, rfl, ht, rfl⟩
  obtain ⟨f1, f2⟩ := HF.out s t hs ht
  have hs9 : s < 562949953421312 := by have := hs.lt; simpa using this
  have ht9 : t < 562949953421312 := by have := ht.lt; simpa using this
  have g1 := u64_xor_nat s t (by omega) (by omega)
  obtain ⟨u, hu⟩ : ∃ u, s ^^^ t = u := ⟨_, rfl⟩
  rw [hu] at g1 f1 f2
  have F1 := Lib.hid f1
  have F2 := Lib.hid f2
  clear hs ht hu f1 f2
  go_wp2_with fail
  refine (size_any u _ F2.out).mono ?_
  rintro e w3 ⟨rfl, rfl⟩
  go_wp2
  go_ret
  exact ⟨by rw [← F1.out]; rfl, rfl⟩
end Go.Proofs.Ytmcckngodaeojaa
