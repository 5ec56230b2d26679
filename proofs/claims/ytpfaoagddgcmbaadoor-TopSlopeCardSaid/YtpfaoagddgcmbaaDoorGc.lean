/- Walks of chapter 3 at the top seat: codes and major numbers. -/
import Derived.Test.YtpfaoagddgcmbaaDoorGb
import Derived.Deep.RegionLaw
import Derived.Shelf.RegionOpenPlain
import Derived.Lib.SliceRun
namespace Go.Proofs.YtpfaoagddgcmbaaDoor
open Go.RowKit Grade03
end Go.Proofs.YtpfaoagddgcmbaaDoor
namespace Go.Proofs.YtpfaoagddgcmbaaDoor
open Go.RowKit Grade03
def majE (l : List Int) : Int := if chkE l = 0 then majL l else 0
def MajP (l : List Int) (w : World) (e : Ending) (w' : World) : Prop := e = .returned (.tuple #[.int .i64 (majE l), .int .i64 (chkE l)]) ∧ Below w.heap.size w w'
theorem MajP.bad {l : List Int} {w w' : World} {e0 : Int} (h : chkE l = e0) (h0 : e0 ≠ 0) (hb : Below w.heap.size w w') : MajP l w (.returned (.tuple #[.int .i64 0, .int .i64 e0])) w' := ⟨by unfold majE; rw [h, if_neg h0], hb⟩
theorem MajP.good {l : List Int} {w w' : World} {m : Int} (h : chkE l = 0) (hm : majL l = m) (hb : Below w.heap.size w w') : MajP l w (.returned (.tuple #[.int .i64 m, .int .i64 0])) w' := ⟨by unfold majE; rw [if_pos h, h, hm], hb⟩
end Go.Proofs.YtpfaoagddgcmbaaDoor
namespace Go.Proofs.YtpfaoagddgcmbaaDoor
open Go.RowKit Grade03
set_option maxHeartbeats 4000000 in
set_option maxRecDepth 100000 in
theorem Major_any (a : Option Addr) (n c : Nat) (l : List Int) (w : World) (h : IsL w a n c l) :
    Calls Tryd.prog 43 #[.slice a n c] w (MajP l w) := by
  obtain ⟨e0, he0⟩ : ∃ e0, chkE l = e0 := ⟨_, rfl⟩
  have H0 := Lib.hid he0
  by_cases hz : e0 = 0
  · subst hz
    obtain ⟨hO, hn1, hn7⟩ := chkE_zero.1 he0
    have hl := h.len
    rw [hl] at hn1 hn7
    have HL := Lib.hid hl
    have hcap := h.cap
    have hle := h.le
    obtain ⟨b, o, rfl, _, _⟩ := h.cells (by omega)
    have f1 : (1 : Int) ≤ (n : Int) := by omega
    clear hl he0 hO
    by_cases hc1 : c = 1
    · subst hc1
      go_enter Tryd.func43, Tryd.ntmps43
      go_wp2_with fail
      refine (Check_any _ _ _ _ _ h).mono ?_
      rintro e w1 ⟨rfl, b1⟩
      rw [H0.out]
      have h1 := h.below b1
      go_wp2_with fail
      go_loopw [15, 5] (fun vi vm wr => ∃ i m : Nat, i + 1 ≤ n ∧ vi = .int .i64 (i : Int) ∧ vm = .int .i64 (m : Int) ∧ m ≤ 7 * i ∧ Hid ((m : Int) = majK l i) ∧ Below w.heap.size w wr) (fun vi _ _ => n - (intOf vi).toNat)
      case atStart => exact ⟨0, 0, by omega, rfl, rfl, by omega, Lib.hid rfl, b1⟩
      case round =>
        clear b1 h1
        obtain ⟨i, m, hi, rfl, rfl, hm, hM, hb⟩ := hrel
        have hk := h.below hb
        have w1 : IntKind.i64.wrap ((i : Int) + 1) = (i : Int) + 1 := IntWalk.i64_in _ (by omega)
        by_cases hlt : i + 1 < n
        · exact absurd hlt (by omega)
        · have F : Hid (majL l = (m : Int)) := Lib.hid (by rw [majL, HL.out, hM.out]; congr 1; omega)
          have q1 : ¬ (i : Int) < ((n - 1 : Nat) : Int) := by omega
          go_wp2
          go_ret2
          exact MajP.good H0.out F.out hb
    · have hc2 : (c == 1) = false := by simpa using hc1
      go_enter Tryd.func43, Tryd.ntmps43
      go_wp2_with fail
      refine (Check_any _ _ _ _ _ h).mono ?_
      rintro e w1 ⟨rfl, b1⟩
      rw [H0.out]
      have h1 := h.below b1
      go_wp2_with fail
      go_loopw [15, 5] (fun vi vm wr => ∃ i m : Nat, i + 1 ≤ n ∧ vi = .int .i64 (i : Int) ∧ vm = .int .i64 (m : Int) ∧ m ≤ 7 * i ∧ Hid ((m : Int) = majK l i) ∧ Below w.heap.size w wr) (fun vi _ _ => n - (intOf vi).toNat)
      case atStart => exact ⟨0, 0, by omega, rfl, rfl, by omega, Lib.hid rfl, b1⟩
      case round =>
        clear b1 h1
        obtain ⟨i, m, hi, rfl, rfl, hm, hM, hb⟩ := hrel
        have hk := h.below hb
        have w1 : IntKind.i64.wrap ((i : Int) + 1) = (i : Int) + 1 := IntWalk.i64_in _ (by omega)
        by_cases hlt : i + 1 < n
        · have q1 : (i : Int) < ((n - 1 : Nat) : Int) := by omega
          have q1b : (i : Int) + 1 < (n : Int) := by omega
          have q2 : (i : Int) < (n : Int) := by omega
          have q3 : (0 : Int) ≤ (i : Int) + 1 := by omega
          have q4 : ((i : Int) + 1).toNat = i + 1 := by omega
          obtain ⟨b', o', e, _, hc⟩ := hk.cells (by omega)
          cases e
          have y1 := hc i (by omega)
          have y2 := hc (i + 1) hlt
          have HS : Hid (majK l (i + 1) = majK l i + if l.getD (i + 1) 0 < l.getD i 0 then (i : Int) + 1 else 0) := Lib.hid (by
            simp only [majK, bI]; split <;> simp_all)
          obtain ⟨u, hu⟩ : ∃ u, l.getD i 0 = u := ⟨_, rfl⟩
          obtain ⟨v, hv⟩ : ∃ v, l.getD (i + 1) 0 = v := ⟨_, rfl⟩
          rw [hu] at y1 HS
          rw [hv] at y2 HS
          clear hc hu hv hk
          by_cases huv : v < u
          · rw [if_pos huv] at HS
            have HN : Hid (((m + (i + 1) : Nat) : Int) = majK l (i + 1)) := Lib.hid (by have := HS.out; have := hM.out; omega)
            have w2 : IntKind.i64.wrap ((m : Int) + ((i : Int) + 1)) = (m : Int) + ((i : Int) + 1) := IntWalk.i64_in _ (by omega)
            go_wp2_with fail
            go_quiet (fail)
            go_wp2
            go_roundw
            case rel => first | exact ⟨i + 1, m + (i + 1), by omega, by go_num, by go_num, by omega, HN, belowN hb _⟩ | ((repeat apply Exists.intro); exact ⟨⟨i + 1, m + (i + 1), by omega, by go_num, by go_num, by omega, HN, belowN hb _⟩, rfl⟩)
            case measure => (simp [intOf] <;> omega)
          · rw [if_neg huv] at HS
            have HN : Hid ((m : Int) = majK l (i + 1)) := Lib.hid (by have := HS.out; have := hM.out; omega)
            go_wp2_with fail
            go_quiet (fail)
            go_wp2
            go_roundw
            case rel => first | exact ⟨i + 1, m, by omega, by go_num, rfl, by omega, HN, belowN hb _⟩ | ((repeat apply Exists.intro); exact ⟨⟨i + 1, m, by omega, by go_num, rfl, by omega, HN, belowN hb _⟩, rfl⟩)
            case measure => (simp [intOf] <;> omega)
        · have F : Hid (majL l = (m : Int)) := Lib.hid (by rw [majL, HL.out, hM.out]; congr 1; omega)
          have q1 : ¬ (i : Int) < ((n - 1 : Nat) : Int) := by omega
          go_wp2
          go_ret2
          exact MajP.good H0.out F.out hb
  · have t1 : (e0 == 0) = false := by simpa using hz
    have t2 : (e0 != 0) = true := by simpa using hz
    have HZ := Lib.hid hz
    clear hz he0
    go_enter Tryd.func43, Tryd.ntmps43
    go_wp2_with fail
    refine (Check_any _ _ _ _ _ h).mono ?_
    rintro e w1 ⟨rfl, b1⟩
    rw [H0.out]
    go_wp2
    go_ret2
    exact MajP.bad H0.out HZ.out b1
end Go.Proofs.YtpfaoagddgcmbaaDoor
namespace Go.Proofs.YtpfaoagddgcmbaaDoor
open Go.RowKit Grade03
def cdR (l : List Int) (i k : Nat) : Int := sm (fun k => bI (i < k ∧ l.getD k 0 < l.getD i 0)) k
theorem codeL_of {l L : List Int} (hl : L.length = l.length) (h : ∀ j, j < l.length → L.getD j 0 = cdN l j) : L = codeL l := by
  apply List.ext_getElem
  · simp [codeL, hl]
  · intro j h1 h2
    have := h j (by omega)
    simp only [List.getD, List.getElem?_eq_getElem h1, Option.getD_some] at this
    simpa [codeL] using this
def codE (l : List Int) : List Int := if chkE l = 0 then codeL l else []
def CodP (l : List Int) (w : World) (e : Ending) (w' : World) : Prop := ∃ a' m c', e = .returned (.tuple #[.slice a' m c', .int .i64 (chkE l)]) ∧ IsL w' a' m c' (codE l) ∧ Below w.heap.size w w'
theorem CodP.bad {l : List Int} {w w' : World} {e0 : Int} (h : chkE l = e0) (h0 : e0 ≠ 0) (hb : Below w.heap.size w w') : CodP l w (.returned (.tuple #[.slice none 0 0, .int .i64 e0])) w' := ⟨none, 0, 0, by rw [h], by unfold codE; rw [h, if_neg h0]; exact IsL.nilL _, hb⟩
theorem CodP.good {l : List Int} {w w' : World} {a' m c'} (h : chkE l = 0) (hm : IsL w' a' m c' (codeL l)) (hb : Below w.heap.size w w') : CodP l w (.returned (.tuple #[.slice a' m c', .int .i64 0])) w' := ⟨a', m, c', by rw [h], by unfold codE; rw [if_pos h]; exact hm, hb⟩
end Go.Proofs.YtpfaoagddgcmbaaDoor
namespace Go.Proofs.YtpfaoagddgcmbaaDoor
open Go.RowKit Grade03
set_option maxHeartbeats 4000000 in
theorem OnesCount64_any (x : Nat) (w : World) (h : x < 128) : Calls Tryd.prog 101 #[.int .u64 (x : Int)] w fun e w' => e = .returned (.int .i64 (popN x)) ∧ w = w' := by
  go_enter Tryd.func101, Tryd.ntmps101
  go_wp2
  go_ret
  refine ⟨?_, rfl⟩
  refine congrArg (fun z => Ending.returned (.int .i64 z)) ?_
  revert x
  decide +kernel
theorem OnesCount_any (x : Nat) (w : World) (h : x < 128) : Calls Tryd.prog 60 #[.int .u64 (x : Int)] w fun e w' => e = .returned (.int .i64 (popN x)) ∧ w = w' := by
  go_enter Tryd.func60, Tryd.ntmps60
  go_wp2_with (go_at_call 101; refine (OnesCount64_any x w h).mono ?_; rintro e w9 ⟨rfl, rfl⟩)
  go_ret
  exact ⟨rfl, rfl⟩
/-- 1 << x, and that less 1, as the walk writes them -/
theorem pow_facts (x : Nat) (hx : x ≤ 7) : ∃ P M : Nat, P = 2 ^ x ∧ M = 2 ^ x - 1 ∧ P ≤ 128 ∧ M < 128 ∧ (2 : Int) ^ x = (P : Int) ∧ IntKind.u64.wrap (P : Int) = (P : Int) ∧ IntKind.u64.wrap ((P : Int) - 1) = (M : Int) := by
  have h1 : (2 : Nat) ^ x ≤ 2 ^ 7 := Nat.pow_le_pow_right (by omega) hx
  have h2 : 0 < (2 : Nat) ^ x := Nat.two_pow_pos x
  have h3 : (2 : Nat) ^ 7 = 128 := by decide
  refine ⟨2 ^ x, 2 ^ x - 1, rfl, rfl, by omega, by omega, by rw [Int.natCast_pow]; rfl, ?_, ?_⟩
  · rw [IntKind.wrap_u64]; omega
  · rw [IntKind.wrap_u64]; omega
set_option maxHeartbeats 4000000 in
set_option maxRecDepth 100000 in
theorem Code_any (a : Option Addr) (n c : Nat) (l : List Int) (w : World) (h : IsL w a n c l) :
    Calls Tryd.prog 18 #[.slice a n c] w (CodP l w) := by
  obtain ⟨e0, he0⟩ : ∃ e0, chkE l = e0 := ⟨_, rfl⟩
  have H0 := Lib.hid he0
  by_cases hz : e0 = 0
  · subst hz
    obtain ⟨hO, hn1, hn7⟩ := chkE_zero.1 he0
    have hl := h.len
    rw [hl] at hn1 hn7
    have HL := Lib.hid hl
    have HO := Lib.hid hO
    obtain ⟨P, M, hP, hM, hP1, hM1, e1, e2, e3⟩ := pow_facts n hn7
    have HM := Lib.hid hM
    clear hl he0 hO hP hM
    go_enter Tryd.func18, Tryd.ntmps18
    go_wp2_with fail
    refine (Check_any _ _ _ _ _ h).mono ?_
    rintro e w1 ⟨rfl, b1⟩
    rw [H0.out]
    go_wp2_with fail
    go_loopw [20, 5, 6] (fun vi vs vo wr => ∃ (i s : Nat) (a' : Option Addr) (c' : Nat), i ≤ n ∧ vi = .int .i64 (i : Int) ∧ vs = .int .u64 (s : Int) ∧ Hid (LeftB l i s) ∧ vo = .slice a' i c' ∧ Hid (OwnL wr 3 w.heap.size a' i c' ((codeL l).take i)) ∧ Below w.heap.size w wr) (fun vi _ _ _ => n - (intOf vi).toNat)
    case atStart => exact ⟨0, M, none, 0, by omega, rfl, rfl, Lib.hid (by rw [HM.out, ← HL.out]; exact LeftB.start l), rfl, Lib.hid (OwnL.nilL _ _ _), b1⟩
    case round =>
      clear b1
      obtain ⟨i, s, a', c', hi, rfl, rfl, hS, rfl, hO1, hb⟩ := hrel
      by_cases hlt : i < n
      · have q0 : (i : Int) < (n : Int) := by omega
        have hk := h.below hb
        have hsz := hb.size
        obtain ⟨b, o, rfl, _, hc⟩ := hk.cells (by omega)
        have y1 := hc i (by omega)
        have hlo := HO.out.lo i (by rw [HL.out]; exact hlt)
        rw [HL.out] at hlo
        obtain ⟨v, hv⟩ : ∃ v : Nat, l.getD i 0 = (v : Int) := ⟨(l.getD i 0).toNat, by omega⟩
        rw [hv] at y1 hlo
        have hs7 := hS.out.lt (by rw [HL.out]; exact hn7)
        have hst := hS.out.step HO.out (by rw [HL.out]; exact hn7) (by rw [HL.out]; exact hlt) hv
        have hcn := hst.count HO.out (by rw [HL.out]; exact hn7) hv
        have hv7 : v < 7 := by omega
        obtain ⟨V, U, hV, hU, hV1, hU1, f1, f2, f3⟩ := pow_facts v (by omega)
        have f4 := u64_andNot_nat s V (by omega) (by omega)
        rw [← hV] at hst hcn
        have ht7 := hst.lt (by rw [HL.out]; exact hn7)
        rw [hV, ← hU, ← hV] at hcn
        obtain ⟨t, ht⟩ : ∃ t, s &&& (18446744073709551615 - V) = t := ⟨_, rfl⟩
        rw [ht] at f4 hst hcn ht7
        have f5 := u64_and_nat t U (by omega) (by omega)
        have hr7 : t &&& U < 128 := Nat.lt_of_le_of_lt Nat.and_le_left ht7
        obtain ⟨r, hr⟩ : ∃ r, t &&& U = r := ⟨_, rfl⟩
        rw [hr] at f5 hcn hr7
        have HT := Lib.hid hst
        have HN : Hid ((codeL l).take (i + 1) = (codeL l).take i ++ [cdN l i]) := Lib.hid (codeL_take (by rw [HL.out]; exact hlt))
        obtain ⟨z, hz⟩ : ∃ z, cdN l i = z := ⟨_, rfl⟩
        rw [hz] at hcn HN
        have HC : Hid (∀ w, Calls Tryd.prog 60 #[.int .u64 (r : Int)] w fun e w' => e = .returned (.int .i64 z) ∧ w = w') := Lib.hid (fun w => by
          have := OnesCount_any r w hr7
          rw [hcn] at this
          exact this)
        have hO2 := hO1.out
        clear hc hv hst hcn hz hr ht hV hU hlo hO1 hk hS
        go_wp2_with (first
          | (go_at_call 60; refine (HC.out _).mono ?_; rintro e w9 ⟨rfl, rfl⟩)
          | (at_builtin; refine wl_app_own Tryd.underlying23 elem3 w.heap.size (.tmp 28) (.tmp 35) rfl rfl rfl rfl (hO2.alloc _) (isL_one _ _ _) (by simp; omega) (by omega) ?_))
        intro a2 c2 w3 ho3 hg3 hb3 _
        have hO3 : Hid (OwnL w3 3 w.heap.size a2 (i + 1) c2 ((codeL l).take (i + 1))) := Lib.hid (by rw [HN.out]; exact ho3)
        have hb4 := (hb.alloc hsz (.cells #[.int .i64 z] 3)).trans hb3
        clear ho3 hg3 hb3 hO2
        go_wp2
        go_roundw
        case rel => first | exact ⟨i + 1, t, a2, c2, by omega, by go_num, rfl, HT, rfl, hO3, hb4⟩ | ((repeat apply Exists.intro); exact ⟨⟨i + 1, t, a2, c2, by omega, by go_num, rfl, HT, rfl, hO3, hb4⟩, rfl⟩)
        case measure => (simp [intOf] <;> omega)
      · obtain rfl : i = n := by omega
        have F : Hid ((codeL l).take i = codeL l) := Lib.hid (List.take_of_length_le (by rw [← HL.out]; simp [codeL]))
        go_wp2
        go_ret2
        exact CodP.good H0.out (by rw [← F.out]; exact hO1.out.isL) hb
  · have t1 : (e0 == 0) = false := by simpa using hz
    have t2 : (e0 != 0) = true := by simpa using hz
    have HZ := Lib.hid hz
    clear hz he0
    go_enter Tryd.func18, Tryd.ntmps18
    go_wp2_with fail
    refine (Check_any _ _ _ _ _ h).mono ?_
    rintro e w1 ⟨rfl, b1⟩
    rw [H0.out]
    go_wp2
    go_ret2
    exact CodP.bad H0.out HZ.out b1
end Go.Proofs.YtpfaoagddgcmbaaDoor
namespace Go.Proofs.YtpfaoagddgcmbaaDoor
open Go.RowKit Grade03
end Go.Proofs.YtpfaoagddgcmbaaDoor
