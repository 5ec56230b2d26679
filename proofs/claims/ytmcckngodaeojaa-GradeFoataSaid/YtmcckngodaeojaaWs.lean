/- Walks of chapter 3: the code, the reference. -/
import Derived.Test.YtmcckngodaeojaaWp
import Derived.Test.YtmcckngodaeojaaPa
import Derived.Deep.RegionLaw
import Derived.Shelf.RegionOpenPlain
import Derived.Lib.SliceRun
namespace Go.Proofs.Ytmcckngodaeojaa
open Go.RowKit Grade03

def cdR (l : List Int) (i k : Nat) : Int := sm (fun k => bI (i < k ∧ l.getD k 0 < l.getD i 0)) k
theorem cdR_start (l : List Int) (i : Nat) : cdR l i (i + 1) = 0 := sm_low _ fun j hj => by unfold bI; rw [if_neg (by omega)]
theorem cdR_step (l : List Int) (i k : Nat) : cdR l i (k + 1) = cdR l i k + bI (i < k ∧ l.getD k 0 < l.getD i 0) := rfl
theorem cdR_end (l : List Int) (i : Nat) : cdR l i l.length = cdN l i := rfl
theorem codeL_of {l L : List Int} (hl : L.length = l.length) (h : ∀ j, j < l.length → L.getD j 0 = cdN l j) : L = codeL l := by
  apply List.ext_getElem
  · simp [codeL, hl]
  · intro j h1 h2
    have := h j (by omega)
    simp only [List.getD, List.getElem?_eq_getElem h1, Option.getD_some] at this
    simpa [codeL] using this
/-- where the reference's code stands -/
structure CodS (l L : List Int) (i k : Nat) : Prop where
  done : ∀ j, j < i → L.getD j 0 = cdN l j
  now : L.getD i 0 = cdR l i k
  rest : ∀ j, i < j → L.getD j 0 = 0
theorem CodS.step {l L : List Int} {i k : Nat} (h : CodS l L i k) (hi : i < L.length) (hik : i < k) : CodS l (if l.getD k 0 < l.getD i 0 then L.set i (L.getD i 0 + 1) else L) i (k + 1) := by
  split
  · rename_i hc
    refine ⟨fun j hj => ?_, ?_, fun j hj => ?_⟩
    · rw [List.getD, List.getElem?_set_ne (by omega), ← List.getD]; exact h.done j hj
    · rw [cdR_step, ← h.now]; unfold bI; rw [if_pos ⟨hik, hc⟩]; simp [List.getD, hi]
    · rw [List.getD, List.getElem?_set_ne (by omega), ← List.getD]; exact h.rest j hj
  · rename_i hc
    refine ⟨h.done, ?_, h.rest⟩
    rw [cdR_step, ← h.now]; unfold bI; rw [if_neg (fun e => hc e.2)]; omega
theorem CodS.next {l L : List Int} {i k : Nat} (h : CodS l L i k) (hk : k = l.length) : CodS l L (i + 1) (i + 2) := by
  refine ⟨fun j hj => ?_, ?_, fun j hj => h.rest j (by omega)⟩
  · by_cases e : j = i
    · rw [e, h.now, hk, cdR_end]
    · exact h.done j (by omega)
  · rw [cdR_start]; exact h.rest _ (by omega)
def codE (l : List Int) : List Int := if chkE l = 0 then codeL l else []
def CodP (l : List Int) (w : World) (e : Ending) (w' : World) : Prop := ∃ a' m c', e = .returned (.tuple #[.slice a' m c', .int .i64 (chkE l)]) ∧ IsL w' a' m c' (codE l) ∧ Below w.heap.size w w'
theorem CodP.bad {l : List Int} {w w' : World} {e0 : Int} (h : chkE l = e0) (h0 : e0 ≠ 0) (hb : Below w.heap.size w w') : CodP l w (.returned (.tuple #[.slice none 0 0, .int .i64 e0])) w' := ⟨none, 0, 0, by rw [h], by unfold codE; rw [h, if_neg h0]; exact IsL.nilL _, hb⟩
theorem CodP.good {l : List Int} {w w' : World} {a' m c'} (h : chkE l = 0) (hm : IsL w' a' m c' (codeL l)) (hb : Below w.heap.size w w') : CodP l w (.returned (.tuple #[.slice a' m c', .int .i64 0])) w' := ⟨a', m, c', by rw [h], by unfold codE; rw [if_pos h]; exact hm, hb⟩
theorem cdR_bd (l : List Int) (i : Nat) : ∀ k : Nat, 0 ≤ cdR l i k ∧ cdR l i k ≤ k
  | 0 => ⟨Int.le_refl _, Int.le_refl _⟩
  | k + 1 => by
    have := cdR_bd l i k
    rw [cdR_step]; unfold bI; split <;> omega
theorem CodS.start (l : List Int) (n : Nat) : CodS l (List.replicate n 0) 0 1 := by
  have hz : ∀ j, (List.replicate n (0 : Int)).getD j 0 = 0 := fun j => by
    simp only [List.getD, List.getElem?_replicate]; split <;> rfl
  exact ⟨fun j hj => by omega, by rw [hz, cdR_start], fun j _ => hz j⟩

set_option maxHeartbeats 4000000 in
set_option maxRecDepth 100000 in
theorem rCode_any (a : Option Addr) (n c : Nat) (l : List Int) (w : World) (h : IsL w a n c l) :
    Calls Try.prog 38 #[.slice a n c] w (CodP l w) := by
  obtain ⟨e0, he0⟩ : ∃ e0, chkE l = e0 := ⟨_, rfl⟩
  have H0 := Lib.hid he0
  by_cases hz : e0 = 0
  · subst hz
    obtain ⟨hO, hn1, hn7⟩ := chkE_zero.1 he0
    have hl := h.len
    rw [hl] at hn1 hn7
    have HL := Lib.hid hl
    clear hl he0 hO
    go_enter Try.func38, Try.ntmps38
    go_wp2_with (first
      | (go_at_call 26; refine (rCheck_any _ _ _ _ _ h).mono ?_; rintro e w1 ⟨rfl, b1⟩; rw [H0.out])
      | (at_make; refine wl_make (Value.int .i64) 0 (.int .i64 0) 8 w.heap.size Try.underlying22 elem3 rfl rfl (.tmp 14) (.tmp 14) rfl rfl n rfl rfl (by omega) (by omega) b1.size ?_))
    intro w2 og hg2 hb2
    have hb3 := b1.trans hb2
    have hgB : w.heap.size ≤ w1.heap.size := b1.size
    generalize w1.heap.size = g at *
    have HOW : Hid (OwnL w2 3 w.heap.size (some ⟨g, 0, none⟩) n n (List.replicate n 0)) := Lib.hid og
    clear b1 hg2 hb2 og
    go_wp2_with fail
    go_loopw [6] (fun vi wr => ∃ (i : Nat) (L : List Int), i ≤ n ∧ vi = .int .i64 (i : Int) ∧ Hid (OwnL wr 3 w.heap.size (some ⟨g, 0, none⟩) n n L) ∧ Hid (CodS l L i (i + 1)) ∧ Below w.heap.size w wr) (fun vi _ => n - (intOf vi).toNat)
    case atStart => exact ⟨0, _, by omega, rfl, HOW, Lib.hid (CodS.start l n), hb3⟩
    case round =>
      clear HOW hb3
      obtain ⟨i, L, hi, rfl, hW, hS, hb⟩ := hrel
      by_cases hlt : i < n
      · have q0 : (i : Int) < (n : Int) := by omega
        go_wp2_with fail
        go_loopw [7] (fun vk wr => ∃ (k : Nat) (L : List Int), i < k ∧ k ≤ n ∧ vk = .int .i64 (k : Int) ∧ Hid (OwnL wr 3 w.heap.size (some ⟨g, 0, none⟩) n n L) ∧ Hid (CodS l L i k) ∧ Below w.heap.size w wr) (fun vk _ => n - (intOf vk).toNat)
        case atStart => exact ⟨i + 1, L, by omega, by omega, by go_num, hW, hS, hb⟩
        case round =>
          clear hW hS hb
          obtain ⟨k, L, hik, hk, rfl, hW, hS, hb⟩ := hrel
          by_cases hkn : k < n
          · have q1 : (k : Int) < (n : Int) := by omega
            have hh := h.below hb
            obtain ⟨b, o, rfl, _, hc⟩ := hh.cells (by omega)
            have y1 := hc k hkn
            have y2 := hc i hlt
            have hLn := hW.out.len
            have HS := Lib.hid (hS.out.step (by omega) hik)
            obtain ⟨u, hu⟩ : ∃ u, l.getD k 0 = u := ⟨_, rfl⟩
            obtain ⟨v, hv⟩ : ∃ v, l.getD i 0 = v := ⟨_, rfl⟩
            have HB : Hid (0 ≤ L.getD i 0 ∧ L.getD i 0 ≤ k) := Lib.hid (by rw [hS.out.now]; exact cdR_bd l i k)
            rw [hu] at y1 HS
            rw [hv] at y2 HS
            clear hc hu hv hh hS
            by_cases huv : u < v
            · rw [if_pos huv] at HS
              obtain ⟨x1, f1⟩ := hW.out.gen.cell i 0 hlt
              have hW2 := Lib.hid (hW.out.set i (L.getD i 0 + 1) hlt)
              have hb2 := hb.setCell (p := ⟨g, i, none⟩) hgB (.int .i64 (L.getD i 0 + 1))
              obtain ⟨t, ht⟩ : ∃ t, L.getD i 0 = t := ⟨_, rfl⟩
              rw [ht] at x1 hW2 hb2 HS HB
              have w3 : IntKind.i64.wrap (t + 1) = t + 1 := IntWalk.i64_in _ (by have := HB.out; omega)
              clear hW hb ht
              go_wp2_with fail
              go_quiet (fail)
              go_wp2
              go_roundw
              case rel => first | exact ⟨k + 1, _, by omega, by omega, by go_num, Lib.hid (hW2.out.drewN _), HS, belowN hb2 _⟩ | ((repeat apply Exists.intro); exact ⟨⟨k + 1, _, by omega, by omega, by go_num, Lib.hid (hW2.out.drewN _), HS, belowN hb2 _⟩, rfl⟩)
              case measure => (simp [intOf] <;> omega)
            · rw [if_neg huv] at HS
              go_wp2_with fail
              go_quiet (fail)
              go_wp2
              go_roundw
              case rel => first | exact ⟨k + 1, L, by omega, by omega, by go_num, Lib.hid (hW.out.drewN _), HS, belowN hb _⟩ | ((repeat apply Exists.intro); exact ⟨⟨k + 1, L, by omega, by omega, by go_num, Lib.hid (hW.out.drewN _), HS, belowN hb _⟩, rfl⟩)
              case measure => (simp [intOf] <;> omega)
          · obtain rfl : k = n := by omega
            have HN : Hid (CodS l L (i + 1) (i + 2)) := Lib.hid (hS.out.next HL.out.symm)
            go_wp2
            go_roundw
            case rel => first | exact ⟨i + 1, L, by omega, by go_num, hW, HN, hb⟩ | ((repeat apply Exists.intro); exact ⟨⟨i + 1, L, by omega, by go_num, hW, HN, hb⟩, rfl⟩)
            case measure => (simp [intOf] <;> omega)
      · obtain rfl : i = n := by omega
        have F : Hid (L = codeL l) := Lib.hid (codeL_of (by rw [hW.out.len, HL.out]) (fun j hj => hS.out.done j (by rw [← HL.out]; exact hj)))
        go_wp2
        go_ret2
        exact CodP.good H0.out (by rw [← F.out]; exact hW.out.isL) hb
  · have t1 : (e0 == 0) = false := by simpa using hz
    have t2 : (e0 != 0) = true := by simpa using hz
    have HZ := Lib.hid hz
    clear hz he0
    go_enter Try.func38, Try.ntmps38
    go_wp2_with fail
    refine (rCheck_any _ _ _ _ _ h).mono ?_
    rintro e w1 ⟨rfl, b1⟩
    rw [H0.out]
    go_wp2
    go_ret2
    exact CodP.bad H0.out HZ.out b1
end Go.Proofs.Ytmcckngodaeojaa
namespace Go.Proofs.Ytmcckngodaeojaa
open Go.RowKit Grade03

set_option maxHeartbeats 4000000 in
theorem OnesCount64_any (x : Nat) (w : World) (h : x < 128) : Calls Try.prog 102 #[.int .u64 (x : Int)] w fun e w' => e = .returned (.int .i64 (popN x)) ∧ w = w' := by
  go_enter Try.func102, Try.ntmps102
  go_wp2
  go_ret
  refine ⟨?_, rfl⟩
  refine congrArg (fun z => Ending.returned (.int .i64 z)) ?_
  revert x
  decide +kernel
theorem OnesCount_any (x : Nat) (w : World) (h : x < 128) : Calls Try.prog 83 #[.int .u64 (x : Int)] w fun e w' => e = .returned (.int .i64 (popN x)) ∧ w = w' := by
  go_enter Try.func83, Try.ntmps83
  go_wp2_with (go_at_call 102; refine (OnesCount64_any x w h).mono ?_; rintro e w9 ⟨rfl, rfl⟩)
  go_ret
  exact ⟨rfl, rfl⟩
/-- 1 << x, and that less 1, as the walk writes them -/
theorem pow_facts (x : Nat) (hx : x ≤ 7) : ∃ P M : Nat, P = 2 ^ x ∧ M = 2 ^ x - 1 ∧ P ≤ 128 ∧ M < 128 ∧ (2 : Int) ^ x = (P : Int) ∧ IntKind.u64.wrap (P : Int) = (P : Int) ∧ IntKind.u64.wrap ((P : Int) - 1) = (M : Int) := by
  have h1 : (2 : Nat) ^ x ≤ 2 ^ 7 := Nat.pow_le_pow_right (by omega) hx
  have h2 : 0 < (2 : Nat) ^ x := Nat.two_pow_pos x
  have h3 : (2 : Nat) ^ 7 = 128 := by decide
  refine ⟨2 ^ x, 2 ^ x - 1, rfl, rfl, by omega, by omega, by rw [Int.natCast_pow]; rfl, ?_, ?_⟩
  · rw [IntKind.wrap_u64]; omega
  · rw [IntKind.wrap_u64]; omega

set_option maxHeartbeats 4000000 in
set_option maxRecDepth 100000 in
theorem Code_any (a : Option Addr) (n c : Nat) (l : List Int) (w : World) (h : IsL w a n c l) :
    Calls Try.prog 37 #[.slice a n c] w (CodP l w) := by
  obtain ⟨e0, he0⟩ : ∃ e0, chkE l = e0 := ⟨_, rfl⟩
  have H0 := Lib.hid he0
  by_cases hz : e0 = 0
  · subst hz
    obtain ⟨hO, hn1, hn7⟩ := chkE_zero.1 he0
    have hl := h.len
    rw [hl] at hn1 hn7
    have HL := Lib.hid hl
    have HO := Lib.hid hO
    obtain ⟨P, M, hP, hM, hP1, hM1, e1, e2, e3⟩ := pow_facts n hn7
    have HM := Lib.hid hM
    clear hl he0 hO hP hM
    go_enter Try.func37, Try.ntmps37
    go_wp2_with fail
    refine (Check_any _ _ _ _ _ h).mono ?_
    rintro e w1 ⟨rfl, b1⟩
    rw [H0.out]
    go_wp2_with fail
    go_loopw [20, 5, 6] (fun vi vs vo wr => ∃ (i s : Nat) (a' : Option Addr) (c' : Nat), i ≤ n ∧ vi = .int .i64 (i : Int) ∧ vs = .int .u64 (s : Int) ∧ Hid (LeftB l i s) ∧ vo = .slice a' i c' ∧ Hid (OwnL wr 3 w.heap.size a' i c' ((codeL l).take i)) ∧ Below w.heap.size w wr) (fun vi _ _ _ => n - (intOf vi).toNat)
    case atStart => exact ⟨0, M, none, 0, by omega, rfl, rfl, Lib.hid (by rw [HM.out, ← HL.out]; exact LeftB.start l), rfl, Lib.hid (OwnL.nilL _ _ _), b1⟩
    case round =>
      clear b1
      obtain ⟨i, s, a', c', hi, rfl, rfl, hS, rfl, hO1, hb⟩ := hrel
      by_cases hlt : i < n
      · have q0 : (i : Int) < (n : Int) := by omega
        have hk := h.below hb
        have hsz := hb.size
        obtain ⟨b, o, rfl, _, hc⟩ := hk.cells (by omega)
        have y1 := hc i (by omega)
        have hlo := HO.out.lo i (by rw [HL.out]; exact hlt)
        rw [HL.out] at hlo
        obtain ⟨v, hv⟩ : ∃ v : Nat, l.getD i 0 = (v : Int) := ⟨(l.getD i 0).toNat, by omega⟩
        rw [hv] at y1 hlo
        have hs7 := hS.out.lt (by rw [HL.out]; exact hn7)
        have hst := hS.out.step HO.out (by rw [HL.out]; exact hn7) (by rw [HL.out]; exact hlt) hv
        have hcn := hst.count HO.out (by rw [HL.out]; exact hn7) hv
        have hv7 : v < 7 := by omega
        obtain ⟨V, U, hV, hU, hV1, hU1, f1, f2, f3⟩ := pow_facts v (by omega)
        have f4 := u64_andNot_nat s V (by omega) (by omega)
        rw [← hV] at hst hcn
        have ht7 := hst.lt (by rw [HL.out]; exact hn7)
        rw [hV, ← hU, ← hV] at hcn
        obtain ⟨t, ht⟩ : ∃ t, s &&& (18446744073709551615 - V) = t := ⟨_, rfl⟩
        rw [ht] at f4 hst hcn ht7
        have f5 := u64_and_nat t U (by omega) (by omega)
        have hr7 : t &&& U < 128 := Nat.lt_of_le_of_lt Nat.and_le_left ht7
        obtain ⟨r, hr⟩ : ∃ r, t &&& U = r := ⟨_, rfl⟩
        rw [hr] at f5 hcn hr7
        have HT := Lib.hid hst
        have HN : Hid ((codeL l).take (i + 1) = (codeL l).take i ++ [cdN l i]) := Lib.hid (codeL_take (by rw [HL.out]; exact hlt))
        obtain ⟨z, hz⟩ : ∃ z, cdN l i = z := ⟨_, rfl⟩
        rw [hz] at hcn HN
        have HC : Hid (∀ w, Calls Try.prog 83 #[.int .u64 (r : Int)] w fun e w' => e = .returned (.int .i64 z) ∧ w = w') := Lib.hid (fun w => by
          have := OnesCount_any r w hr7
          rw [hcn] at this
          exact this)
        have hO2 := hO1.out
        clear hc hv hst hcn hz hr ht hV hU hlo hO1 hk hS
        go_wp2_with (first
          | (go_at_call 83; refine (HC.out _).mono ?_; rintro e w9 ⟨rfl, rfl⟩)
          | (at_builtin; refine wl_app_own Try.underlying22 elem3 w.heap.size (.tmp 28) (.tmp 35) rfl rfl rfl rfl (hO2.alloc _) (isL_one _ _ _) (by simp; omega) (by omega) ?_))
        intro a2 c2 w3 ho3 hg3 hb3 _
        have hO3 : Hid (OwnL w3 3 w.heap.size a2 (i + 1) c2 ((codeL l).take (i + 1))) := Lib.hid (by rw [HN.out]; exact ho3)
        have hb4 := (hb.alloc hsz (.cells #[.int .i64 z] 3)).trans hb3
        clear ho3 hg3 hb3 hO2
        go_wp2
        go_roundw
        case rel => first | exact ⟨i + 1, t, a2, c2, by omega, by go_num, rfl, HT, rfl, hO3, hb4⟩ | ((repeat apply Exists.intro); exact ⟨⟨i + 1, t, a2, c2, by omega, by go_num, rfl, HT, rfl, hO3, hb4⟩, rfl⟩)
        case measure => (simp [intOf] <;> omega)
      · obtain rfl : i = n := by omega
        have F : Hid ((codeL l).take i = codeL l) := Lib.hid (List.take_of_length_le (by rw [← HL.out]; simp [codeL]))
        go_wp2
        go_ret2
        exact CodP.good H0.out (by rw [← F.out]; exact hO1.out.isL) hb
  · have t1 : (e0 == 0) = false := by simpa using hz
    have t2 : (e0 != 0) = true := by simpa using hz
    have HZ := Lib.hid hz
    clear hz he0
    go_enter Try.func37, Try.ntmps37
    go_wp2_with fail
    refine (Check_any _ _ _ _ _ h).mono ?_
    rintro e w1 ⟨rfl, b1⟩
    rw [H0.out]
    go_wp2
    go_ret2
    exact CodP.bad H0.out HZ.out b1
end Go.Proofs.Ytmcckngodaeojaa
namespace Go.Proofs.Ytmcckngodaeojaa
open Go.RowKit Grade03

theorem erase_take_drop (l : List Int) (k : Nat) : l.eraseIdx k = l.take k ++ l.drop (k + 1) := List.eraseIdx_eq_take_drop_succ l k

set_option maxHeartbeats 4000000 in
set_option maxRecDepth 1000000 in
theorem delete_j (g n c B k j : Nat) (l : List Int) (w : World) (h : OwnL w 3 B (some ⟨g, 0, none⟩) n c l) (hk : k < n) (hj : j = k + 1) :
    Calls Try.prog 84 #[.slice (some ⟨g, 0, none⟩) n c, .int .i64 k, .int .i64 j] w fun e w' => e = .returned (.slice (some ⟨g, 0, none⟩) (n - 1) c) ∧ OwnL w' 3 B (some ⟨g, 0, none⟩) (n - 1) c (l.eraseIdx k) ∧ w.grownBy w' (some g) := by
  obtain ⟨i0, hi0, hz0, hz1, hz2⟩ := info_parts elem3
  obtain ⟨cur, hg, hh, hnc, hcm, hcs, hl, hx, hs, hf⟩ := h.parts
  have hm : c ≤ 9223372036854775807 := by simpa [maxLen] using hcm
  obtain ⟨news, hnews⟩ : ∃ news, news = (l.drop j).map (Value.int IntKind.i64) := ⟨_, rfl⟩
  have hlen : news.length = n - j := by rw [hnews]; simp [hl]
  have hget : ∀ t, t < n - j → news[t]? = some (.int .i64 (l.getD (j + t) 0)) := by
    intro t ht
    have : j + t < l.length := by omega
    rw [hnews, List.getElem?_map, List.getElem?_drop]
    simp [List.getD, this]
  obtain ⟨A, hA, hsrc⟩ : ∃ A : Addr, (if c = j then some (⟨g, 0, none⟩ : Addr) else some ⟨g, j, none⟩) = some A ∧ Hid (∀ t u, news[t]? = some u → w.drew.cell? (A.add t) = some u) := by
    by_cases hq : c = j
    · refine ⟨⟨g, 0, none⟩, by simp [hq], fun t u hu => ?_⟩
      have h0 : news.length = 0 := by rw [hlen]; omega
      rw [List.length_eq_zero_iff.1 h0] at hu
      simp at hu
    · refine ⟨⟨g, j, none⟩, by simp [hq], fun t u hu => ?_⟩
      have ht : t < n - j := by
        have := (List.getElem?_eq_some_iff.1 hu).1
        rwa [hlen] at this
      rw [hget t ht] at hu
      rw [add_lit0]
      exact (hx _ (by omega)).trans hu
  have s1 : Hid (news.length = (n - j) * 1) := by rw [Nat.mul_one]; exact hlen
  have s2 : Hid (∀ u ∈ news, u.oneCell' = true) := by
    intro u hu
    rw [hnews] at hu
    obtain ⟨x, _, rfl⟩ := List.mem_map.1 hu
    rfl
  have s3 : Hid (∀ t, t < news.length → (w.drew.cell? ⟨g, 0 + k * 1 + t, none⟩).isSome = true ∧ w.drew.frozen? ⟨g, 0 + k * 1 + t, none⟩ = false) := by
    intro t ht
    rw [hlen] at ht
    exact ⟨hs _ (by omega), hf _⟩
  obtain ⟨W1, hW1⟩ : ∃ W1, W1 = w.drew.setCells g (0 + k * 1) news := ⟨_, rfl⟩
  -- what W1 holds
  have hg1 : w.grownBy W1 (some g) := by rw [hW1]; exact grown_trans (grown_drew w _) (grown_setCells g news _ _)
  obtain ⟨cur1, hh1, hcs1⟩ : ∃ cur1, W1.heap[g]? = some (.cells cur1 3 (0, 0)) ∧ cur1.size = c := by
    rw [hW1]
    obtain ⟨c1, q1, q2⟩ := setCells_own news (0 + k * 1) w.drew cur hh
    exact ⟨c1, q1, by omega⟩
  have hx1 : ∀ i, i < n - 1 → W1.cell? ⟨g, i, none⟩ = some (.int .i64 ((l.eraseIdx k).getD i 0)) := by
    intro i hi
    rw [hW1]
    by_cases hik : i < k
    · rw [World.cell?_setCells_out g _ _ _ _ (fun _ _ => .inl (by show i < 0 + k * 1; omega))]
      refine (hx i (by omega)).trans ?_
      simp [List.getD, List.getElem?_eraseIdx, hik]
    · have := World.cell?_setCells_in g news (0 + k * 1) w.drew (fun j hj => (s3.out j hj).1) (i - k) (by omega)
      rw [show 0 + k * 1 + (i - k) = i by omega] at this
      rw [this]
      have h2 := hget (i - k) (by omega)
      rw [List.getElem?_eq_getElem (by omega)] at h2
      rw [h2, show j + (i - k) = i + 1 by omega]
      simp [List.getD, List.getElem?_eraseIdx, hik]
  have hs1 : ∀ i, i < c → (W1.cell? ⟨g, i, none⟩).isSome = true := by
    intro i hi
    rw [World.cell?]; simp only [hh1]; simp; omega
  have hf1 : ∀ i, W1.frozen? ⟨g, i, none⟩ = false := by intro i; simp [World.frozen?, hh1]
  have hel : (l.eraseIdx k).length = n - 1 := by rw [List.length_eraseIdx_of_lt (by omega), hl]
  have hm1 : k + (n - j) = n - 1 := by omega
  have hcl : ∀ ty, (Builtin.clear_ #[22] ty #[.slice (some ⟨g, k + (n - j), none⟩) (n - (k + (n - j))) (c - (k + (n - j)))]).run Try.prog W1 = .ok (.tuple #[]) (W1.setCells g (k + (n - j)) (List.replicate (n - (k + (n - j))) (.int .i64 0))) :=
    fun ty => Lib.run_clear_slice W1 _ _ ty _ Try.underlying22 (fun w => by simp [go_sem]) rfl rfl g (k + (n - j)) _ _ (by omega) (fun t ht => hs1 _ (by omega)) (fun t ht => hf1 _)
  have fin : OwnL (W1.setCells g (k + (n - j)) (List.replicate (n - (k + (n - j))) (.int .i64 0))) 3 B (some ⟨g, 0, none⟩) (n - 1) c (l.eraseIdx k) ∧ w.grownBy (W1.setCells g (k + (n - j)) (List.replicate (n - (k + (n - j))) (.int .i64 0))) (some g) := by
    refine ⟨?_, grown_trans hg1 (grown_setCells _ _ _ _)⟩
    obtain ⟨c2, q1, q2⟩ := setCells_own (List.replicate (n - (k + (n - j))) (.int .i64 0)) (k + (n - j)) W1 cur1 hh1
    refine own_of_cells hg q1 (by omega) hcm (by omega) hel fun i hi => ?_
    rw [World.cell?_setCells_out g _ _ _ _ (fun _ _ => .inl (by show i < k + (n - j); omega))]
    exact hx1 i hi
  have HM := Lib.hid hm1
  clear hm1
  have HF := Lib.hid fin
  have hW : Hid (W1 = w.drew.setCells g (0 + k * 1) news) := hW1
  have hkc : k ≤ c := by omega
  have hk1c : j ≤ c := by omega
  have hkj : k < j := by omega
  have mixed : Try.prog.follows Departure.mixedOrders = true := by kernel_rfl
  have hjn : j ≤ n := by omega
  have HJ := Lib.hid hj
  clear hW1 hh1 hx1 hs1 hf1 hg1 hget hnews hlen fin hel hx hs hf hh h hcs hcs1 hj cur cur1
  go_enter Try.func84, Try.ntmps84
  go_wp2_with fail
  go_region_law_o (refine step_append_room rfl (.tmp 22) (.tmp 25) 22 rfl 3 i0 1 Try.underlying22 hi0 hz1 g 0 k c (by simp [Act.eval, Act.put]) A (n - j) (c - j) news (by simp [Act.eval, Act.put]) s1.out hsrc.out s2.out (by omega) s3.out ?_; rw [← hW.out])
  go_wp2
  go_ret
  exact ⟨by rw [HM.out]; rfl, HF.out⟩

theorem delete_one (g n c B k : Nat) (l : List Int) (w : World) (h : OwnL w 3 B (some ⟨g, 0, none⟩) n c l) (hk : k < n) :
    Calls Try.prog 84 #[.slice (some ⟨g, 0, none⟩) n c, .int .i64 k, .int .i64 ((k : Int) + 1)] w fun e w' => e = .returned (.slice (some ⟨g, 0, none⟩) (n - 1) c) ∧ OwnL w' 3 B (some ⟨g, 0, none⟩) (n - 1) c (l.eraseIdx k) ∧ w.grownBy w' (some g) :=
  delete_j g n c B k (k + 1) l w h hk rfl
end Go.Proofs.Ytmcckngodaeojaa
