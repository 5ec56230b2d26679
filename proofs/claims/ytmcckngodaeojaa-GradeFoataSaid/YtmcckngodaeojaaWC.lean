/- Walks of chapter 3: the reference goes through all orders. -/
import Derived.Test.YtmcckngodaeojaaWA
namespace Grade03
theorem btw_spo (n : Nat) (a b : List Int) : SPO n (btwR a b) := ⟨fun x _ h => bef_irrefl a x h.1, fun x y z _ _ _ h h' => ⟨bef_trans h.1 h'.1, bef_trans h.2 h'.2⟩⟩
theorem allO_getD {n i : Nat} (hi : i < (allO n n []).length) : IsO ((allO n n []).getD i []) ∧ ((allO n n []).getD i []).length = n := by
  refine allO_mem.1 ?_
  rw [List.getD, List.getElem?_eq_getElem hi]
  exact List.getElem_mem _
theorem countP_take_succ {α : Type} (p : α → Bool) (L : List α) (d : α) (i : Nat) (hi : i < L.length) : (L.take (i + 1)).countP p = (L.take i).countP p + if p (L.getD i d) then 1 else 0 := by
  rw [List.take_succ_eq_append_getElem hi, List.countP_append, List.countP_singleton]
  simp [List.getD, hi]
theorem find_idx {α : Type} {p : α → Bool} {L : List α} {x d : α} (h : L.find? p = some x) : ∃ i, i < L.length ∧ L.getD i d = x ∧ p x = true ∧ ∀ j, j < i → p (L.getD j d) = false := by
  obtain ⟨h1, i, hi, h2, h3⟩ := List.find?_eq_some_iff_getElem.1 h
  refine ⟨i, hi, by rw [List.getD, List.getElem?_eq_getElem hi]; exact h2, h1, fun j hj => ?_⟩
  have := h3 j hj
  rw [List.getD, List.getElem?_eq_getElem (by omega)]
  simpa using this
theorem bestF_drop {P : List Int → Bool} {t : List Int → Int} {L : List (List Int)} {i : Nat} (hi : i < L.length) (o : Option (List Int)) : bestF P t (L.drop i) o = bestF P t (L.drop (i + 1)) (if (P (L.getD i []) && ltO t (L.getD i []) o) = true then some (L.getD i []) else o) := by
  rw [List.drop_eq_getElem_cons hi, bestF]
  simp [List.getD, hi]
end Grade03
namespace Go.Proofs.Ytmcckngodaeojaa
open Go.RowKit Grade03
/-- how many orders are between two others -/
def jntE (a b : List Int) : Int := if bothE a b = 0 then ((allO a.length a.length []).countP (fun l => decide (Lin a.length (btwR a b) l)) : Int) else 0
def fstE (a b : List Int) : List Int := if bothE a b = 0 then sortO a.length (btwR a b) else []
def joinE (a b : List Int) : List Int := if bothE a b = 0 then joinO a b else []
def meetE (a b : List Int) : List Int := if bothE a b = 0 then meetO a b else []
/-- the result so far of a search for the best one -/
def OptL (w : World) (v : Value) (o : Option (List Int)) : Prop := (o = none ∧ v = .slice none 0 0) ∨ ∃ b f n c l, o = some l ∧ v = .slice (some ⟨b, f, none⟩) n c ∧ IsL w (some ⟨b, f, none⟩) n c l ∧ IsO l ∧ n ≤ 7
theorem neq_nil (b o n c : Nat) (w : World) : (binOp .eql 22 (.slice (some ⟨b, o, none⟩) n c) (.slice none 0 0)).run Try.prog w = .ok (.bool false) w := by rw [Lib.run_eql_slice_nil w 22 3 _ _ _ _ _ Try.underlying22]; rfl
theorem eq_nil (w : World) : (binOp .eql 22 (.slice none 0 0) (.slice none 0 0)).run Try.prog w = .ok (.bool true) w := by rw [Lib.run_eql_slice_nil w 22 3 _ _ _ _ _ Try.underlying22]; rfl

set_option maxHeartbeats 4000000 in
set_option maxRecDepth 100000 in
theorem rJoint_any (a b : Option Addr) (n m0 c d : Nat) (la lb : List Int) (w : World) (h : IsL w a n c la) (h' : IsL w b m0 d lb) :
    Calls Try.prog 30 #[.slice a n c, .slice b m0 d] w (NP (bothE la lb) (jntE la lb) w) := by
  by_cases he : bothE la lb = 0
  · obtain ⟨hc1, hc2, hlen⟩ := bothE_zero.1 he
    obtain ⟨hO, hn1, hn7⟩ := chkE_zero.1 hc1
    obtain ⟨hO', _, _⟩ := chkE_zero.1 hc2
    have hl := h.len
    have hl' := h'.len
    obtain rfl : m0 = n := by omega
    rw [hl] at hn1 hn7
    have HL := Lib.hid hl
    have HLE := Lib.hid hlen
    have HO := Lib.hid hO
    have HO' := Lib.hid hO'
    have HE := Lib.hid he
    clear he hc1 hc2 hlen hO hO' hl hl'
    go_enter Try.func30, Try.ntmps30
    go_wp2_with fail
    refine (rboth_any a b m0 m0 c d la lb w h h').mono ?_
    rintro e w1 ⟨rfl, b1⟩
    rw [HE.out]
    go_wp2_with fail
    refine (all_any m0 m0 0 [] none 0 w1 (IsL.nilL _) (by omega) hn1 hn7).mono ?_
    rintro e w2 ⟨aA, r, cA, rfl, hA, b2⟩
    have k2 := b1.trans (b2.mono b1.size)
    have g1 := h.below k2
    have g2 := h'.below k2
    have HR : Hid ((allO m0 m0 []).length = r) := Lib.hid hA.len
    have HA := Lib.hid hA
    have HALL : Hid (∀ i, i < r → IsO ((allO m0 m0 []).getD i []) ∧ ((allO m0 m0 []).getD i []).length = m0) := Lib.hid (fun i hi => allO_getD (by rw [HR.out]; exact hi))
    have HRB : Hid (r ≤ 823543) := Lib.hid (by
      rw [← HR.out]
      have h1 := allO_len m0 m0 []
      have h2 : m0 ^ m0 ≤ 7 ^ m0 := Nat.pow_le_pow_left hn7 m0
      have h3 : (7 : Nat) ^ m0 ≤ 7 ^ 7 := Nat.pow_le_pow_right (by omega) hn7
      have h4 : (7 : Nat) ^ 7 = 823543 := by decide
      omega)
    clear hA b1 b2
    go_wp2_with fail
    go_loopw [9, 7] (fun vi vn wr => ∃ i k : Nat, i ≤ r ∧ k ≤ i ∧ vi = .int .i64 (i : Int) ∧ vn = .int .i64 (k : Int) ∧ Hid (((allO m0 m0 []).take i).countP (fun l => decide (Lin m0 (btwR la lb) l)) = k) ∧ w2 = wr) (fun vi _ _ => r - (intOf vi).toNat)
    case atStart => exact ⟨0, 0, by omega, by omega, rfl, rfl, Lib.hid (by simp), rfl⟩
    case round =>
      obtain ⟨i, k, hi, hki, rfl, rfl, hK, rfl⟩ := hrel
      have hrb := HRB.out
      by_cases hlt : i < r
      · skip
        obtain ⟨g, a3, n3, c3, rfl, y1, hI⟩ := HA.out.get hlt
        obtain ⟨hO3, hl3⟩ := HALL.out i hlt
        obtain rfl : n3 = m0 := by rw [← hI.len]; exact hl3
        have q1 : (i : Int) < (r : Int) := by omega
        obtain ⟨l, hl⟩ : ∃ l, (allO n3 n3 []).getD i [] = l := ⟨_, rfl⟩
        rw [hl] at hI hO3
        have HLL := Lib.hid hl
        obtain ⟨B, hB⟩ : ∃ B, decide (Lin n3 (btwR la lb) l) = B := ⟨_, rfl⟩
        have HC := Lib.hid (between_any a b a3 n3 c d c3 la lb l w2 g1 g2 hI HO.out HO'.out hO3 B hB)
        have HS : Hid (((allO n3 n3 []).take (i + 1)).countP (fun l => decide (Lin n3 (btwR la lb) l)) = k + if B then 1 else 0) := Lib.hid (by rw [countP_take_succ _ _ [] i (by rw [HR.out]; exact hlt), hK.out, hl, hB])
        clear hl hB hI hO3
        cases B with
        | true =>
          go_wp2_with (go_at_call 75; refine HC.out.mono ?_; rintro e w9 ⟨rfl, rfl⟩)
          go_roundw
          case rel => first | exact ⟨i + 1, k + 1, by omega, by omega, by go_num, by go_num, HS, by trivial⟩ | ((repeat apply Exists.intro); exact ⟨⟨i + 1, k + 1, by omega, by omega, by go_num, by go_num, HS, by trivial⟩, rfl⟩)
          case measure => (simp [intOf] <;> omega)
        | false =>
          go_wp2_with (go_at_call 75; refine HC.out.mono ?_; rintro e w9 ⟨rfl, rfl⟩)
          go_roundw
          case rel => first | exact ⟨i + 1, k, by omega, by omega, by go_num, rfl, HS, by trivial⟩ | ((repeat apply Exists.intro); exact ⟨⟨i + 1, k, by omega, by omega, by go_num, rfl, HS, by trivial⟩, rfl⟩)
          case measure => (simp [intOf] <;> omega)
      · obtain rfl : i = r := by omega
        have F : Hid (jntE la lb = (k : Int)) := Lib.hid (by
          unfold jntE
          rw [if_pos HE.out, HL.out, ← hK.out, ← HR.out, List.take_length])
        go_wp2_with fail
        go_ret2
        exact NP.is HE.out F.out k2
  · obtain ⟨e0, he0⟩ : ∃ e0, bothE la lb = e0 := ⟨_, rfl⟩
    have e1 : (e0 != 0) = true := by rw [← he0]; simpa using he
    have e2 : (e0 == 0) = false := by rw [← he0]; simpa using he
    have HZ : Hid (jntE la lb = 0) := Lib.hid (by unfold jntE; rw [if_neg he])
    have HE := Lib.hid he0
    clear he he0
    go_enter Try.func30, Try.ntmps30
    go_wp2_with fail
    refine (rboth_any a b n m0 c d la lb w h h').mono ?_
    rintro e w1 ⟨rfl, b1⟩
    rw [HE.out]
    go_wp2
    go_ret2
    exact NP.is HE.out HZ.out b1
end Go.Proofs.Ytmcckngodaeojaa
namespace Go.Proofs.Ytmcckngodaeojaa
open Go.RowKit Grade03

set_option maxHeartbeats 4000000 in
set_option maxRecDepth 100000 in
theorem rFirst_any (a b : Option Addr) (n m0 c d : Nat) (la lb : List Int) (w : World) (h : IsL w a n c la) (h' : IsL w b m0 d lb) :
    Calls Try.prog 32 #[.slice a n c, .slice b m0 d] w (LP (bothE la lb) (fstE la lb) w) := by
  by_cases he : bothE la lb = 0
  · obtain ⟨hc1, hc2, hlen⟩ := bothE_zero.1 he
    obtain ⟨hO, hn1, hn7⟩ := chkE_zero.1 hc1
    obtain ⟨hO', _, _⟩ := chkE_zero.1 hc2
    have hl := h.len
    have hl' := h'.len
    obtain rfl : m0 = n := by omega
    rw [hl] at hn1 hn7
    have HL := Lib.hid hl
    have HLE := Lib.hid hlen
    have HO := Lib.hid hO
    have HO' := Lib.hid hO'
    have HE := Lib.hid he
    clear he hc1 hc2 hlen hO hO' hl hl'
    go_enter Try.func32, Try.ntmps32
    go_wp2_with fail
    refine (rboth_any a b m0 m0 c d la lb w h h').mono ?_
    rintro e w1 ⟨rfl, b1⟩
    rw [HE.out]
    go_wp2_with fail
    refine (all_any m0 m0 0 [] none 0 w1 (IsL.nilL _) (by omega) hn1 hn7).mono ?_
    rintro e w2 ⟨aA, r, cA, rfl, hA, b2⟩
    have k2 := b1.trans (b2.mono b1.size)
    have g1 := h.below k2
    have g2 := h'.below k2
    have HR : Hid ((allO m0 m0 []).length = r) := Lib.hid hA.len
    have HA := Lib.hid hA
    have HALL : Hid (∀ i, i < r → IsO ((allO m0 m0 []).getD i []) ∧ ((allO m0 m0 []).getD i []).length = m0) := Lib.hid (fun i hi => allO_getD (by rw [HR.out]; exact hi))
    have HRB : Hid (r ≤ 823543) := Lib.hid (by
      rw [← HR.out]
      have h1 := allO_len m0 m0 []
      have h2 : m0 ^ m0 ≤ 7 ^ m0 := Nat.pow_le_pow_left hn7 m0
      have h3 : (7 : Nat) ^ m0 ≤ 7 ^ 7 := Nat.pow_le_pow_right (by omega) hn7
      have h4 : (7 : Nat) ^ 7 = 823543 := by decide
      omega)
    clear hA b1 b2
    obtain ⟨i0, hi0, hx0, hp0, hq0⟩ := find_idx (d := []) (sortF_first (btw_spo m0 la lb) m0 [] Beg.nil (by simp)).1
    rw [HR.out] at hi0
    have HQ0 := Lib.hid hq0
    have HX0 : Hid ((allO m0 m0 []).getD i0 [] = sortO m0 (btwR la lb)) := Lib.hid hx0
    have HP0 : Hid (decide (Lin m0 (btwR la lb) ((allO m0 m0 []).getD i0 [])) = true) := Lib.hid (by rw [hx0]; exact hp0)
    clear hx0 hp0 hq0
    go_wp2_with fail
    go_loopw [8] (fun vi wr => ∃ i : Nat, i ≤ i0 ∧ vi = .int .i64 (i : Int) ∧ w2 = wr) (fun vi _ => i0 - (intOf vi).toNat)
    case atStart => exact ⟨0, by omega, rfl, rfl⟩
    case round =>
      obtain ⟨i, hi, rfl, rfl⟩ := hrel
      have hrb := HRB.out
      have hlt : i < r := by omega
      · skip
        obtain ⟨g, a3, n3, c3, rfl, y1, hI⟩ := HA.out.get hlt
        obtain ⟨hO3, hl3⟩ := HALL.out i hlt
        obtain rfl : n3 = m0 := by rw [← hI.len]; exact hl3
        have q1 : (i : Int) < (r : Int) := by omega
        obtain ⟨l, hl⟩ : ∃ l, (allO n3 n3 []).getD i [] = l := ⟨_, rfl⟩
        rw [hl] at hI hO3
        have HLL := Lib.hid hl
        by_cases hii : i < i0
        · have HC := Lib.hid (between_any a b a3 n3 c d c3 la lb l w2 g1 g2 hI HO.out HO'.out hO3 false (by rw [← hl]; exact HQ0.out i hii))
          clear hl hI hO3
          go_wp2_with (go_at_call 75; refine HC.out.mono ?_; rintro e w9 ⟨rfl, rfl⟩)
          go_roundw
          case rel => first | exact ⟨i + 1, by omega, by go_num, by trivial⟩ | ((repeat apply Exists.intro); exact ⟨⟨i + 1, by omega, by go_num, by trivial⟩, rfl⟩)
          case measure => (simp [intOf] <;> omega)
        · obtain rfl : i = i0 := by omega
          have HC := Lib.hid (between_any a b a3 n3 c d c3 la lb l w2 g1 g2 hI HO.out HO'.out hO3 true (by rw [← hl]; exact HP0.out))
          have F : Hid (fstE la lb = l) := Lib.hid (by unfold fstE; rw [if_pos HE.out, HL.out, ← HX0.out, hl])
          clear hl
          go_wp2_with (go_at_call 75; refine HC.out.mono ?_; rintro e w9 ⟨rfl, rfl⟩)
          go_ret2
          exact LP.good HE.out (by rw [F.out]; exact hI) k2
  · obtain ⟨e0, he0⟩ : ∃ e0, bothE la lb = e0 := ⟨_, rfl⟩
    have e1 : (e0 != 0) = true := by rw [← he0]; simpa using he
    have e2 : (e0 == 0) = false := by rw [← he0]; simpa using he
    have HZ : Hid (fstE la lb = []) := Lib.hid (by unfold fstE; rw [if_neg he])
    have HE := Lib.hid he0
    clear he he0
    go_enter Try.func32, Try.ntmps32
    go_wp2_with fail
    refine (rboth_any a b n m0 c d la lb w h h').mono ?_
    rintro e w1 ⟨rfl, b1⟩
    rw [HE.out]
    go_wp2
    go_ret2
    exact LP.bad HE.out HZ.out b1
end Go.Proofs.Ytmcckngodaeojaa
namespace Go.Proofs.Ytmcckngodaeojaa
open Go.RowKit Grade03

set_option maxHeartbeats 4000000 in
set_option maxRecDepth 100000 in
theorem rJoin_any (a b : Option Addr) (n m0 c d : Nat) (la lb : List Int) (w : World) (h : IsL w a n c la) (h' : IsL w b m0 d lb) :
    Calls Try.prog 34 #[.slice a n c, .slice b m0 d] w (LP (bothE la lb) (joinE la lb) w) := by
  by_cases he : bothE la lb = 0
  · obtain ⟨hc1, hc2, hlen⟩ := bothE_zero.1 he
    obtain ⟨hO, hn1, hn7⟩ := chkE_zero.1 hc1
    obtain ⟨hO', _, _⟩ := chkE_zero.1 hc2
    have hl := h.len
    have hl' := h'.len
    obtain rfl : m0 = n := by omega
    rw [hl] at hn1 hn7
    have HL := Lib.hid hl
    have HLE := Lib.hid hlen
    have HO := Lib.hid hO
    have HO' := Lib.hid hO'
    have HE := Lib.hid he
    clear he hc1 hc2 hlen hO hO' hl hl'
    go_enter Try.func34, Try.ntmps34
    go_wp2_with fail
    refine (rboth_any a b m0 m0 c d la lb w h h').mono ?_
    rintro e w1 ⟨rfl, b1⟩
    rw [HE.out]
    go_wp2_with fail
    refine (all_any m0 m0 0 [] none 0 w1 (IsL.nilL _) (by omega) hn1 hn7).mono ?_
    rintro e w2 ⟨aA, r, cA, rfl, hA, b2⟩
    have k2 := b1.trans (b2.mono b1.size)
    have g1 := h.below k2
    have g2 := h'.below k2
    have HR : Hid ((allO m0 m0 []).length = r) := Lib.hid hA.len
    have HA := Lib.hid hA
    have HALL : Hid (∀ i, i < r → IsO ((allO m0 m0 []).getD i []) ∧ ((allO m0 m0 []).getD i []).length = m0) := Lib.hid (fun i hi => allO_getD (by rw [HR.out]; exact hi))
    have HRB : Hid (r ≤ 823543) := Lib.hid (by
      rw [← HR.out]
      have h1 := allO_len m0 m0 []
      have h2 : m0 ^ m0 ≤ 7 ^ m0 := Nat.pow_le_pow_left hn7 m0
      have h3 : (7 : Nat) ^ m0 ≤ 7 ^ 7 := Nat.pow_le_pow_right (by omega) hn7
      have h4 : (7 : Nat) ^ 7 = 823543 := by decide
      omega)
    clear hA b1 b2
    have HB : Hid (bestF (abvB la lb) trn (allO m0 m0 []) none = some (joinO la lb)) := Lib.hid (by
      have := best_join HO.out HO'.out HLE.out
      rw [HL.out] at this
      exact this)
    go_wp2_with fail
    go_loopw [9, 7] (fun vi vo wr => ∃ (i : Nat) (o : Option (List Int)), i ≤ r ∧ vi = .int .i64 (i : Int) ∧ Hid (OptL w2 vo o) ∧ Hid (bestF (abvB la lb) trn ((allO m0 m0 []).drop i) o = some (joinO la lb)) ∧ w2 = wr) (fun vi _ _ => r - (intOf vi).toNat)
    case atStart => exact ⟨0, none, by omega, rfl, Lib.hid (.inl ⟨rfl, rfl⟩), Lib.hid (by rw [List.drop_zero]; exact HB.out), rfl⟩
    case round =>
      rename_i vo _
      obtain ⟨i, o, hi, rfl, hV, hF, rfl⟩ := hrel
      have hrb := HRB.out
      by_cases hlt : i < r
      · skip
        obtain ⟨g, a3, n3, c3, rfl, y1, hI⟩ := HA.out.get hlt
        obtain ⟨hO3, hl3⟩ := HALL.out i hlt
        obtain rfl : n3 = m0 := by rw [← hI.len]; exact hl3
        have q1 : (i : Int) < (r : Int) := by omega
        obtain ⟨l, hl⟩ : ∃ l, (allO n3 n3 []).getD i [] = l := ⟨_, rfl⟩
        rw [hl] at hI hO3
        have HLL := Lib.hid hl
        have hS := bestF_drop (P := abvB la lb) (t := trn) (L := allO n3 n3 []) (i := i) (by rw [HR.out]; exact hlt) o
        rw [hF.out, hl] at hS
        obtain ⟨B, hB⟩ : ∃ B, abvB la lb l = B := ⟨_, rfl⟩
        have HC := Lib.hid (above_any a b a3 n3 c d c3 la lb l w2 g1 g2 hI HO.out HO'.out hO3 B hB)
        rw [hB] at hS
        have HI := Lib.hid hI
        have HO3 := Lib.hid hO3
        clear hl hB hI hO3
        cases B with
        | false =>
          have HS : Hid (bestF (abvB la lb) trn ((allO n3 n3 []).drop (i + 1)) o = some (joinO la lb)) := Lib.hid (by rw [hS]; simp)
          clear hS
          go_wp2_with (first | (go_at_call 79; (with_reducible refine HC.out.mono ?_); rintro e w9 ⟨rfl, rfl⟩))
          go_roundw
          case rel => first | exact ⟨i + 1, o, by omega, by go_num, hV, HS, by trivial⟩ | ((repeat apply Exists.intro); exact ⟨⟨i + 1, o, by omega, by go_num, hV, HS, by trivial⟩, rfl⟩)
          case measure => (simp [intOf] <;> omega)
        | true =>
          obtain ⟨b3, o3, ha3, _, _⟩ := HI.out.cells (by omega)
          have HN : Hid (OptL w2 (.slice (some ⟨b3, o3, none⟩) n3 c3) (some l)) := Lib.hid (.inr ⟨b3, o3, n3, c3, l, rfl, rfl, by rw [← ha3]; exact HI.out, HO3.out, hn7⟩)
          subst ha3
          rcases hV.out with ⟨rfl, rfl⟩ | ⟨b4, o4, n4, c4, x, rfl, rfl, hI4, hO4, hn4⟩
          · have HS : Hid (bestF (abvB la lb) trn ((allO n3 n3 []).drop (i + 1)) (some l) = some (joinO la lb)) := Lib.hid (by rw [hS]; simp [ltO])
            have e5 := eq_nil
            clear hS hV
            go_wp2_with (first | (go_at_call 79; (with_reducible refine HC.out.mono ?_); rintro e w9 ⟨rfl, rfl⟩))
            go_roundw
            case rel => first | exact ⟨i + 1, some l, by omega, by go_num, HN, HS, by trivial⟩ | ((repeat apply Exists.intro); exact ⟨⟨i + 1, some l, by omega, by go_num, HN, HS, by trivial⟩, rfl⟩)
            case measure => (simp [intOf] <;> omega)
          · have e5 := neq_nil b4 o4 n4 c4
            have HT1 := Lib.hid (turns_any (some ⟨b3, o3, none⟩) n3 c3 l w2 HI.out HO3.out hn7)
            have HT2 := Lib.hid (turns_any (some ⟨b4, o4, none⟩) n4 c4 x w2 hI4 hO4 hn4)
            have HCM : Hid (ltO trn l (some x) = decide (trn l < trn x)) := Lib.hid (by first | rfl | (simp only [ltO]; exact decide_eq_decide.2 (by omega)))
            obtain ⟨t1, ht1⟩ : ∃ t1, trn l = t1 := ⟨_, rfl⟩
            obtain ⟨t2, ht2⟩ : ∃ t2, trn x = t2 := ⟨_, rfl⟩
            rw [ht1] at HT1 HCM
            rw [ht2] at HT2 HCM
            obtain ⟨B2, hB2⟩ : ∃ B2, decide (t1 < t2) = B2 := ⟨_, rfl⟩
            rw [hB2] at HCM
            rw [HCM.out] at hS
            clear ht1 ht2
            cases B2 with
            | true =>
              have HS : Hid (bestF (abvB la lb) trn ((allO n3 n3 []).drop (i + 1)) (some l) = some (joinO la lb)) := Lib.hid (by rw [hS]; simp)
              clear hS hV
              go_wp2_with (first | (go_at_call 79; (with_reducible refine HC.out.mono ?_); rintro e w9 ⟨rfl, rfl⟩) | (go_at_call 80; (with_reducible refine HT1.out.mono ?_); rintro e w9 ⟨rfl, rfl⟩) | (go_at_call 80; (with_reducible refine HT2.out.mono ?_); rintro e w9 ⟨rfl, rfl⟩))
              go_roundw
              case rel => first | exact ⟨i + 1, some l, by omega, by go_num, HN, HS, by trivial⟩ | ((repeat apply Exists.intro); exact ⟨⟨i + 1, some l, by omega, by go_num, HN, HS, by trivial⟩, rfl⟩)
              case measure => (simp [intOf] <;> omega)
            | false =>
              have HS : Hid (bestF (abvB la lb) trn ((allO n3 n3 []).drop (i + 1)) (some x) = some (joinO la lb)) := Lib.hid (by rw [hS]; simp)
              clear hS
              go_wp2_with (first | (go_at_call 79; (with_reducible refine HC.out.mono ?_); rintro e w9 ⟨rfl, rfl⟩) | (go_at_call 80; (with_reducible refine HT1.out.mono ?_); rintro e w9 ⟨rfl, rfl⟩) | (go_at_call 80; (with_reducible refine HT2.out.mono ?_); rintro e w9 ⟨rfl, rfl⟩))
              go_roundw
              case rel => first | exact ⟨i + 1, some x, by omega, by go_num, hV, HS, by trivial⟩ | ((repeat apply Exists.intro); exact ⟨⟨i + 1, some x, by omega, by go_num, hV, HS, by trivial⟩, rfl⟩)
              case measure => (simp [intOf] <;> omega)
      · obtain rfl : i = r := by omega
        have hF2 := hF.out
        rw [List.drop_eq_nil_of_le (by rw [HR.out]; exact Nat.le_refl _), bestF] at hF2
        rcases hV.out with ⟨rfl, rfl⟩ | ⟨b4, o4, n4, c4, x, rfl, rfl, hI4, hO4, hn4⟩
        · cases hF2
        · have F : Hid (joinE la lb = x) := Lib.hid (by unfold joinE; rw [if_pos HE.out]; exact (Option.some.inj hF2).symm)
          clear hF2
          go_wp2_with fail
          go_ret2
          exact LP.good HE.out (by rw [F.out]; exact hI4) k2
  · obtain ⟨e0, he0⟩ : ∃ e0, bothE la lb = e0 := ⟨_, rfl⟩
    have e1 : (e0 != 0) = true := by rw [← he0]; simpa using he
    have e2 : (e0 == 0) = false := by rw [← he0]; simpa using he
    have HZ : Hid (joinE la lb = []) := Lib.hid (by unfold joinE; rw [if_neg he])
    have HE := Lib.hid he0
    clear he he0
    go_enter Try.func34, Try.ntmps34
    go_wp2_with fail
    refine (rboth_any a b n m0 c d la lb w h h').mono ?_
    rintro e w1 ⟨rfl, b1⟩
    rw [HE.out]
    go_wp2
    go_ret2
    exact LP.bad HE.out HZ.out b1
end Go.Proofs.Ytmcckngodaeojaa
namespace Go.Proofs.Ytmcckngodaeojaa
open Go.RowKit Grade03

set_option maxHeartbeats 4000000 in
set_option maxRecDepth 100000 in
theorem rMeet_any (a b : Option Addr) (n m0 c d : Nat) (la lb : List Int) (w : World) (h : IsL w a n c la) (h' : IsL w b m0 d lb) :
    Calls Try.prog 36 #[.slice a n c, .slice b m0 d] w (LP (bothE la lb) (meetE la lb) w) := by
  by_cases he : bothE la lb = 0
  · obtain ⟨hc1, hc2, hlen⟩ := bothE_zero.1 he
    obtain ⟨hO, hn1, hn7⟩ := chkE_zero.1 hc1
    obtain ⟨hO', _, _⟩ := chkE_zero.1 hc2
    have hl := h.len
    have hl' := h'.len
    obtain rfl : m0 = n := by omega
    rw [hl] at hn1 hn7
    have HL := Lib.hid hl
    have HLE := Lib.hid hlen
    have HO := Lib.hid hO
    have HO' := Lib.hid hO'
    have HE := Lib.hid he
    clear he hc1 hc2 hlen hO hO' hl hl'
    go_enter Try.func36, Try.ntmps36
    go_wp2_with fail
    refine (rboth_any a b m0 m0 c d la lb w h h').mono ?_
    rintro e w1 ⟨rfl, b1⟩
    rw [HE.out]
    go_wp2_with fail
    refine (all_any m0 m0 0 [] none 0 w1 (IsL.nilL _) (by omega) hn1 hn7).mono ?_
    rintro e w2 ⟨aA, r, cA, rfl, hA, b2⟩
    have k2 := b1.trans (b2.mono b1.size)
    have g1 := h.below k2
    have g2 := h'.below k2
    have HR : Hid ((allO m0 m0 []).length = r) := Lib.hid hA.len
    have HA := Lib.hid hA
    have HALL : Hid (∀ i, i < r → IsO ((allO m0 m0 []).getD i []) ∧ ((allO m0 m0 []).getD i []).length = m0) := Lib.hid (fun i hi => allO_getD (by rw [HR.out]; exact hi))
    have HRB : Hid (r ≤ 823543) := Lib.hid (by
      rw [← HR.out]
      have h1 := allO_len m0 m0 []
      have h2 : m0 ^ m0 ≤ 7 ^ m0 := Nat.pow_le_pow_left hn7 m0
      have h3 : (7 : Nat) ^ m0 ≤ 7 ^ 7 := Nat.pow_le_pow_right (by omega) hn7
      have h4 : (7 : Nat) ^ 7 = 823543 := by decide
      omega)
    clear hA b1 b2
    have HB : Hid (bestF (blwB la lb) (fun l => - trn l) (allO m0 m0 []) none = some (meetO la lb)) := Lib.hid (by
      have := best_meet HO.out HO'.out HLE.out
      rw [HL.out] at this
      exact this)
    go_wp2_with fail
    go_loopw [9, 7] (fun vi vo wr => ∃ (i : Nat) (o : Option (List Int)), i ≤ r ∧ vi = .int .i64 (i : Int) ∧ Hid (OptL w2 vo o) ∧ Hid (bestF (blwB la lb) (fun l => - trn l) ((allO m0 m0 []).drop i) o = some (meetO la lb)) ∧ w2 = wr) (fun vi _ _ => r - (intOf vi).toNat)
    case atStart => exact ⟨0, none, by omega, rfl, Lib.hid (.inl ⟨rfl, rfl⟩), Lib.hid (by rw [List.drop_zero]; exact HB.out), rfl⟩
    case round =>
      rename_i vo _
      obtain ⟨i, o, hi, rfl, hV, hF, rfl⟩ := hrel
      have hrb := HRB.out
      by_cases hlt : i < r
      · skip
        obtain ⟨g, a3, n3, c3, rfl, y1, hI⟩ := HA.out.get hlt
        obtain ⟨hO3, hl3⟩ := HALL.out i hlt
        obtain rfl : n3 = m0 := by rw [← hI.len]; exact hl3
        have q1 : (i : Int) < (r : Int) := by omega
        obtain ⟨l, hl⟩ : ∃ l, (allO n3 n3 []).getD i [] = l := ⟨_, rfl⟩
        rw [hl] at hI hO3
        have HLL := Lib.hid hl
        have hS := bestF_drop (P := blwB la lb) (t := (fun l => - trn l)) (L := allO n3 n3 []) (i := i) (by rw [HR.out]; exact hlt) o
        rw [hF.out, hl] at hS
        obtain ⟨B, hB⟩ : ∃ B, blwB la lb l = B := ⟨_, rfl⟩
        have HC := Lib.hid (below_any a b a3 n3 c d c3 la lb l w2 g1 g2 hI HO.out HO'.out hO3 B hB)
        rw [hB] at hS
        have HI := Lib.hid hI
        have HO3 := Lib.hid hO3
        clear hl hB hI hO3
        cases B with
        | false =>
          have HS : Hid (bestF (blwB la lb) (fun l => - trn l) ((allO n3 n3 []).drop (i + 1)) o = some (meetO la lb)) := Lib.hid (by rw [hS]; simp)
          clear hS
          go_wp2_with (first | (go_at_call 82; (with_reducible refine HC.out.mono ?_); rintro e w9 ⟨rfl, rfl⟩))
          go_roundw
          case rel => first | exact ⟨i + 1, o, by omega, by go_num, hV, HS, by trivial⟩ | ((repeat apply Exists.intro); exact ⟨⟨i + 1, o, by omega, by go_num, hV, HS, by trivial⟩, rfl⟩)
          case measure => (simp [intOf] <;> omega)
        | true =>
          obtain ⟨b3, o3, ha3, _, _⟩ := HI.out.cells (by omega)
          have HN : Hid (OptL w2 (.slice (some ⟨b3, o3, none⟩) n3 c3) (some l)) := Lib.hid (.inr ⟨b3, o3, n3, c3, l, rfl, rfl, by rw [← ha3]; exact HI.out, HO3.out, hn7⟩)
          subst ha3
          rcases hV.out with ⟨rfl, rfl⟩ | ⟨b4, o4, n4, c4, x, rfl, rfl, hI4, hO4, hn4⟩
          · have HS : Hid (bestF (blwB la lb) (fun l => - trn l) ((allO n3 n3 []).drop (i + 1)) (some l) = some (meetO la lb)) := Lib.hid (by rw [hS]; simp [ltO])
            have e5 := eq_nil
            clear hS hV
            go_wp2_with (first | (go_at_call 82; (with_reducible refine HC.out.mono ?_); rintro e w9 ⟨rfl, rfl⟩))
            go_roundw
            case rel => first | exact ⟨i + 1, some l, by omega, by go_num, HN, HS, by trivial⟩ | ((repeat apply Exists.intro); exact ⟨⟨i + 1, some l, by omega, by go_num, HN, HS, by trivial⟩, rfl⟩)
            case measure => (simp [intOf] <;> omega)
          · have e5 := neq_nil b4 o4 n4 c4
            have HT1 := Lib.hid (turns_any (some ⟨b3, o3, none⟩) n3 c3 l w2 HI.out HO3.out hn7)
            have HT2 := Lib.hid (turns_any (some ⟨b4, o4, none⟩) n4 c4 x w2 hI4 hO4 hn4)
            have HCM : Hid (ltO (fun l => - trn l) l (some x) = decide (trn x < trn l)) := Lib.hid (by first | rfl | (simp only [ltO]; exact decide_eq_decide.2 (by omega)))
            obtain ⟨t1, ht1⟩ : ∃ t1, trn l = t1 := ⟨_, rfl⟩
            obtain ⟨t2, ht2⟩ : ∃ t2, trn x = t2 := ⟨_, rfl⟩
            rw [ht1] at HT1 HCM
            rw [ht2] at HT2 HCM
            obtain ⟨B2, hB2⟩ : ∃ B2, decide (t2 < t1) = B2 := ⟨_, rfl⟩
            rw [hB2] at HCM
            rw [HCM.out] at hS
            clear ht1 ht2
            cases B2 with
            | true =>
              have HS : Hid (bestF (blwB la lb) (fun l => - trn l) ((allO n3 n3 []).drop (i + 1)) (some l) = some (meetO la lb)) := Lib.hid (by rw [hS]; simp)
              clear hS hV
              go_wp2_with (first | (go_at_call 82; (with_reducible refine HC.out.mono ?_); rintro e w9 ⟨rfl, rfl⟩) | (go_at_call 80; (with_reducible refine HT1.out.mono ?_); rintro e w9 ⟨rfl, rfl⟩) | (go_at_call 80; (with_reducible refine HT2.out.mono ?_); rintro e w9 ⟨rfl, rfl⟩))
              go_roundw
              case rel => first | exact ⟨i + 1, some l, by omega, by go_num, HN, HS, by trivial⟩ | ((repeat apply Exists.intro); exact ⟨⟨i + 1, some l, by omega, by go_num, HN, HS, by trivial⟩, rfl⟩)
              case measure => (simp [intOf] <;> omega)
            | false =>
              have HS : Hid (bestF (blwB la lb) (fun l => - trn l) ((allO n3 n3 []).drop (i + 1)) (some x) = some (meetO la lb)) := Lib.hid (by rw [hS]; simp)
              clear hS
              go_wp2_with (first | (go_at_call 82; (with_reducible refine HC.out.mono ?_); rintro e w9 ⟨rfl, rfl⟩) | (go_at_call 80; (with_reducible refine HT1.out.mono ?_); rintro e w9 ⟨rfl, rfl⟩) | (go_at_call 80; (with_reducible refine HT2.out.mono ?_); rintro e w9 ⟨rfl, rfl⟩))
              go_roundw
              case rel => first | exact ⟨i + 1, some x, by omega, by go_num, hV, HS, by trivial⟩ | ((repeat apply Exists.intro); exact ⟨⟨i + 1, some x, by omega, by go_num, hV, HS, by trivial⟩, rfl⟩)
              case measure => (simp [intOf] <;> omega)
      · obtain rfl : i = r := by omega
        have hF2 := hF.out
        rw [List.drop_eq_nil_of_le (by rw [HR.out]; exact Nat.le_refl _), bestF] at hF2
        rcases hV.out with ⟨rfl, rfl⟩ | ⟨b4, o4, n4, c4, x, rfl, rfl, hI4, hO4, hn4⟩
        · cases hF2
        · have F : Hid (meetE la lb = x) := Lib.hid (by unfold meetE; rw [if_pos HE.out]; exact (Option.some.inj hF2).symm)
          clear hF2
          go_wp2_with fail
          go_ret2
          exact LP.good HE.out (by rw [F.out]; exact hI4) k2
  · obtain ⟨e0, he0⟩ : ∃ e0, bothE la lb = e0 := ⟨_, rfl⟩
    have e1 : (e0 != 0) = true := by rw [← he0]; simpa using he
    have e2 : (e0 == 0) = false := by rw [← he0]; simpa using he
    have HZ : Hid (meetE la lb = []) := Lib.hid (by unfold meetE; rw [if_neg he])
    have HE := Lib.hid he0
    clear he he0
    go_enter Try.func36, Try.ntmps36
    go_wp2_with fail
    refine (rboth_any a b n m0 c d la lb w h h').mono ?_
    rintro e w1 ⟨rfl, b1⟩
    rw [HE.out]
    go_wp2
    go_ret2
    exact LP.bad HE.out HZ.out b1
end Go.Proofs.Ytmcckngodaeojaa
namespace Grade03
theorem back_idx {l : List Int} (h : IsO l) : ∃ i, i < (allO l.length l.length []).length ∧ shiftL ((allO l.length l.length []).getD i []) = l ∧ (allO l.length l.length []).getD i [] = backL l ∧ ∀ j, j < i → shiftL ((allO l.length l.length []).getD j []) ≠ l := by
  have hm : backL l ∈ allO l.length l.length [] := allO_mem.2 (back_ord h)
  have hs : ((allO l.length l.length []).find? fun x => decide (shiftL x = l)).isSome = true := by
    rw [List.find?_isSome]
    exact ⟨_, hm, by simpa using shift_back l⟩
  obtain ⟨x, hx⟩ := Option.isSome_iff_exists.1 hs
  obtain ⟨i, hi, h1, h2, h3⟩ := find_idx (d := []) hx
  have h4 : shiftL x = l := of_decide_eq_true h2
  refine ⟨i, hi, by rw [h1, h4], by rw [h1, ← h4, back_shift], fun j hj => of_decide_eq_false (h3 j hj)⟩
end Grade03
namespace Go.Proofs.Ytmcckngodaeojaa
open Go.RowKit Grade03
set_option maxHeartbeats 4000000 in
set_option maxRecDepth 100000 in
theorem rBack_any (a : Option Addr) (n c : Nat) (l : List Int) (w : World) (h : IsL w a n c l) :
    Calls Try.prog 46 #[.slice a n c] w (LP (chkE l) (backR l) w) := by
  obtain ⟨e0, he0⟩ : ∃ e0, chkE l = e0 := ⟨_, rfl⟩
  have H0 := Lib.hid he0
  by_cases hz : e0 = 0
  · subst hz
    obtain ⟨hO, hn1, hn7⟩ := chkE_zero.1 he0
    have hl := h.len
    rw [hl] at hn1 hn7
    have HO := Lib.hid hO
    obtain ⟨i0, hi0, hs0, hx0, hq0⟩ := back_idx hO
    rw [hl] at hi0 hs0 hx0 hq0
    have HS0 := Lib.hid hs0
    have HX0 := Lib.hid hx0
    have HQ0 := Lib.hid hq0
    clear hl he0 hO hs0 hx0 hq0
    go_enter Try.func46, Try.ntmps46
    go_wp2_with fail
    refine (rCheck_any _ _ _ _ _ h).mono ?_
    rintro e w1 ⟨rfl, b1⟩
    rw [H0.out]
    go_wp2_with fail
    refine (all_any n n 0 [] none 0 w1 (IsL.nilL _) (by omega) hn1 hn7).mono ?_
    rintro e w2 ⟨aA, r, cA, rfl, hA, b2⟩
    have k2 := b1.trans (b2.mono b1.size)
    have g1 := h.below k2
    have HR : Hid ((allO n n []).length = r) := Lib.hid hA.len
    have HA := Lib.hid hA
    have HALL : Hid (∀ i, i < r → IsO ((allO n n []).getD i []) ∧ ((allO n n []).getD i []).length = n) := Lib.hid (fun i hi => allO_getD (by rw [HR.out]; exact hi))
    have hrb : r ≤ 823543 := by
      rw [← HR.out]
      have h1 := allO_len n n []
      have h2 : n ^ n ≤ 7 ^ n := Nat.pow_le_pow_left hn7 n
      have h3 : (7 : Nat) ^ n ≤ 7 ^ 7 := Nat.pow_le_pow_right (by omega) hn7
      have h4 : (7 : Nat) ^ 7 = 823543 := by decide
      omega
    rw [HR.out] at hi0
    clear hA b1 b2
    go_wp2_with fail
    go_loopw [6] (fun vi wr => ∃ i : Nat, i ≤ i0 ∧ vi = .int .i64 (i : Int) ∧ Below w2.heap.size w2 wr) (fun vi _ => i0 - (intOf vi).toNat)
    case atStart => exact ⟨0, by omega, rfl, Below.refl _ _⟩
    case round =>
      obtain ⟨i, hi, rfl, hb⟩ := hrel
      have hlt : i < r := by omega
      obtain ⟨g, a3, n3, c3, rfl, y1, hI⟩ := (HA.out.below hb).get hlt
      obtain ⟨hO3, hl3⟩ := HALL.out i hlt
      obtain rfl : n3 = n := by rw [← hI.len]; exact hl3
      have q1 : (i : Int) < (r : Int) := by omega
      have hsz := hb.size
      obtain ⟨x, hx⟩ : ∃ x, (allO n3 n3 []).getD i [] = x := ⟨_, rfl⟩
      rw [hx] at hI hO3
      have HX := Lib.hid hx
      have HI := Lib.hid hI
      have HO3 := Lib.hid hO3
      have HC : Hid (Calls Try.prog 86 #[.slice a3 n3 c3] wr fun e w' => ∃ a' c', e = .returned (.slice a' n3 c') ∧ IsL w' a' n3 c' (shiftL x) ∧ Below wr.heap.size wr w') := Lib.hid (shift_any a3 n3 c3 x wr hI (by omega))
      clear hx hI hO3 hl3
      by_cases hii : i < i0
      · have hne : shiftL x ≠ l := by rw [← HX.out]; exact HQ0.out i hii
        have hd0 : dist (shiftL x) l ≠ 0 := fun e => hne ((dist_zero (shift_ord HO3.out).1 HO.out (by rw [(shift_ord HO3.out).2, ← HX.out, (HALL.out i hlt).2, g1.len])).1 e)
        obtain ⟨D, hD⟩ : ∃ D : Nat, dist (shiftL x) l = (D : Int) := ⟨(dist (shiftL x) l).toNat, by have := dist_nonneg (shiftL x) l; omega⟩
        have q2 : (0 : Int) < (D : Int) := by rw [hD] at hd0; omega
        have HD := Lib.hid hD
        clear hd0 hne hD
        go_wp2_with fail
        refine HC.out.mono ?_
        rintro e w3 ⟨a4, c4, rfl, hI4, b4⟩
        go_wp2_with fail
        refine (rdiffer_c a4 a n3 c4 c (shiftL x) l w3 hI4 ((g1.below hb).below b4) (shift_ord HO3.out).1 HO.out hn7 D HD.out).mono ?_
        rintro e w5 ⟨a5, c5, rfl, hD1, hD2, b5⟩
        have hb5 := hb.trans ((b4.trans (b5.mono b4.size)).mono hsz)
        go_wp2_with fail
        go_roundw
        case rel => first | exact ⟨i + 1, by omega, by go_num, hb5⟩ | ((repeat apply Exists.intro); exact ⟨⟨i + 1, by omega, by go_num, hb5⟩, rfl⟩)
        case measure => (simp [intOf] <;> omega)
      · obtain rfl : i = i0 := by omega
        have hD : dist (shiftL x) l = ((0 : Nat) : Int) := (dist_zero (shift_ord HO3.out).1 HO.out (by rw [(shift_ord HO3.out).2, ← HX.out, (HALL.out i hlt).2, g1.len])).2 (by rw [← HX.out]; exact HS0.out)
        have HD := Lib.hid hD
        have F : Hid (backR l = x) := Lib.hid (by rw [backR_ok H0.out, ← HX0.out, HX.out])
        clear hD
        go_wp2_with fail
        refine HC.out.mono ?_
        rintro e w3 ⟨a4, c4, rfl, hI4, b4⟩
        go_wp2_with fail
        refine (rdiffer_c a4 a n3 c4 c (shiftL x) l w3 hI4 ((g1.below hb).below b4) (shift_ord HO3.out).1 HO.out hn7 0 HD.out).mono ?_
        rintro e w5 ⟨a5, c5, rfl, hD1, hD2, b5⟩
        have k45 := b4.trans (b5.mono b4.size)
        have hb5 := hb.trans (k45.mono hsz)
        have hI5 := HI.out.below k45
        obtain ⟨g6, a6, n6, c6, he6, y6, _⟩ := (HA.out.below hb5).get hlt
        simp only [Option.some.injEq, Addr.mk.injEq] at he6
        obtain ⟨rfl, _⟩ := he6
        have hbg := World.block_lt_of_cell? wr _ y1
        have y7 := (k45.cell (p := ⟨g, i, none⟩) hbg).trans y1
        clear y6
        go_wp2_with fail
        go_ret2
        exact LP.good H0.out (by rw [F.out]; exact hI5) (k2.trans (hb5.mono k2.size))
  · have t1 : (e0 == 0) = false := by simpa using hz
    have t2 : (e0 != 0) = true := by simpa using hz
    have HZ := Lib.hid hz
    clear hz he0
    go_enter Try.func46, Try.ntmps46
    go_wp2_with fail
    refine (rCheck_any _ _ _ _ _ h).mono ?_
    rintro e w1 ⟨rfl, b1⟩
    rw [H0.out]
    go_wp2
    go_ret2
    exact LP.bad H0.out (backR_bad H0.out HZ.out) b1
set_option maxHeartbeats 8000000 in
set_option maxRecDepth 100000 in
theorem rCount_any (n t : Int) (w : World) : Calls Try.prog 48 #[.int .i64 n, .int .i64 t] w (NP (cntE n t) (cntR n t) w) := by
  by_cases a1 : 1 ≤ n ∧ n ≤ 7
  · obtain ⟨m, rfl⟩ : ∃ m : Nat, n = ((m + 1 : Nat) : Int) := ⟨(n - 1).toNat, by omega⟩
    have hm7 : m < 7 := by omega
    obtain ⟨n, hn⟩ : ∃ n, m + 1 = n := ⟨_, rfl⟩
    rw [hn] at a1 ⊢
    have w1 : IntKind.i64.wrap ((n : Int) - 1) = (m : Int) := by rw [show (n : Int) - 1 = (m : Int) by omega]; exact IntWalk.i64_in _ (by omega)
    obtain ⟨P, hP⟩ : ∃ P : Nat, n * m = P := ⟨_, rfl⟩
    have hP2 : (n : Int) * (m : Int) = (P : Int) := by rw [← hP, Int.natCast_mul]
    have hP42 : P ≤ 42 := by
      rw [← hP, ← hn]
      have : (m + 1) * m ≤ 7 * 6 := Nat.mul_le_mul (by omega) (by omega)
      omega
    have w2 : IntKind.i64.wrap ((n : Int) * (m : Int)) = (P : Int) := by rw [hP2]; exact IntWalk.i64_in _ (by omega)
    obtain ⟨T, hT⟩ : ∃ T : Nat, P / 2 = T := ⟨_, rfl⟩
    have w3 : (P : Int) / 2 = (T : Int) := by omega
    have w4 : wrap64 (T : Int) = (T : Int) := IntWalk.wrap64_in _ (by omega)
    have hlim : (n : Int) * ((n : Int) - 1) / 2 = (T : Int) := by rw [show (n : Int) - 1 = (m : Int) by omega, hP2]; omega
    have HA1 := Lib.hid a1
    by_cases a4 : 0 ≤ t ∧ t ≤ (T : Int)
    · have F : Hid (cntE n t = 0) := Lib.hid (cntE_ok (by rw [hlim]; omega))
      obtain ⟨t, rfl⟩ : ∃ t' : Nat, t = (t' : Int) := ⟨t.toNat, by omega⟩
      have F2 : Hid (cntR n t = (histT n t : Int)) := Lib.hid (by
        rw [cntR_ok F.out, ← hn, show m + 1 - 1 = m by omega, cnt_hist hm7]
        have : m * (m + 1) = P := by rw [← hP, ← hn, Nat.mul_comm]
        rw [this, hT]
        omega)
      have HA4 := Lib.hid a4
      have hn1 : 1 ≤ n := by omega
      have hn7 : n ≤ 7 := by omega
      clear a1 a4 hlim hT hP2 hP hn
      go_enter Try.func48, Try.ntmps48
      go_wp2_with fail
      refine (in_yes _ _ _ _ HA1.out.1 HA1.out.2).mono ?_
      rintro e w9 ⟨rfl, rfl⟩
      go_wp2_with fail
      refine (in_yes _ _ _ _ HA4.out.1 HA4.out.2).mono ?_
      rintro e w9 ⟨rfl, rfl⟩
      go_wp2_with fail
      refine (all_any n n 0 [] none 0 w (IsL.nilL _) (by omega) hn1 hn7).mono ?_
      rintro e wA ⟨aA, r, cA, rfl, hA, b2⟩
      have HR : Hid ((allO n n []).length = r) := Lib.hid hA.len
      have HA := Lib.hid hA
      have HALL : Hid (∀ i, i < r → IsO ((allO n n []).getD i []) ∧ ((allO n n []).getD i []).length = n) := Lib.hid (fun i hi => allO_getD (by rw [HR.out]; exact hi))
      have hrb : r ≤ 823543 := by
        rw [← HR.out]
        have h1 := allO_len n n []
        have h2 : n ^ n ≤ 7 ^ n := Nat.pow_le_pow_left hn7 n
        have h3 : (7 : Nat) ^ n ≤ 7 ^ 7 := Nat.pow_le_pow_right (by omega) hn7
        have h4 : (7 : Nat) ^ 7 = 823543 := by decide
        omega
      clear hA
      go_wp2_with fail
      go_loopw [8, 6] (fun vi vn wr => ∃ i k : Nat, i ≤ r ∧ k ≤ i ∧ vi = .int .i64 (i : Int) ∧ vn = .int .i64 (k : Int) ∧ Hid (((allO n n []).take i).countP (fun l => invG l == (t : Int)) = k) ∧ wA = wr) (fun vi _ _ => r - (intOf vi).toNat)
      case atStart => exact ⟨0, 0, by omega, by omega, rfl, rfl, Lib.hid (by simp), rfl⟩
      case round =>
        obtain ⟨i, k, hi, hki, rfl, rfl, hK, rfl⟩ := hrel
        by_cases hlt : i < r
        · obtain ⟨g, a3, n3, c3, rfl, y1, hI⟩ := HA.out.get hlt
          obtain ⟨hO3, hl3⟩ := HALL.out i hlt
          obtain rfl : n3 = n := by rw [← hI.len]; exact hl3
          have q1 : (i : Int) < (r : Int) := by omega
          have HS : Hid (((allO n3 n3 []).take (i + 1)).countP (fun l => invG l == (t : Int)) = k + if trn ((allO n3 n3 []).getD i []) = (t : Int) then 1 else 0) := Lib.hid (by
            rw [countP_take_succ _ _ [] i (by rw [HR.out]; exact hlt), hK.out, ← trn_inv hO3]
            by_cases e : trn ((allO n3 n3 []).getD i []) = (t : Int) <;> simp [e])
          obtain ⟨x, hx⟩ : ∃ x, (allO n3 n3 []).getD i [] = x := ⟨_, rfl⟩
          rw [hx] at hI hO3 HS
          have HC := Lib.hid (turns_any a3 n3 c3 x wA hI hO3 hn7)
          obtain ⟨z, hz⟩ : ∃ z, trn x = z := ⟨_, rfl⟩
          rw [hz] at HC HS
          clear hx hI hO3 hl3 hz
          by_cases e : z = (t : Int)
          · rw [if_pos e] at HS
            have e1 : (z == (t : Int)) = true := by simpa using e
            clear e
            go_wp2_with (go_at_call 80; refine HC.out.mono ?_; rintro e w9 ⟨rfl, rfl⟩)
            go_roundw
            case rel => first | exact ⟨i + 1, k + 1, by omega, by omega, by go_num, by go_num, HS, by trivial⟩ | ((repeat apply Exists.intro); exact ⟨⟨i + 1, k + 1, by omega, by omega, by go_num, by go_num, HS, by trivial⟩, rfl⟩)
            case measure => (simp [intOf] <;> omega)
          · rw [if_neg e] at HS
            have e1 : (z == (t : Int)) = false := by simpa using e
            clear e
            go_wp2_with (go_at_call 80; refine HC.out.mono ?_; rintro e w9 ⟨rfl, rfl⟩)
            go_roundw
            case rel => first | exact ⟨i + 1, k, by omega, by omega, by go_num, rfl, HS, by trivial⟩ | ((repeat apply Exists.intro); exact ⟨⟨i + 1, k, by omega, by omega, by go_num, rfl, HS, by trivial⟩, rfl⟩)
            case measure => (simp [intOf] <;> omega)
        · obtain rfl : i = r := by omega
          have F3 : Hid (cntR n t = (k : Int)) := Lib.hid (by
            rw [F2.out, ← hK.out, histT, ← HR.out, List.take_length])
          go_wp2_with fail
          go_ret2
          exact NP.is F.out F3.out b2
    · have F : Hid (cntE n t = 1) := Lib.hid (cntE_bad (by rw [hlim]; omega))
      have HA4 := Lib.hid a4
      clear a1 a4 hlim hT hP2 hP hn
      go_enter Try.func48, Try.ntmps48
      go_wp2_with fail
      refine (in_yes _ _ _ _ HA1.out.1 HA1.out.2).mono ?_
      rintro e w9 ⟨rfl, rfl⟩
      go_wp2_with fail
      refine (in_no _ _ _ _ HA4.out).mono ?_
      rintro e w9 ⟨rfl, rfl⟩
      go_wp2_with fail
      go_ret2
      exact NP.is F.out (cntR_bad F.out) (Below.refl _ _)
  · have F : Hid (cntE n t = 1) := Lib.hid (cntE_bad (by omega))
    have HA1 := Lib.hid a1
    clear a1
    go_enter Try.func48, Try.ntmps48
    go_wp2_with fail
    refine (in_no _ _ _ _ HA1.out).mono ?_
    rintro e w9 ⟨rfl, rfl⟩
    go_wp2_with fail
    go_ret2
    exact NP.is F.out (cntR_bad F.out) (Below.refl _ _)
end Go.Proofs.Ytmcckngodaeojaa
