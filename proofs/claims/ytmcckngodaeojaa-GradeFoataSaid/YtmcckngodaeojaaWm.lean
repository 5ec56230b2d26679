/- Walks of chapter 3: is an order between two others, the reference. -/
import Derived.Test.YtmcckngodaeojaaWj
import Derived.Test.YtmcckngodaeojaaPa
namespace Grade03
/-- what comes before what in two orders -/
def btwR (a b : List Int) (x y : Nat) : Prop := bef a x y ∧ bef b x y
instance (a b : List Int) : DecidableRel (btwR a b) := fun x y => inferInstanceAs (Decidable (_ ∧ _))
end Grade03
namespace Go.Proofs.Ytmcckngodaeojaa
open Go.RowKit Grade03

set_option maxHeartbeats 4000000 in
set_option maxRecDepth 100000 in
theorem between_any (a b x : Option Addr) (n c d f : Nat) (la lb lx : List Int) (w : World) (h : IsL w a n c la) (h' : IsL w b n d lb) (h2 : IsL w x n f lx) (hO : IsO la) (hO' : IsO lb) (hO2 : IsO lx) (R : Bool) (hR : decide (Lin n (btwR la lb) lx) = R) :
    Calls Try.prog 75 #[.slice a n c, .slice b n d, .slice x n f] w fun e w' => e = .returned (.bool R) ∧ w = w' := by
  have hcap := h.cap
  have hle := h.le
  have HR := Lib.hid hR
  have HC1 : Hid (∀ p q, p < n → q < n → p ≠ q → ∀ B, decide (bef la p q) = B → Calls Try.prog 95 #[.slice a n c, .int .i64 (p : Int), .int .i64 (q : Int)] w fun e w' => e = .returned (.bool B) ∧ w = w') := Lib.hid (fun p q hp hq hpq B hB => earlier_any a n c la p q w h hO hp hq hpq B hB)
  have HC2 : Hid (∀ p q, p < n → q < n → p ≠ q → ∀ B, decide (bef lb p q) = B → Calls Try.prog 95 #[.slice b n d, .int .i64 (p : Int), .int .i64 (q : Int)] w fun e w' => e = .returned (.bool B) ∧ w = w') := Lib.hid (fun p q hp hq hpq B hB => earlier_any b n d lb p q w h' hO' hp hq hpq B hB)
  have HC3 : Hid (∀ p q, p < n → q < n → p ≠ q → ∀ B, decide (bef lx p q) = B → Calls Try.prog 95 #[.slice x n f, .int .i64 (p : Int), .int .i64 (q : Int)] w fun e w' => e = .returned (.bool B) ∧ w = w') := Lib.hid (fun p q hp hq hpq B hB => earlier_any x n f lx p q w h2 hO2 hp hq hpq B hB)
  clear hR h h' h2 hO hO' hO2
  go_enter Try.func75, Try.ntmps75
  go_wp2_with fail
  go_loopw [7] (fun vp wr => ∃ p : Nat, p ≤ n ∧ vp = .int .i64 (p : Int) ∧ Hid (∀ x, x < p → ∀ y, y < n → btwR la lb x y → bef lx x y) ∧ w = wr) (fun vp _ => n - (intOf vp).toNat)
  case atStart => exact ⟨0, by omega, rfl, Lib.hid (fun x hx => by omega), rfl⟩
  case round =>
    obtain ⟨p, hp, rfl, hP, rfl⟩ := hrel
    by_cases hlt : p < n
    · have q0 : (p : Int) < (n : Int) := by omega
      go_wp2_with fail
      go_loopw [8] (fun vq wr => ∃ q : Nat, q ≤ n ∧ vq = .int .i64 (q : Int) ∧ Hid (∀ y, y < q → btwR la lb p y → bef lx p y) ∧ w = wr) (fun vq _ => n - (intOf vq).toNat)
      case atStart => exact ⟨0, by omega, rfl, Lib.hid (fun x hx => by omega), rfl⟩
      case round =>
        obtain ⟨q, hq, rfl, hQ, rfl⟩ := hrel
        by_cases hqn : q < n
        · have q1 : (q : Int) < (n : Int) := by omega
          have HS : Hid ((btwR la lb p q → bef lx p q) → ∀ y, y < q + 1 → btwR la lb p y → bef lx p y) := Lib.hid (fun hg y hy hr => by
            by_cases e : y = q
            · rw [e] at hr ⊢; exact hg hr
            · exact hQ.out y (by omega) hr)
          by_cases hpq : p = q
          · have e1 : ((p : Int) != (q : Int)) = false := by simp; omega
            have HN := Lib.hid (HS.out (fun hr => by rw [hpq] at hr; exact absurd hr.1 (bef_irrefl la q)))
            clear hpq
            go_wp2_with fail
            go_roundw
            case rel => first | exact ⟨q + 1, by omega, by go_num, HN, by trivial⟩ | ((repeat apply Exists.intro); exact ⟨⟨q + 1, by omega, by go_num, HN, by trivial⟩, rfl⟩)
            case measure => (simp [intOf] <;> omega)
          · have e1 : ((p : Int) != (q : Int)) = true := by simp; omega
            obtain ⟨B1, hB1⟩ : ∃ B, decide (bef la p q) = B := ⟨_, rfl⟩
            obtain ⟨B2, hB2⟩ : ∃ B, decide (bef lb p q) = B := ⟨_, rfl⟩
            obtain ⟨B3, hB3⟩ : ∃ B, decide (bef lx p q) = B := ⟨_, rfl⟩
            have K1 := Lib.hid (HC1.out p q hlt hqn hpq B1 hB1)
            have K2 := Lib.hid (HC2.out p q hlt hqn hpq B2 hB2)
            have K3 := Lib.hid (HC3.out p q hlt hqn hpq B3 hB3)
            have G1 := Lib.hid hB1
            have G2 := Lib.hid hB2
            have G3 := Lib.hid hB3
            clear hB1 hB2 hB3 hpq
            cases B1 with
            | false =>
              have HN := Lib.hid (HS.out (fun hr => absurd hr.1 (of_decide_eq_false G1.out)))
              go_wp2_with (go_at_call 95; (with_reducible refine K1.out.mono ?_); rintro e w9 ⟨rfl, rfl⟩)
              go_roundw
              case rel => first | exact ⟨q + 1, by omega, by go_num, HN, by trivial⟩ | ((repeat apply Exists.intro); exact ⟨⟨q + 1, by omega, by go_num, HN, by trivial⟩, rfl⟩)
              case measure => (simp [intOf] <;> omega)
            | true =>
              cases B2 with
              | false =>
                have HN := Lib.hid (HS.out (fun hr => absurd hr.2 (of_decide_eq_false G2.out)))
                go_wp2_with (first
                  | (go_at_call 95; (with_reducible refine K1.out.mono ?_); rintro e w9 ⟨rfl, rfl⟩)
                  | (go_at_call 95; (with_reducible refine K2.out.mono ?_); rintro e w9 ⟨rfl, rfl⟩))
                go_roundw
                case rel => first | exact ⟨q + 1, by omega, by go_num, HN, by trivial⟩ | ((repeat apply Exists.intro); exact ⟨⟨q + 1, by omega, by go_num, HN, by trivial⟩, rfl⟩)
                case measure => (simp [intOf] <;> omega)
              | true =>
                cases B3 with
                | true =>
                  have HN := Lib.hid (HS.out (fun _ => of_decide_eq_true G3.out))
                  go_wp2_with (first
                    | (go_at_call 95; (with_reducible refine K1.out.mono ?_); rintro e w9 ⟨rfl, rfl⟩)
                    | (go_at_call 95; (with_reducible refine K2.out.mono ?_); rintro e w9 ⟨rfl, rfl⟩)
                    | (go_at_call 95; (with_reducible refine K3.out.mono ?_); rintro e w9 ⟨rfl, rfl⟩))
                  go_roundw
                  case rel => first | exact ⟨q + 1, by omega, by go_num, HN, by trivial⟩ | ((repeat apply Exists.intro); exact ⟨⟨q + 1, by omega, by go_num, HN, by trivial⟩, rfl⟩)
                  case measure => (simp [intOf] <;> omega)
                | false =>
                  have F : Hid (R = false) := Lib.hid (by
                    rw [← HR.out, decide_eq_false_iff_not]
                    exact fun hL => of_decide_eq_false G3.out (hL p hlt q hqn ⟨of_decide_eq_true G1.out, of_decide_eq_true G2.out⟩))
                  go_wp2_with (first
                    | (go_at_call 95; (with_reducible refine K1.out.mono ?_); rintro e w9 ⟨rfl, rfl⟩)
                    | (go_at_call 95; (with_reducible refine K2.out.mono ?_); rintro e w9 ⟨rfl, rfl⟩)
                    | (go_at_call 95; (with_reducible refine K3.out.mono ?_); rintro e w9 ⟨rfl, rfl⟩))
                  go_ret
                  exact ⟨by rw [F.out]; rfl, rfl⟩
        · obtain rfl : q = n := by omega
          have HN : Hid (∀ x, x < p + 1 → ∀ y, y < q → btwR la lb x y → bef lx x y) := Lib.hid (fun x hx y hy hr => by
            by_cases e : x = p
            · rw [e] at hr ⊢; exact hQ.out y hy hr
            · exact hP.out x (by omega) y hy hr)
          go_wp2
          go_roundw
          case rel => first | exact ⟨p + 1, by omega, by go_num, HN, by trivial⟩ | ((repeat apply Exists.intro); exact ⟨⟨p + 1, by omega, by go_num, HN, by trivial⟩, rfl⟩)
          case measure => (simp [intOf] <;> omega)
    · obtain rfl : p = n := by omega
      have F : Hid (R = true) := Lib.hid (by rw [← HR.out, decide_eq_true_iff]; exact fun x hx y hy hr => hP.out x hx y hy hr)
      go_wp2
      go_ret
      exact ⟨by rw [F.out]; rfl, rfl⟩
end Go.Proofs.Ytmcckngodaeojaa
namespace Go.Proofs.Ytmcckngodaeojaa
open Go.RowKit Grade03

def btwE (a b x : List Int) : Bool := if threeE a b x = 0 then decide (Lin a.length (btwR a b) x) else false
def BetP (la lb lx : List Int) (w : World) (e : Ending) (w' : World) : Prop := e = .returned (.tuple #[.bool (btwE la lb lx), .int .i64 (threeE la lb lx)]) ∧ Below w.heap.size w w'
theorem BetP.bad {la lb lx : List Int} {w w' : World} {e0 : Int} (h : threeE la lb lx = e0) (h0 : e0 ≠ 0) (hb : Below w.heap.size w w') : BetP la lb lx w (.returned (.tuple #[.bool false, .int .i64 e0])) w' := ⟨by unfold btwE; rw [h, if_neg h0], hb⟩
theorem BetP.good {la lb lx : List Int} {w w' : World} {R : Bool} (h : threeE la lb lx = 0) (hR : decide (Lin la.length (btwR la lb) lx) = R) (hb : Below w.heap.size w w') : BetP la lb lx w (.returned (.tuple #[.bool R, .int .i64 0])) w' := ⟨by unfold btwE; rw [if_pos h, h, hR], hb⟩
set_option maxHeartbeats 4000000 in
set_option maxRecDepth 100000 in
theorem rBetween_any (a b x : Option Addr) (n m k c d f : Nat) (la lb lx : List Int) (w : World) (h : IsL w a n c la) (h' : IsL w b m d lb) (h2 : IsL w x k f lx) :
    Calls Try.prog 28 #[.slice a n c, .slice b m d, .slice x k f] w (BetP la lb lx w) := by
  have hl := h.len
  have hl' := h'.len
  have hl2 := h2.len
  obtain ⟨e0, he0⟩ : ∃ e0, chkE la = e0 := ⟨_, rfl⟩
  obtain ⟨e1, he1⟩ : ∃ e1, chkE lb = e1 := ⟨_, rfl⟩
  obtain ⟨e2, he2⟩ : ∃ e2, chkE lx = e2 := ⟨_, rfl⟩
  have hbe : threeE la lb lx = if e0 ≠ 0 then e0 else if e1 ≠ 0 then e1 else if e2 ≠ 0 then e2 else if n ≠ m ∨ n ≠ k then 5 else 0 := by unfold threeE; rw [he0, he1, he2, hl, hl', hl2]
  have HBE := Lib.hid hbe
  have H0 := Lib.hid he0
  have H1 := Lib.hid he1
  have H2 := Lib.hid he2
  have HL := Lib.hid hl
  clear hl hl' hl2 he0 he1 he2 hbe
  by_cases hz0 : e0 = 0
  · subst hz0
    by_cases hz1 : e1 = 0
    · subst hz1
      by_cases hz2 : e2 = 0
      · subst hz2
        by_cases hnm : n = m
        · subst hnm
          by_cases hnk : n = k
          · subst hnk
            have HR : Hid (threeE la lb lx = 0) := Lib.hid (by rw [HBE.out]; simp)
            obtain ⟨R, hR⟩ : ∃ R, decide (Lin n (btwR la lb) lx) = R := ⟨_, rfl⟩
            have HL2 : Hid (decide (Lin la.length (btwR la lb) lx) = R) := Lib.hid (by rw [HL.out]; exact hR)
            have HC : Hid (∀ w9, Below w.heap.size w w9 → Calls Try.prog 75 #[.slice a n c, .slice b n d, .slice x n f] w9 fun e w' => e = .returned (.bool R) ∧ w9 = w') := Lib.hid (fun w9 hb => between_any a b x n c d f la lb lx w9 (h.below hb) (h'.below hb) (h2.below hb) (chkE_zero.1 H0.out).1 (chkE_zero.1 H1.out).1 (chkE_zero.1 H2.out).1 R hR)
            have t3 : ((n : Int) != (n : Int)) = false := by simp
            clear hR
            go_enter Try.func28, Try.ntmps28
            go_wp2_with fail
            refine (rCheck_any _ _ _ _ _ h).mono ?_
            rintro e w1 ⟨rfl, b1⟩
            rw [H0.out]
            go_wp2_with fail
            refine (rCheck_any _ _ _ _ _ (h'.below b1)).mono ?_
            rintro e w2 ⟨rfl, b2⟩
            rw [H1.out]
            have k2 := b1.trans (b2.mono b1.size)
            go_wp2_with fail
            refine (rCheck_any _ _ _ _ _ (h2.below k2)).mono ?_
            rintro e w3 ⟨rfl, b3⟩
            rw [H2.out]
            have k3 := k2.trans (b3.mono k2.size)
            go_wp2_with fail
            refine (HC.out _ k3).mono ?_
            rintro e w4 ⟨rfl, rfl⟩
            go_wp2
            go_ret2
            exact BetP.good HR.out HL2.out k3
          · have HR : Hid (threeE la lb lx = 5) := Lib.hid (by rw [HBE.out]; simp [hnk])
            have t3 : ((n : Int) != (n : Int)) = false := by simp
            have t4 : ((n : Int) != (k : Int)) = true := by simp; omega
            clear hnk
            go_enter Try.func28, Try.ntmps28
            go_wp2_with fail
            refine (rCheck_any _ _ _ _ _ h).mono ?_
            rintro e w1 ⟨rfl, b1⟩
            rw [H0.out]
            go_wp2_with fail
            refine (rCheck_any _ _ _ _ _ (h'.below b1)).mono ?_
            rintro e w2 ⟨rfl, b2⟩
            rw [H1.out]
            have k2 := b1.trans (b2.mono b1.size)
            go_wp2_with fail
            refine (rCheck_any _ _ _ _ _ (h2.below k2)).mono ?_
            rintro e w3 ⟨rfl, b3⟩
            rw [H2.out]
            have k3 := k2.trans (b3.mono k2.size)
            go_wp2
            go_ret2
            exact BetP.bad HR.out (by decide) k3
        · have HR : Hid (threeE la lb lx = 5) := Lib.hid (by rw [HBE.out]; simp [hnm])
          have t3 : ((n : Int) != (m : Int)) = true := by simp; omega
          clear hnm
          go_enter Try.func28, Try.ntmps28
          go_wp2_with fail
          refine (rCheck_any _ _ _ _ _ h).mono ?_
          rintro e w1 ⟨rfl, b1⟩
          rw [H0.out]
          go_wp2_with fail
          refine (rCheck_any _ _ _ _ _ (h'.below b1)).mono ?_
          rintro e w2 ⟨rfl, b2⟩
          rw [H1.out]
          have k2 := b1.trans (b2.mono b1.size)
          go_wp2_with fail
          refine (rCheck_any _ _ _ _ _ (h2.below k2)).mono ?_
          rintro e w3 ⟨rfl, b3⟩
          rw [H2.out]
          have k3 := k2.trans (b3.mono k2.size)
          go_wp2
          go_ret2
          exact BetP.bad HR.out (by decide) k3
      · have HR : Hid (threeE la lb lx = e2) := Lib.hid (by rw [HBE.out, if_neg (by simp), if_neg (by simp), if_pos hz2])
        have t1 : (e2 == 0) = false := by simpa using hz2
        have t2 : (e2 != 0) = true := by simpa using hz2
        have HZ := Lib.hid hz2
        clear hz2
        go_enter Try.func28, Try.ntmps28
        go_wp2_with fail
        refine (rCheck_any _ _ _ _ _ h).mono ?_
        rintro e w1 ⟨rfl, b1⟩
        rw [H0.out]
        go_wp2_with fail
        refine (rCheck_any _ _ _ _ _ (h'.below b1)).mono ?_
        rintro e w2 ⟨rfl, b2⟩
        rw [H1.out]
        have k2 := b1.trans (b2.mono b1.size)
        go_wp2_with fail
        refine (rCheck_any _ _ _ _ _ (h2.below k2)).mono ?_
        rintro e w3 ⟨rfl, b3⟩
        rw [H2.out]
        have k3 := k2.trans (b3.mono k2.size)
        go_wp2
        go_ret2
        exact BetP.bad HR.out HZ.out k3
    · have HR : Hid (threeE la lb lx = e1) := Lib.hid (by rw [HBE.out, if_neg (by simp), if_pos hz1])
      have t1 : (e1 == 0) = false := by simpa using hz1
      have t2 : (e1 != 0) = true := by simpa using hz1
      have HZ := Lib.hid hz1
      clear hz1
      go_enter Try.func28, Try.ntmps28
      go_wp2_with fail
      refine (rCheck_any _ _ _ _ _ h).mono ?_
      rintro e w1 ⟨rfl, b1⟩
      rw [H0.out]
      go_wp2_with fail
      refine (rCheck_any _ _ _ _ _ (h'.below b1)).mono ?_
      rintro e w2 ⟨rfl, b2⟩
      rw [H1.out]
      have k2 := b1.trans (b2.mono b1.size)
      go_wp2
      go_ret2
      exact BetP.bad HR.out HZ.out k2
  · have HR : Hid (threeE la lb lx = e0) := Lib.hid (by rw [HBE.out, if_pos hz0])
    have t1 : (e0 == 0) = false := by simpa using hz0
    have t2 : (e0 != 0) = true := by simpa using hz0
    have HZ := Lib.hid hz0
    clear hz0
    go_enter Try.func28, Try.ntmps28
    go_wp2_with fail
    refine (rCheck_any _ _ _ _ _ h).mono ?_
    rintro e w1 ⟨rfl, b1⟩
    rw [H0.out]
    go_wp2
    go_ret2
    exact BetP.bad HR.out HZ.out b1
end Go.Proofs.Ytmcckngodaeojaa
namespace Go.Proofs.Ytmcckngodaeojaa
open Go.RowKit Grade03

theorem rturned_any (a : Option Addr) (n c : Nat) (l : List Int) (x y : Nat) (w : World) (h : IsL w a n c l) (hO : IsO l) (hx : x < n) (hy : y < n) (hne : x ≠ y) (B : Bool) (hB : decide (bef l y x) = B) :
    Calls Try.prog 100 #[.slice a n c, .int .i64 (x : Int), .int .i64 (y : Int)] w fun e w' => e = .returned (.bool B) ∧ w = w' := by
  have HC := Lib.hid (earlier_any a n c l y x w h hO hy hx (fun e => hne e.symm) B hB)
  clear h hO hB
  go_enter Try.func100, Try.ntmps100
  go_wp2_with fail
  refine HC.out.mono ?_
  rintro e w1 ⟨rfl, rfl⟩
  go_wp2
  go_ret
  exact ⟨rfl, rfl⟩

theorem sm_low {f : Nat → Int} : ∀ n, (∀ i, i < n → f i = 0) → sm f n = 0
  | 0, _ => rfl
  | n + 1, h => by rw [sm, sm_low n (fun i hi => h i (by omega)), h n (by omega)]; rfl
def trR (l : List Int) (x y : Nat) : Int := sm (fun y => bI (x < y ∧ bef l y x)) y
def trA (l : List Int) (x : Nat) : Int := sm (fun x => trR l x l.length) x
theorem trR_start (l : List Int) (x : Nat) : trR l x (x + 1) = 0 := sm_low _ fun i hi => by unfold bI; rw [if_neg (by omega)]
theorem trR_step (l : List Int) (x y : Nat) : trR l x (y + 1) = trR l x y + bI (x < y ∧ bef l y x) := rfl
theorem trA_step (l : List Int) (x : Nat) : trA l (x + 1) = trA l x + trR l x l.length := rfl
theorem trA_end (l : List Int) : trA l l.length = trn l := rfl

set_option maxHeartbeats 4000000 in
set_option maxRecDepth 100000 in
theorem turns_any (a : Option Addr) (n c : Nat) (l : List Int) (w : World) (h : IsL w a n c l) (hO : IsO l) (hn : n ≤ 7) :
    Calls Try.prog 80 #[.slice a n c] w fun e w' => e = .returned (.int .i64 (trn l)) ∧ w = w' := by
  have hl := h.len
  have HL := Lib.hid hl
  have HC : Hid (∀ x y, x < n → y < n → x ≠ y → ∀ B, decide (bef l y x) = B → Calls Try.prog 100 #[.slice a n c, .int .i64 (x : Int), .int .i64 (y : Int)] w fun e w' => e = .returned (.bool B) ∧ w = w') := Lib.hid (fun x y hx hy hne B hB => rturned_any a n c l x y w h hO hx hy hne B hB)
  clear hl h hO
  go_enter Try.func80, Try.ntmps80
  go_wp2_with fail
  go_loopw [4, 3] (fun vx vm wr => ∃ x m : Nat, x ≤ n ∧ vx = .int .i64 (x : Int) ∧ vm = .int .i64 (m : Int) ∧ m ≤ 7 * x ∧ Hid ((m : Int) = trA l x) ∧ w = wr) (fun vx _ _ => n - (intOf vx).toNat)
  case atStart => exact ⟨0, 0, by omega, rfl, rfl, by omega, Lib.hid rfl, rfl⟩
  case round =>
    obtain ⟨x, m, hx, rfl, rfl, hm, hA, rfl⟩ := hrel
    by_cases hlt : x < n
    · have q0 : (x : Int) < (n : Int) := by omega
      go_wp2_with fail
      go_loopw [5, 3] (fun vy vm wr => ∃ y m : Nat, x < y ∧ y ≤ n ∧ vy = .int .i64 (y : Int) ∧ vm = .int .i64 (m : Int) ∧ m ≤ 7 * x + y ∧ Hid ((m : Int) = trA l x + trR l x y) ∧ w = wr) (fun vy _ _ => n - (intOf vy).toNat)
      case atStart => exact ⟨x + 1, m, by omega, by omega, by go_num, rfl, by omega, Lib.hid (by rw [trR_start, hA.out]; omega), rfl⟩
      case round =>
        clear hm
        obtain ⟨y, m2, hxy, hy, rfl, rfl, hm, hR, rfl⟩ := hrel
        by_cases hyn : y < n
        · have q1 : (y : Int) < (n : Int) := by omega
          obtain ⟨B, hB⟩ : ∃ B, decide (bef l y x) = B := ⟨_, rfl⟩
          have K := Lib.hid (HC.out x y hlt hyn (by omega) B hB)
          have HS : Hid (trR l x (y + 1) = trR l x y + if B then 1 else 0) := Lib.hid (by
            rw [trR_step, ← hB]; unfold bI; by_cases e : bef l y x <;> simp [e, hxy])
          clear hB
          cases B with
          | true =>
            have HN : Hid (((m2 + 1 : Nat) : Int) = trA l x + trR l x (y + 1)) := Lib.hid (by have := hR.out; have h2 := HS.out; simp at h2; omega)
            go_wp2_with fail
            refine K.out.mono ?_
            rintro e w4 ⟨rfl, rfl⟩
            go_wp2
            go_roundw
            case rel => first | exact ⟨y + 1, m2 + 1, by omega, by omega, by go_num, by go_num, by omega, HN, by trivial⟩ | ((repeat apply Exists.intro); exact ⟨⟨y + 1, m2 + 1, by omega, by omega, by go_num, by go_num, by omega, HN, by trivial⟩, rfl⟩)
            case measure => (simp [intOf] <;> omega)
          | false =>
            have HN : Hid ((m2 : Int) = trA l x + trR l x (y + 1)) := Lib.hid (by have := hR.out; have h2 := HS.out; simp at h2; omega)
            go_wp2_with fail
            refine K.out.mono ?_
            rintro e w4 ⟨rfl, rfl⟩
            go_wp2
            go_roundw
            case rel => first | exact ⟨y + 1, m2, by omega, by omega, by go_num, rfl, by omega, HN, by trivial⟩ | ((repeat apply Exists.intro); exact ⟨⟨y + 1, m2, by omega, by omega, by go_num, rfl, by omega, HN, by trivial⟩, rfl⟩)
            case measure => (simp [intOf] <;> omega)
        · obtain rfl : y = n := by omega
          have HN : Hid ((m2 : Int) = trA l (x + 1)) := Lib.hid (by rw [trA_step, HL.out]; exact hR.out)
          go_wp2
          go_roundw
          case rel => first | exact ⟨x + 1, m2, by omega, by go_num, rfl, by omega, HN, by trivial⟩ | ((repeat apply Exists.intro); exact ⟨⟨x + 1, m2, by omega, by go_num, rfl, by omega, HN, by trivial⟩, rfl⟩)
          case measure => (simp [intOf] <;> omega)
    · obtain rfl : x = n := by omega
      have F : Hid (trn l = (m : Int)) := Lib.hid (by rw [← trA_end, HL.out]; exact hA.out.symm)
      go_wp2
      go_ret
      exact ⟨by rw [F.out]; rfl, rfl⟩
end Go.Proofs.Ytmcckngodaeojaa
