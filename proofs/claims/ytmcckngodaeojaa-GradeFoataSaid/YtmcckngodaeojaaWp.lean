/- Walks of chapter 3: above and below, the reference. (printed by gen_above.py) -/
import Derived.Test.YtmcckngodaeojaaWm
import Derived.Test.YtmcckngodaeojaaPa
namespace Go.Proofs.Ytmcckngodaeojaa
open Go.RowKit Grade03

set_option maxHeartbeats 4000000 in
set_option maxRecDepth 100000 in
theorem above_any (a b x : Option Addr) (n c d f : Nat) (la lb lx : List Int) (w : World) (h : IsL w a n c la) (h' : IsL w b n d lb) (h2 : IsL w x n f lx) (hO : IsO la) (hO' : IsO lb) (hO2 : IsO lx) (R : Bool) (hR : abvB la lb lx = R) :
    Calls Try.prog 79 #[.slice a n c, .slice b n d, .slice x n f] w fun e w' => e = .returned (.bool R) ∧ w = w' := by
  have hcap := h.cap
  have hle := h.le
  have HR : Hid ((∀ p, p < n → ∀ q, q < n → p < q → (bef la q p ∨ bef lb q p → bef lx q p)) ↔ R = true) := Lib.hid (by
    have e1 := h.len
    have e2 := h'.len
    have e3 := h2.len
    rw [← hR]; unfold abvB
    rw [Bool.and_eq_true, decide_eq_true_iff, decide_eq_true_iff]; unfold Bel; rw [e1, e2]
    constructor
    · exact fun H => ⟨fun q p hpq hq hr => H p (by omega) q hq hpq (Or.inl hr), fun q p hpq hq hr => H p (by omega) q hq hpq (Or.inr hr)⟩
    · exact fun H p hp q hq hpq => fun hr => hr.elim (H.1 q p hpq hq) (H.2 q p hpq hq))
  have HC1 : Hid (∀ p q, p < n → q < n → p ≠ q → ∀ B, decide (bef la q p) = B → Calls Try.prog 100 #[.slice a n c, .int .i64 (p : Int), .int .i64 (q : Int)] w fun e w' => e = .returned (.bool B) ∧ w = w') := Lib.hid (fun p q hp hq hpq B hB => rturned_any a n c la p q w h hO hp hq hpq B hB)
  have HC2 : Hid (∀ p q, p < n → q < n → p ≠ q → ∀ B, decide (bef lb q p) = B → Calls Try.prog 100 #[.slice b n d, .int .i64 (p : Int), .int .i64 (q : Int)] w fun e w' => e = .returned (.bool B) ∧ w = w') := Lib.hid (fun p q hp hq hpq B hB => rturned_any b n d lb p q w h' hO' hp hq hpq B hB)
  have HC3 : Hid (∀ p q, p < n → q < n → p ≠ q → ∀ B, decide (bef lx q p) = B → Calls Try.prog 100 #[.slice x n f, .int .i64 (p : Int), .int .i64 (q : Int)] w fun e w' => e = .returned (.bool B) ∧ w = w') := Lib.hid (fun p q hp hq hpq B hB => rturned_any x n f lx p q w h2 hO2 hp hq hpq B hB)
  have hcap2 := h2.cap
  have hle2 := h2.le
  clear hR h h' h2 hO hO' hO2
  go_enter Try.func79, Try.ntmps79
  go_wp2_with fail
  go_loopw [7] (fun vp wr => ∃ p : Nat, p ≤ n ∧ vp = .int .i64 (p : Int) ∧ Hid (∀ x, x < p → ∀ y, y < n → x < y → (bef la y x ∨ bef lb y x → bef lx y x)) ∧ w = wr) (fun vp _ => n - (intOf vp).toNat)
  case atStart => exact ⟨0, by omega, rfl, Lib.hid (fun x hx => by omega), rfl⟩
  case round =>
    obtain ⟨p, hp, rfl, hP, rfl⟩ := hrel
    by_cases hlt : p < n
    · have q0 : (p : Int) < (n : Int) := by omega
      go_wp2_with fail
      go_loopw [8] (fun vq wr => ∃ q : Nat, p < q ∧ q ≤ n ∧ vq = .int .i64 (q : Int) ∧ Hid (∀ y, y < q → p < y → (bef la y p ∨ bef lb y p → bef lx y p)) ∧ w = wr) (fun vq _ => n - (intOf vq).toNat)
      case atStart => exact ⟨p + 1, by omega, by omega, by go_num, Lib.hid (fun y h1 h2 => by omega), rfl⟩
      case round =>
        obtain ⟨q, hpq, hq, rfl, hQ, rfl⟩ := hrel
        by_cases hqn : q < n
        · have q1 : (q : Int) < (n : Int) := by omega
          have HS : Hid (((bef la q p ∨ bef lb q p → bef lx q p)) → ∀ y, y < q + 1 → p < y → (bef la y p ∨ bef lb y p → bef lx y p)) := Lib.hid (fun hg y hy hr => by
            by_cases e : y = q
            · rw [e]; exact hg
            · exact hQ.out y (by omega) hr)
          obtain ⟨B1, hB1⟩ : ∃ B, decide (bef la q p) = B := ⟨_, rfl⟩
          obtain ⟨B2, hB2⟩ : ∃ B, decide (bef lb q p) = B := ⟨_, rfl⟩
          obtain ⟨B3, hB3⟩ : ∃ B, decide (bef lx q p) = B := ⟨_, rfl⟩
          have K1 := Lib.hid (HC1.out p q hlt hqn (by omega) B1 hB1)
          have K2 := Lib.hid (HC2.out p q hlt hqn (by omega) B2 hB2)
          have K3 := Lib.hid (HC3.out p q hlt hqn (by omega) B3 hB3)
          have HG : Hid (((bef la q p ∨ bef lb q p → bef lx q p)) ↔ (!(B1 || B2) || B3) = true) := Lib.hid (by
            rw [← hB1, ← hB2, ← hB3]
            by_cases c1 : bef la q p <;> by_cases c2 : bef lb q p <;> by_cases c3 : bef lx q p <;> simp [c1, c2, c3])
          clear hB1 hB2 hB3
          cases B1 with
          | false =>
            cases B2 with
            | false =>
              cases B3 with
              | false =>
                have HN := Lib.hid (HS.out (HG.out.2 rfl))
                go_wp2_with (first
                  | (go_at_call 100; (with_reducible refine K1.out.mono ?_); rintro e w9 ⟨rfl, rfl⟩)
                  | (go_at_call 100; (with_reducible refine K2.out.mono ?_); rintro e w9 ⟨rfl, rfl⟩)
                  | (go_at_call 100; (with_reducible refine K3.out.mono ?_); rintro e w9 ⟨rfl, rfl⟩))
                go_roundw
                case rel => first | exact ⟨q + 1, by omega, by omega, by go_num, HN, by trivial⟩ | ((repeat apply Exists.intro); exact ⟨⟨q + 1, by omega, by omega, by go_num, HN, by trivial⟩, rfl⟩)
                case measure => (simp [intOf] <;> omega)
              | true =>
                have HN := Lib.hid (HS.out (HG.out.2 rfl))
                go_wp2_with (first
                  | (go_at_call 100; (with_reducible refine K1.out.mono ?_); rintro e w9 ⟨rfl, rfl⟩)
                  | (go_at_call 100; (with_reducible refine K2.out.mono ?_); rintro e w9 ⟨rfl, rfl⟩)
                  | (go_at_call 100; (with_reducible refine K3.out.mono ?_); rintro e w9 ⟨rfl, rfl⟩))
                go_roundw
                case rel => first | exact ⟨q + 1, by omega, by omega, by go_num, HN, by trivial⟩ | ((repeat apply Exists.intro); exact ⟨⟨q + 1, by omega, by omega, by go_num, HN, by trivial⟩, rfl⟩)
                case measure => (simp [intOf] <;> omega)
            | true =>
              cases B3 with
              | false =>
                have F : Hid (R = false) := Lib.hid (by cases R with
                  | false => rfl
                  | true => exact absurd (HG.out.1 (HR.out.2 rfl p hlt q hqn hpq)) (by decide))
                go_wp2_with (first
                  | (go_at_call 100; (with_reducible refine K1.out.mono ?_); rintro e w9 ⟨rfl, rfl⟩)
                  | (go_at_call 100; (with_reducible refine K2.out.mono ?_); rintro e w9 ⟨rfl, rfl⟩)
                  | (go_at_call 100; (with_reducible refine K3.out.mono ?_); rintro e w9 ⟨rfl, rfl⟩))
                go_ret
                exact ⟨by rw [F.out]; rfl, rfl⟩
              | true =>
                have HN := Lib.hid (HS.out (HG.out.2 rfl))
                go_wp2_with (first
                  | (go_at_call 100; (with_reducible refine K1.out.mono ?_); rintro e w9 ⟨rfl, rfl⟩)
                  | (go_at_call 100; (with_reducible refine K2.out.mono ?_); rintro e w9 ⟨rfl, rfl⟩)
                  | (go_at_call 100; (with_reducible refine K3.out.mono ?_); rintro e w9 ⟨rfl, rfl⟩))
                go_roundw
                case rel => first | exact ⟨q + 1, by omega, by omega, by go_num, HN, by trivial⟩ | ((repeat apply Exists.intro); exact ⟨⟨q + 1, by omega, by omega, by go_num, HN, by trivial⟩, rfl⟩)
                case measure => (simp [intOf] <;> omega)
          | true =>
            cases B2 with
            | false =>
              cases B3 with
              | false =>
                have F : Hid (R = false) := Lib.hid (by cases R with
                  | false => rfl
                  | true => exact absurd (HG.out.1 (HR.out.2 rfl p hlt q hqn hpq)) (by decide))
                go_wp2_with (first
                  | (go_at_call 100; (with_reducible refine K1.out.mono ?_); rintro e w9 ⟨rfl, rfl⟩)
                  | (go_at_call 100; (with_reducible refine K2.out.mono ?_); rintro e w9 ⟨rfl, rfl⟩)
                  | (go_at_call 100; (with_reducible refine K3.out.mono ?_); rintro e w9 ⟨rfl, rfl⟩))
                go_ret
                exact ⟨by rw [F.out]; rfl, rfl⟩
              | true =>
                have HN := Lib.hid (HS.out (HG.out.2 rfl))
                go_wp2_with (first
                  | (go_at_call 100; (with_reducible refine K1.out.mono ?_); rintro e w9 ⟨rfl, rfl⟩)
                  | (go_at_call 100; (with_reducible refine K2.out.mono ?_); rintro e w9 ⟨rfl, rfl⟩)
                  | (go_at_call 100; (with_reducible refine K3.out.mono ?_); rintro e w9 ⟨rfl, rfl⟩))
                go_roundw
                case rel => first | exact ⟨q + 1, by omega, by omega, by go_num, HN, by trivial⟩ | ((repeat apply Exists.intro); exact ⟨⟨q + 1, by omega, by omega, by go_num, HN, by trivial⟩, rfl⟩)
                case measure => (simp [intOf] <;> omega)
            | true =>
              cases B3 with
              | false =>
                have F : Hid (R = false) := Lib.hid (by cases R with
                  | false => rfl
                  | true => exact absurd (HG.out.1 (HR.out.2 rfl p hlt q hqn hpq)) (by decide))
                go_wp2_with (first
                  | (go_at_call 100; (with_reducible refine K1.out.mono ?_); rintro e w9 ⟨rfl, rfl⟩)
                  | (go_at_call 100; (with_reducible refine K2.out.mono ?_); rintro e w9 ⟨rfl, rfl⟩)
                  | (go_at_call 100; (with_reducible refine K3.out.mono ?_); rintro e w9 ⟨rfl, rfl⟩))
                go_ret
                exact ⟨by rw [F.out]; rfl, rfl⟩
              | true =>
                have HN := Lib.hid (HS.out (HG.out.2 rfl))
                go_wp2_with (first
                  | (go_at_call 100; (with_reducible refine K1.out.mono ?_); rintro e w9 ⟨rfl, rfl⟩)
                  | (go_at_call 100; (with_reducible refine K2.out.mono ?_); rintro e w9 ⟨rfl, rfl⟩)
                  | (go_at_call 100; (with_reducible refine K3.out.mono ?_); rintro e w9 ⟨rfl, rfl⟩))
                go_roundw
                case rel => first | exact ⟨q + 1, by omega, by omega, by go_num, HN, by trivial⟩ | ((repeat apply Exists.intro); exact ⟨⟨q + 1, by omega, by omega, by go_num, HN, by trivial⟩, rfl⟩)
                case measure => (simp [intOf] <;> omega)
        · obtain rfl : q = n := by omega
          have HN : Hid (∀ x, x < p + 1 → ∀ y, y < q → x < y → (bef la y x ∨ bef lb y x → bef lx y x)) := Lib.hid (fun x hx y hy hr => by
            by_cases e : x = p
            · rw [e] at hr ⊢; exact hQ.out y hy hr
            · exact hP.out x (by omega) y hy hr)
          go_wp2
          go_roundw
          case rel => first | exact ⟨p + 1, by omega, by go_num, HN, by trivial⟩ | ((repeat apply Exists.intro); exact ⟨⟨p + 1, by omega, by go_num, HN, by trivial⟩, rfl⟩)
          case measure => (simp [intOf] <;> omega)
    · obtain rfl : p = n := by omega
      have F : Hid (R = true) := Lib.hid (HR.out.1 hP.out)
      go_wp2
      go_ret
      exact ⟨by rw [F.out]; rfl, rfl⟩
set_option maxHeartbeats 4000000 in
set_option maxRecDepth 100000 in
theorem below_any (a b x : Option Addr) (n c d f : Nat) (la lb lx : List Int) (w : World) (h : IsL w a n c la) (h' : IsL w b n d lb) (h2 : IsL w x n f lx) (hO : IsO la) (hO' : IsO lb) (hO2 : IsO lx) (R : Bool) (hR : blwB la lb lx = R) :
    Calls Try.prog 82 #[.slice a n c, .slice b n d, .slice x n f] w fun e w' => e = .returned (.bool R) ∧ w = w' := by
  have hcap := h.cap
  have hle := h.le
  have HR : Hid ((∀ p, p < n → ∀ q, q < n → p < q → (bef lx q p → bef la q p ∧ bef lb q p)) ↔ R = true) := Lib.hid (by
    have e1 := h.len
    have e2 := h'.len
    have e3 := h2.len
    rw [← hR]; unfold blwB
    rw [Bool.and_eq_true, decide_eq_true_iff, decide_eq_true_iff]; unfold Bel; rw [e3]
    constructor
    · exact fun H => ⟨fun q p hpq hq hr => (H p (by omega) q hq hpq hr).1, fun q p hpq hq hr => (H p (by omega) q hq hpq hr).2⟩
    · exact fun H p hp q hq hpq => fun hr => ⟨H.1 q p hpq hq hr, H.2 q p hpq hq hr⟩)
  have HC1 : Hid (∀ p q, p < n → q < n → p ≠ q → ∀ B, decide (bef la q p) = B → Calls Try.prog 100 #[.slice a n c, .int .i64 (p : Int), .int .i64 (q : Int)] w fun e w' => e = .returned (.bool B) ∧ w = w') := Lib.hid (fun p q hp hq hpq B hB => rturned_any a n c la p q w h hO hp hq hpq B hB)
  have HC2 : Hid (∀ p q, p < n → q < n → p ≠ q → ∀ B, decide (bef lb q p) = B → Calls Try.prog 100 #[.slice b n d, .int .i64 (p : Int), .int .i64 (q : Int)] w fun e w' => e = .returned (.bool B) ∧ w = w') := Lib.hid (fun p q hp hq hpq B hB => rturned_any b n d lb p q w h' hO' hp hq hpq B hB)
  have HC3 : Hid (∀ p q, p < n → q < n → p ≠ q → ∀ B, decide (bef lx q p) = B → Calls Try.prog 100 #[.slice x n f, .int .i64 (p : Int), .int .i64 (q : Int)] w fun e w' => e = .returned (.bool B) ∧ w = w') := Lib.hid (fun p q hp hq hpq B hB => rturned_any x n f lx p q w h2 hO2 hp hq hpq B hB)
  have hcap2 := h2.cap
  have hle2 := h2.le
  clear hR h h' h2 hO hO' hO2
  go_enter Try.func82, Try.ntmps82
  go_wp2_with fail
  go_loopw [7] (fun vp wr => ∃ p : Nat, p ≤ n ∧ vp = .int .i64 (p : Int) ∧ Hid (∀ x, x < p → ∀ y, y < n → x < y → (bef lx y x → bef la y x ∧ bef lb y x)) ∧ w = wr) (fun vp _ => n - (intOf vp).toNat)
  case atStart => exact ⟨0, by omega, rfl, Lib.hid (fun x hx => by omega), rfl⟩
  case round =>
    obtain ⟨p, hp, rfl, hP, rfl⟩ := hrel
    by_cases hlt : p < n
    · have q0 : (p : Int) < (n : Int) := by omega
      go_wp2_with fail
      go_loopw [8] (fun vq wr => ∃ q : Nat, p < q ∧ q ≤ n ∧ vq = .int .i64 (q : Int) ∧ Hid (∀ y, y < q → p < y → (bef lx y p → bef la y p ∧ bef lb y p)) ∧ w = wr) (fun vq _ => n - (intOf vq).toNat)
      case atStart => exact ⟨p + 1, by omega, by omega, by go_num, Lib.hid (fun y h1 h2 => by omega), rfl⟩
      case round =>
        obtain ⟨q, hpq, hq, rfl, hQ, rfl⟩ := hrel
        by_cases hqn : q < n
        · have q1 : (q : Int) < (n : Int) := by omega
          have HS : Hid (((bef lx q p → bef la q p ∧ bef lb q p)) → ∀ y, y < q + 1 → p < y → (bef lx y p → bef la y p ∧ bef lb y p)) := Lib.hid (fun hg y hy hr => by
            by_cases e : y = q
            · rw [e]; exact hg
            · exact hQ.out y (by omega) hr)
          obtain ⟨B1, hB1⟩ : ∃ B, decide (bef la q p) = B := ⟨_, rfl⟩
          obtain ⟨B2, hB2⟩ : ∃ B, decide (bef lb q p) = B := ⟨_, rfl⟩
          obtain ⟨B3, hB3⟩ : ∃ B, decide (bef lx q p) = B := ⟨_, rfl⟩
          have K1 := Lib.hid (HC1.out p q hlt hqn (by omega) B1 hB1)
          have K2 := Lib.hid (HC2.out p q hlt hqn (by omega) B2 hB2)
          have K3 := Lib.hid (HC3.out p q hlt hqn (by omega) B3 hB3)
          have HG : Hid (((bef lx q p → bef la q p ∧ bef lb q p)) ↔ (!B3 || (B1 && B2)) = true) := Lib.hid (by
            rw [← hB1, ← hB2, ← hB3]
            by_cases c1 : bef la q p <;> by_cases c2 : bef lb q p <;> by_cases c3 : bef lx q p <;> simp [c1, c2, c3])
          clear hB1 hB2 hB3
          cases B1 with
          | false =>
            cases B2 with
            | false =>
              cases B3 with
              | false =>
                have HN := Lib.hid (HS.out (HG.out.2 rfl))
                go_wp2_with (first
                  | (go_at_call 100; (with_reducible refine K1.out.mono ?_); rintro e w9 ⟨rfl, rfl⟩)
                  | (go_at_call 100; (with_reducible refine K2.out.mono ?_); rintro e w9 ⟨rfl, rfl⟩)
                  | (go_at_call 100; (with_reducible refine K3.out.mono ?_); rintro e w9 ⟨rfl, rfl⟩))
                go_roundw
                case rel => first | exact ⟨q + 1, by omega, by omega, by go_num, HN, by trivial⟩ | ((repeat apply Exists.intro); exact ⟨⟨q + 1, by omega, by omega, by go_num, HN, by trivial⟩, rfl⟩)
                case measure => (simp [intOf] <;> omega)
              | true =>
                have F : Hid (R = false) := Lib.hid (by cases R with
                  | false => rfl
                  | true => exact absurd (HG.out.1 (HR.out.2 rfl p hlt q hqn hpq)) (by decide))
                go_wp2_with (first
                  | (go_at_call 100; (with_reducible refine K1.out.mono ?_); rintro e w9 ⟨rfl, rfl⟩)
                  | (go_at_call 100; (with_reducible refine K2.out.mono ?_); rintro e w9 ⟨rfl, rfl⟩)
                  | (go_at_call 100; (with_reducible refine K3.out.mono ?_); rintro e w9 ⟨rfl, rfl⟩))
                go_ret
                exact ⟨by rw [F.out]; rfl, rfl⟩
            | true =>
              cases B3 with
              | false =>
                have HN := Lib.hid (HS.out (HG.out.2 rfl))
                go_wp2_with (first
                  | (go_at_call 100; (with_reducible refine K1.out.mono ?_); rintro e w9 ⟨rfl, rfl⟩)
                  | (go_at_call 100; (with_reducible refine K2.out.mono ?_); rintro e w9 ⟨rfl, rfl⟩)
                  | (go_at_call 100; (with_reducible refine K3.out.mono ?_); rintro e w9 ⟨rfl, rfl⟩))
                go_roundw
                case rel => first | exact ⟨q + 1, by omega, by omega, by go_num, HN, by trivial⟩ | ((repeat apply Exists.intro); exact ⟨⟨q + 1, by omega, by omega, by go_num, HN, by trivial⟩, rfl⟩)
                case measure => (simp [intOf] <;> omega)
              | true =>
                have F : Hid (R = false) := Lib.hid (by cases R with
                  | false => rfl
                  | true => exact absurd (HG.out.1 (HR.out.2 rfl p hlt q hqn hpq)) (by decide))
                go_wp2_with (first
                  | (go_at_call 100; (with_reducible refine K1.out.mono ?_); rintro e w9 ⟨rfl, rfl⟩)
                  | (go_at_call 100; (with_reducible refine K2.out.mono ?_); rintro e w9 ⟨rfl, rfl⟩)
                  | (go_at_call 100; (with_reducible refine K3.out.mono ?_); rintro e w9 ⟨rfl, rfl⟩))
                go_ret
                exact ⟨by rw [F.out]; rfl, rfl⟩
          | true =>
            cases B2 with
            | false =>
              cases B3 with
              | false =>
                have HN := Lib.hid (HS.out (HG.out.2 rfl))
                go_wp2_with (first
                  | (go_at_call 100; (with_reducible refine K1.out.mono ?_); rintro e w9 ⟨rfl, rfl⟩)
                  | (go_at_call 100; (with_reducible refine K2.out.mono ?_); rintro e w9 ⟨rfl, rfl⟩)
                  | (go_at_call 100; (with_reducible refine K3.out.mono ?_); rintro e w9 ⟨rfl, rfl⟩))
                go_roundw
                case rel => first | exact ⟨q + 1, by omega, by omega, by go_num, HN, by trivial⟩ | ((repeat apply Exists.intro); exact ⟨⟨q + 1, by omega, by omega, by go_num, HN, by trivial⟩, rfl⟩)
                case measure => (simp [intOf] <;> omega)
              | true =>
                have F : Hid (R = false) := Lib.hid (by cases R with
                  | false => rfl
                  | true => exact absurd (HG.out.1 (HR.out.2 rfl p hlt q hqn hpq)) (by decide))
                go_wp2_with (first
                  | (go_at_call 100; (with_reducible refine K1.out.mono ?_); rintro e w9 ⟨rfl, rfl⟩)
                  | (go_at_call 100; (with_reducible refine K2.out.mono ?_); rintro e w9 ⟨rfl, rfl⟩)
                  | (go_at_call 100; (with_reducible refine K3.out.mono ?_); rintro e w9 ⟨rfl, rfl⟩))
                go_ret
                exact ⟨by rw [F.out]; rfl, rfl⟩
            | true =>
              cases B3 with
              | false =>
                have HN := Lib.hid (HS.out (HG.out.2 rfl))
                go_wp2_with (first
                  | (go_at_call 100; (with_reducible refine K1.out.mono ?_); rintro e w9 ⟨rfl, rfl⟩)
                  | (go_at_call 100; (with_reducible refine K2.out.mono ?_); rintro e w9 ⟨rfl, rfl⟩)
                  | (go_at_call 100; (with_reducible refine K3.out.mono ?_); rintro e w9 ⟨rfl, rfl⟩))
                go_roundw
                case rel => first | exact ⟨q + 1, by omega, by omega, by go_num, HN, by trivial⟩ | ((repeat apply Exists.intro); exact ⟨⟨q + 1, by omega, by omega, by go_num, HN, by trivial⟩, rfl⟩)
                case measure => (simp [intOf] <;> omega)
              | true =>
                have HN := Lib.hid (HS.out (HG.out.2 rfl))
                go_wp2_with (first
                  | (go_at_call 100; (with_reducible refine K1.out.mono ?_); rintro e w9 ⟨rfl, rfl⟩)
                  | (go_at_call 100; (with_reducible refine K2.out.mono ?_); rintro e w9 ⟨rfl, rfl⟩)
                  | (go_at_call 100; (with_reducible refine K3.out.mono ?_); rintro e w9 ⟨rfl, rfl⟩))
                go_roundw
                case rel => first | exact ⟨q + 1, by omega, by omega, by go_num, HN, by trivial⟩ | ((repeat apply Exists.intro); exact ⟨⟨q + 1, by omega, by omega, by go_num, HN, by trivial⟩, rfl⟩)
                case measure => (simp [intOf] <;> omega)
        · obtain rfl : q = n := by omega
          have HN : Hid (∀ x, x < p + 1 → ∀ y, y < q → x < y → (bef lx y x → bef la y x ∧ bef lb y x)) := Lib.hid (fun x hx y hy hr => by
            by_cases e : x = p
            · rw [e] at hr ⊢; exact hQ.out y hy hr
            · exact hP.out x (by omega) y hy hr)
          go_wp2
          go_roundw
          case rel => first | exact ⟨p + 1, by omega, by go_num, HN, by trivial⟩ | ((repeat apply Exists.intro); exact ⟨⟨p + 1, by omega, by go_num, HN, by trivial⟩, rfl⟩)
          case measure => (simp [intOf] <;> omega)
    · obtain rfl : p = n := by omega
      have F : Hid (R = true) := Lib.hid (HR.out.1 hP.out)
      go_wp2
      go_ret
      exact ⟨by rw [F.out]; rfl, rfl⟩
end Go.Proofs.Ytmcckngodaeojaa
namespace Go.Proofs.Ytmcckngodaeojaa
open Go.RowKit Grade03

def majE (l : List Int) : Int := if chkE l = 0 then majL l else 0
def MajP (l : List Int) (w : World) (e : Ending) (w' : World) : Prop := e = .returned (.tuple #[.int .i64 (majE l), .int .i64 (chkE l)]) ∧ Below w.heap.size w w'
theorem MajP.bad {l : List Int} {w w' : World} {e0 : Int} (h : chkE l = e0) (h0 : e0 ≠ 0) (hb : Below w.heap.size w w') : MajP l w (.returned (.tuple #[.int .i64 0, .int .i64 e0])) w' := ⟨by unfold majE; rw [h, if_neg h0], hb⟩
theorem MajP.good {l : List Int} {w w' : World} {m : Int} (h : chkE l = 0) (hm : majL l = m) (hb : Below w.heap.size w w') : MajP l w (.returned (.tuple #[.int .i64 m, .int .i64 0])) w' := ⟨by unfold majE; rw [if_pos h, h, hm], hb⟩

set_option maxHeartbeats 4000000 in
set_option maxRecDepth 100000 in
theorem rMajor_any (a : Option Addr) (n c : Nat) (l : List Int) (w : World) (h : IsL w a n c l) :
    Calls Try.prog 42 #[.slice a n c] w (MajP l w) := by
  obtain ⟨e0, he0⟩ : ∃ e0, chkE l = e0 := ⟨_, rfl⟩
  have H0 := Lib.hid he0
  by_cases hz : e0 = 0
  · subst hz
    obtain ⟨hO, hn1, hn7⟩ := chkE_zero.1 he0
    have hl := h.len
    rw [hl] at hn1 hn7
    have HL := Lib.hid hl
    clear hl he0 hO
    go_enter Try.func42, Try.ntmps42
    go_wp2_with fail
    refine (rCheck_any _ _ _ _ _ h).mono ?_
    rintro e w1 ⟨rfl, b1⟩
    rw [H0.out]
    have h1 := h.below b1
    go_wp2_with fail
    go_loopw [6, 5] (fun vi vm wr => ∃ i m : Nat, i + 1 ≤ n ∧ vi = .int .i64 (i : Int) ∧ vm = .int .i64 (m : Int) ∧ m ≤ 7 * i ∧ Hid ((m : Int) = majK l i) ∧ Below w.heap.size w wr) (fun vi _ _ => n - (intOf vi).toNat)
    case atStart => exact ⟨0, 0, by omega, rfl, rfl, by omega, Lib.hid rfl, b1⟩
    case round =>
      clear b1 h1
      obtain ⟨i, m, hi, rfl, rfl, hm, hM, hb⟩ := hrel
      have w1 : IntKind.i64.wrap ((i : Int) + 1) = (i : Int) + 1 := IntWalk.i64_in _ (by omega)
      by_cases hlt : i + 1 < n
      · have q1 : (i : Int) + 1 < (n : Int) := by omega
        have q2 : (i : Int) < (n : Int) := by omega
        have q3 : (0 : Int) ≤ (i : Int) + 1 := by omega
        have q4 : ((i : Int) + 1).toNat = i + 1 := by omega
        have hk := h.below hb
        obtain ⟨b, o, rfl, _, hc⟩ := hk.cells (by omega)
        have y1 := hc i (by omega)
        have y2 := hc (i + 1) hlt
        have HS : Hid (majK l (i + 1) = majK l i + if l.getD (i + 1) 0 < l.getD i 0 then (i : Int) + 1 else 0) := Lib.hid (by
          simp only [majK, bI]; split <;> simp_all)
        obtain ⟨u, hu⟩ : ∃ u, l.getD i 0 = u := ⟨_, rfl⟩
        obtain ⟨v, hv⟩ : ∃ v, l.getD (i + 1) 0 = v := ⟨_, rfl⟩
        rw [hu] at y1 HS
        rw [hv] at y2 HS
        clear hc hu hv hk
        by_cases huv : v < u
        · rw [if_pos huv] at HS
          have HN : Hid (((m + (i + 1) : Nat) : Int) = majK l (i + 1)) := Lib.hid (by have := HS.out; have := hM.out; omega)
          have w2 : IntKind.i64.wrap ((m : Int) + ((i : Int) + 1)) = (m : Int) + ((i : Int) + 1) := IntWalk.i64_in _ (by omega)
          go_wp2_with fail
          go_quiet (fail)
          go_wp2
          go_roundw
          case rel => first | exact ⟨i + 1, m + (i + 1), by omega, by go_num, by go_num, by omega, HN, belowN hb _⟩ | ((repeat apply Exists.intro); exact ⟨⟨i + 1, m + (i + 1), by omega, by go_num, by go_num, by omega, HN, belowN hb _⟩, rfl⟩)
          case measure => (simp [intOf] <;> omega)
        · rw [if_neg huv] at HS
          have HN : Hid ((m : Int) = majK l (i + 1)) := Lib.hid (by have := HS.out; have := hM.out; omega)
          go_wp2_with fail
          go_quiet (fail)
          go_wp2
          go_roundw
          case rel => first | exact ⟨i + 1, m, by omega, by go_num, rfl, by omega, HN, belowN hb _⟩ | ((repeat apply Exists.intro); exact ⟨⟨i + 1, m, by omega, by go_num, rfl, by omega, HN, belowN hb _⟩, rfl⟩)
          case measure => (simp [intOf] <;> omega)
      · have F : Hid (majL l = (m : Int)) := Lib.hid (by rw [majL, HL.out, hM.out]; congr 1; omega)
        have q1 : ¬ (i : Int) + 1 < (n : Int) := by omega
        go_wp2
        go_ret2
        exact MajP.good H0.out F.out hb
  · have t1 : (e0 == 0) = false := by simpa using hz
    have t2 : (e0 != 0) = true := by simpa using hz
    have HZ := Lib.hid hz
    clear hz he0
    go_enter Try.func42, Try.ntmps42
    go_wp2_with fail
    refine (rCheck_any _ _ _ _ _ h).mono ?_
    rintro e w1 ⟨rfl, b1⟩
    rw [H0.out]
    go_wp2
    go_ret2
    exact MajP.bad H0.out HZ.out b1
end Go.Proofs.Ytmcckngodaeojaa
namespace Go.Proofs.Ytmcckngodaeojaa
open Go.RowKit Grade03

set_option maxHeartbeats 4000000 in
set_option maxRecDepth 100000 in
theorem Major_any (a : Option Addr) (n c : Nat) (l : List Int) (w : World) (h : IsL w a n c l) :
    Calls Try.prog 41 #[.slice a n c] w (MajP l w) := by
  obtain ⟨e0, he0⟩ : ∃ e0, chkE l = e0 := ⟨_, rfl⟩
  have H0 := Lib.hid he0
  by_cases hz : e0 = 0
  · subst hz
    obtain ⟨hO, hn1, hn7⟩ := chkE_zero.1 he0
    have hl := h.len
    rw [hl] at hn1 hn7
    have HL := Lib.hid hl
    have hcap := h.cap
    have hle := h.le
    obtain ⟨b, o, rfl, _, _⟩ := h.cells (by omega)
    have f1 : (1 : Int) ≤ (n : Int) := by omega
    clear hl he0 hO
    by_cases hc1 : c = 1
    · subst hc1
      go_enter Try.func41, Try.ntmps41
      go_wp2_with fail
      refine (Check_any _ _ _ _ _ h).mono ?_
      rintro e w1 ⟨rfl, b1⟩
      rw [H0.out]
      have h1 := h.below b1
      go_wp2_with fail
      go_loopw [15, 5] (fun vi vm wr => ∃ i m : Nat, i + 1 ≤ n ∧ vi = .int .i64 (i : Int) ∧ vm = .int .i64 (m : Int) ∧ m ≤ 7 * i ∧ Hid ((m : Int) = majK l i) ∧ Below w.heap.size w wr) (fun vi _ _ => n - (intOf vi).toNat)
      case atStart => exact ⟨0, 0, by omega, rfl, rfl, by omega, Lib.hid rfl, b1⟩
      case round =>
        clear b1 h1
        obtain ⟨i, m, hi, rfl, rfl, hm, hM, hb⟩ := hrel
        have hk := h.below hb
        have w1 : IntKind.i64.wrap ((i : Int) + 1) = (i : Int) + 1 := IntWalk.i64_in _ (by omega)
        by_cases hlt : i + 1 < n
        · exact absurd hlt (by omega)
        · have F : Hid (majL l = (m : Int)) := Lib.hid (by rw [majL, HL.out, hM.out]; congr 1; omega)
          have q1 : ¬ (i : Int) < ((n - 1 : Nat) : Int) := by omega
          go_wp2
          go_ret2
          exact MajP.good H0.out F.out hb
    · have hc2 : (c == 1) = false := by simpa using hc1
      go_enter Try.func41, Try.ntmps41
      go_wp2_with fail
      refine (Check_any _ _ _ _ _ h).mono ?_
      rintro e w1 ⟨rfl, b1⟩
      rw [H0.out]
      have h1 := h.below b1
      go_wp2_with fail
      go_loopw [15, 5] (fun vi vm wr => ∃ i m : Nat, i + 1 ≤ n ∧ vi = .int .i64 (i : Int) ∧ vm = .int .i64 (m : Int) ∧ m ≤ 7 * i ∧ Hid ((m : Int) = majK l i) ∧ Below w.heap.size w wr) (fun vi _ _ => n - (intOf vi).toNat)
      case atStart => exact ⟨0, 0, by omega, rfl, rfl, by omega, Lib.hid rfl, b1⟩
      case round =>
        clear b1 h1
        obtain ⟨i, m, hi, rfl, rfl, hm, hM, hb⟩ := hrel
        have hk := h.below hb
        have w1 : IntKind.i64.wrap ((i : Int) + 1) = (i : Int) + 1 := IntWalk.i64_in _ (by omega)
        by_cases hlt : i + 1 < n
        · have q1 : (i : Int) < ((n - 1 : Nat) : Int) := by omega
          have q1b : (i : Int) + 1 < (n : Int) := by omega
          have q2 : (i : Int) < (n : Int) := by omega
          have q3 : (0 : Int) ≤ (i : Int) + 1 := by omega
          have q4 : ((i : Int) + 1).toNat = i + 1 := by omega
          obtain ⟨b', o', e, _, hc⟩ := hk.cells (by omega)
          cases e
          have y1 := hc i (by omega)
          have y2 := hc (i + 1) hlt
          have HS : Hid (majK l (i + 1) = majK l i + if l.getD (i + 1) 0 < l.getD i 0 then (i : Int) + 1 else 0) := Lib.hid (by
            simp only [majK, bI]; split <;> simp_all)
          obtain ⟨u, hu⟩ : ∃ u, l.getD i 0 = u := ⟨_, rfl⟩
          obtain ⟨v, hv⟩ : ∃ v, l.getD (i + 1) 0 = v := ⟨_, rfl⟩
          rw [hu] at y1 HS
          rw [hv] at y2 HS
          clear hc hu hv hk
          by_cases huv : v < u
          · rw [if_pos huv] at HS
            have HN : Hid (((m + (i + 1) : Nat) : Int) = majK l (i + 1)) := Lib.hid (by have := HS.out; have := hM.out; omega)
            have w2 : IntKind.i64.wrap ((m : Int) + ((i : Int) + 1)) = (m : Int) + ((i : Int) + 1) := IntWalk.i64_in _ (by omega)
            go_wp2_with fail
            go_quiet (fail)
            go_wp2
            go_roundw
            case rel => first | exact ⟨i + 1, m + (i + 1), by omega, by go_num, by go_num, by omega, HN, belowN hb _⟩ | ((repeat apply Exists.intro); exact ⟨⟨i + 1, m + (i + 1), by omega, by go_num, by go_num, by omega, HN, belowN hb _⟩, rfl⟩)
            case measure => (simp [intOf] <;> omega)
          · rw [if_neg huv] at HS
            have HN : Hid ((m : Int) = majK l (i + 1)) := Lib.hid (by have := HS.out; have := hM.out; omega)
            go_wp2_with fail
            go_quiet (fail)
            go_wp2
            go_roundw
            case rel => first | exact ⟨i + 1, m, by omega, by go_num, rfl, by omega, HN, belowN hb _⟩ | ((repeat apply Exists.intro); exact ⟨⟨i + 1, m, by omega, by go_num, rfl, by omega, HN, belowN hb _⟩, rfl⟩)
            case measure => (simp [intOf] <;> omega)
        · have F : Hid (majL l = (m : Int)) := Lib.hid (by rw [majL, HL.out, hM.out]; congr 1; omega)
          have q1 : ¬ (i : Int) < ((n - 1 : Nat) : Int) := by omega
          go_wp2
          go_ret2
          exact MajP.good H0.out F.out hb
  · have t1 : (e0 == 0) = false := by simpa using hz
    have t2 : (e0 != 0) = true := by simpa using hz
    have HZ := Lib.hid hz
    clear hz he0
    go_enter Try.func41, Try.ntmps41
    go_wp2_with fail
    refine (Check_any _ _ _ _ _ h).mono ?_
    rintro e w1 ⟨rfl, b1⟩
    rw [H0.out]
    go_wp2
    go_ret2
    exact MajP.bad H0.out HZ.out b1
end Go.Proofs.Ytmcckngodaeojaa
