/- Walks of chapter 3: GradeLeast's closure. -/
import Derived.Test.YtmcckngodaeojaaXe
import Derived.Test.YtmcckngodaeojaaXc
namespace Grade03
theorem not_bit (q k : Nat) (hq : q < 2 ^ 49) : (18446744073709551615 - q).testBit k = (decide (k < 64) && !q.testBit k) := by
  have h1 : (18446744073709551615 - q) = 2 ^ 64 - (q + 1) := by
    have : (2 : Nat) ^ 64 = 18446744073709551616 := by decide
    omega
  have h2 : q < 2 ^ 64 := Nat.lt_trans hq (by decide)
  rw [h1, Nat.testBit_two_pow_sub_succ h2]
theorem high_bit {p k : Nat} (hp : p < 2 ^ 49) (h : p.testBit k = true) : k < 49 := by
  by_cases hk : k < 49
  · exact hk
  · rw [Nat.testBit_lt_two_pow (Nat.lt_of_lt_of_le hp (Nat.pow_le_pow_right (by omega) (by omega)))] at h; cases h
theorem sub_zero {p q : Nat} (hp : p < 2 ^ 49) (hq : q < 2 ^ 49) : p &&& (18446744073709551615 - q) = 0 ↔ ∀ k, p.testBit k = true → q.testBit k = true := by
  constructor
  · intro h k hk
    have := congrArg (fun x => x.testBit k) h
    simp only [Nat.testBit_and, Nat.zero_testBit, not_bit q k hq, hk] at this
    have h49 := high_bit hp hk
    simpa [show k < 64 by omega] using this
  · intro h
    refine Nat.eq_of_testBit_eq fun k => ?_
    rw [Nat.testBit_and, Nat.zero_testBit, not_bit q k hq]
    by_cases hk : p.testBit k = true
    · rw [h k hk]; simp
    · simp [hk]
theorem turn_sub {a b : List Int} {s t : Nat} (h : TurnS a s) (h' : TurnS b t) (hl : b.length = a.length) (h7 : a.length ≤ 7) : (∀ k, s.testBit k = true → t.testBit k = true) ↔ Bel a b := by
  constructor
  · intro hs x y h1 h2 h3
    have := (h.bits x y (by omega) (by omega)).2 ⟨h1, h2, h3⟩
    exact ((h'.bits x y (by omega) (by omega)).1 (hs _ this)).2.2
  · intro hB k hk
    have h49 := high_bit h.lt hk
    obtain ⟨x, y, hx, hy, rfl⟩ : ∃ x y, x < 7 ∧ y < 7 ∧ k = 7 * y + x := ⟨k % 7, k / 7, by omega, by omega, by omega⟩
    obtain ⟨h1, h2, h3⟩ := (h.bits x y hx hy).1 hk
    exact (h'.bits x y hx hy).2 ⟨h1, by omega, hB x y h1 h2 h3⟩
theorem or_sub {s t u : Nat} : (∀ k, (s ||| t).testBit k = true → u.testBit k = true) ↔ (∀ k, s.testBit k = true → u.testBit k = true) ∧ ∀ k, t.testBit k = true → u.testBit k = true := by
  constructor
  · intro h; exact ⟨fun k hk => h k (by simp [Nat.testBit_or, hk]), fun k hk => h k (by simp [Nat.testBit_or, hk])⟩
  · rintro ⟨h1, h2⟩ k hk
    rw [Nat.testBit_or, Bool.or_eq_true] at hk
    exact hk.elim (h1 k) (h2 k)
theorem and_sub {s t u : Nat} : (∀ k, u.testBit k = true → (s &&& t).testBit k = true) ↔ (∀ k, u.testBit k = true → s.testBit k = true) ∧ ∀ k, u.testBit k = true → t.testBit k = true := by
  constructor
  · intro h; exact ⟨fun k hk => by have := h k hk; rw [Nat.testBit_and, Bool.and_eq_true] at this; exact this.1, fun k hk => by have := h k hk; rw [Nat.testBit_and, Bool.and_eq_true] at this; exact this.2⟩
  · rintro ⟨h1, h2⟩ k hk
    rw [Nat.testBit_and, h1 k hk, h2 k hk]; rfl
end Grade03
namespace Go.Proofs.Ytmcckngodaeojaa
open Go.RowKit Grade03

/-- the sets of both orders, of Join and of Meet -/
structure FourS (D E : List Int) (s t u d : Nat) : Prop where
  len : E.length = D.length
  o1 : IsO D
  o2 : IsO E
  h7 : D.length ≤ 7
  h1 : TurnS D s
  h2 : TurnS E t
  h3 : TurnS (joinO D E) u
  h4 : TurnS (meetO D E) d
/-- what the closure's condition reads -/
def LeastF (s t u d k : Nat) : Prop := ∃ P Q R V X Y : Nat, ∃ C C2 : Bool, bits .or .u64 (s : Int) (t : Int) = (P : Int) ∧ bits .andNot .u64 (P : Int) (k : Int) = (Q : Int) ∧ ((Q : Int) == 0) = C ∧
  bits .andNot .u64 (u : Int) (k : Int) = (R : Int) ∧ (C = true → R = 0) ∧ bits .and .u64 (s : Int) (t : Int) = (V : Int) ∧ bits .andNot .u64 (k : Int) (V : Int) = (X : Int) ∧ ((X : Int) == 0) = C2 ∧ bits .andNot .u64 (k : Int) (d : Int) = (Y : Int) ∧ (C2 = true → Y = 0)
theorem FourS.fact {D E l : List Int} {s t u d k : Nat} (h : FourS D E s t u d) (hO : IsO l) (hl : l.length = D.length) (hk : TurnS l k) : LeastF s t u d k := by
  have a1 := h.h1.lt
  have a2 := h.h2.lt
  have a3 := h.h3.lt
  have a4 := h.h4.lt
  have a5 := hk.lt
  have p1 : s ||| t < 2 ^ 49 := Nat.or_lt_two_pow a1 a2
  have p2 : s &&& t < 2 ^ 49 := Nat.and_lt_two_pow _ a2
  have hJ := join_is h.o1 h.o2 h.len
  have hM := meet_is h.o1 h.o2 h.len
  have h7 := h.h7
  have hle := h.len
  have two : (2 : Nat) ^ 49 = 562949953421312 := by decide
  refine ⟨s ||| t, (s ||| t) &&& (18446744073709551615 - k), u &&& (18446744073709551615 - k), s &&& t, k &&& (18446744073709551615 - (s &&& t)), k &&& (18446744073709551615 - d), _, _, u64_or_nat _ _ (by omega) (by omega), u64_andNot_nat _ _ (by omega) (by omega), rfl, u64_andNot_nat _ _ (by omega) (by omega), ?_, u64_and_nat _ _ (by omega) (by omega), u64_andNot_nat _ _ (by omega) (by omega), rfl, u64_andNot_nat _ _ (by omega) (by omega), ?_⟩
  · intro hc
    have hc : (s ||| t) &&& (18446744073709551615 - k) = 0 := by simpa using hc
    rw [sub_zero p1 a5, or_sub, turn_sub h.h1 hk hl h7, turn_sub h.h2 hk (by omega) (by omega)] at hc
    rw [sub_zero a3 a5, turn_sub h.h3 hk (by rw [hJ.len]; exact hl) (by rw [hJ.len]; exact h7)]
    exact hJ.least l hO hl hc.1 hc.2
  · intro hc
    have hc : k &&& (18446744073709551615 - (s &&& t)) = 0 := by simpa using hc
    rw [sub_zero a5 p2, and_sub, turn_sub hk h.h1 hl.symm (by omega), turn_sub hk h.h2 (by omega) (by omega)] at hc
    rw [sub_zero a5 a4, turn_sub hk h.h4 (by rw [hM.len]; exact hl.symm) (by omega)]
    exact hM.great l hO hl hc.1 hc.2
theorem FourS.good {D E : List Int} {s t u d : Nat} (h : FourS D E s t u d) : ∃ P V : Nat, bits .or .u64 (s : Int) (t : Int) = (P : Int) ∧ bits .andNot .u64 (P : Int) (u : Int) = (0 : Int) ∧ bits .and .u64 (s : Int) (t : Int) = (V : Int) ∧ bits .andNot .u64 (d : Int) (V : Int) = (0 : Int) := by
  have a1 := h.h1.lt
  have a2 := h.h2.lt
  have a3 := h.h3.lt
  have a4 := h.h4.lt
  have p1 : s ||| t < 2 ^ 49 := Nat.or_lt_two_pow a1 a2
  have p2 : s &&& t < 2 ^ 49 := Nat.and_lt_two_pow _ a2
  have hJ := join_is h.o1 h.o2 h.len
  have hM := meet_is h.o1 h.o2 h.len
  have h7 := h.h7
  have hle := h.len
  have two : (2 : Nat) ^ 49 = 562949953421312 := by decide
  refine ⟨s ||| t, s &&& t, u64_or_nat _ _ (by omega) (by omega), ?_, u64_and_nat _ _ (by omega) (by omega), ?_⟩
  · rw [u64_andNot_nat _ _ (by omega) (by omega), (sub_zero p1 a3).2 (or_sub.2 ⟨(turn_sub h.h1 h.h3 hJ.len h7).2 hJ.left, (turn_sub h.h2 h.h3 (by rw [hJ.len, hle]) (by omega)).2 hJ.right⟩)]; rfl
  · rw [u64_andNot_nat _ _ (by omega) (by omega), (sub_zero a4 p2).2 (and_sub.2 ⟨(turn_sub h.h4 h.h1 hM.len.symm (by rw [hM.len]; exact h7)).2 hM.left, (turn_sub h.h4 h.h2 (by rw [hM.len, hle]) (by rw [hM.len]; exact h7)).2 hM.right⟩)]; rfl

set_option maxHeartbeats 4000000 in
set_option maxRecDepth 100000 in
theorem least1 {D E : List Int} {s t u d : Nat} (hF : FourS D E s t u d) (b1 b2 b3 b4 b5 : Nat) (a : Option Addr) (n c : Nat) (l : List Int) (w : World) (h : IsL w a n c l) (hO : IsO l) (hl : l.length = D.length) (hn : n ≤ 7)
    (c1 : w.cell? ⟨b1, 0, none⟩ = some (.int .u64 (s : Int))) (c2 : w.cell? ⟨b2, 0, none⟩ = some (.int .u64 (t : Int))) (c3 : w.cell? ⟨b3, 0, none⟩ = some (.int .u64 (u : Int))) (c4 : w.cell? ⟨b4, 0, none⟩ = some (.int .u64 (d : Int))) :
    Calls Try.prog 62 #[.slice a n c, .pointer (some ⟨b1, 0, none⟩), .pointer (some ⟨b2, 0, none⟩), .pointer (some ⟨b3, 0, none⟩), .pointer (some ⟨b4, 0, none⟩), .pointer (some ⟨b5, 0, none⟩)] w fun e w' => e = .returned (.tuple #[]) ∧ w = w' := by
  have HT := Lib.hid (turned_set a n c l w h hO hn)
  have HK : Hid (∀ k, TurnS l k → LeastF s t u d k) := Lib.hid fun k hk => hF.fact hO hl hk
  clear hF h hO hl
  go_enter Try.func62, Try.ntmps62
  go_wp2_with fail
  refine HT.out.mono ?_
  rintro e w1 ⟨k, rfl, hk, rfl⟩
  obtain ⟨P, Q, R, V, X, Y, C, C2, f1, f2, f3, f4, f5, f6, f7, f8, f9, f10⟩ := HK.out k hk
  clear HK HT hk
  cases C <;> cases C2
  · clear f5 f10
    go_wp2_with fail
    go_end0
    exact ⟨rfl, rfl⟩
  · obtain rfl := f10 rfl
    clear f5 f10
    have f11 : (((0 : Nat) : Int) != 0) = false := by decide
    go_wp2_with fail
    go_end0
    exact ⟨rfl, rfl⟩
  · obtain rfl := f5 rfl
    clear f5 f10
    have f11 : (((0 : Nat) : Int) != 0) = false := by decide
    go_wp2_with fail
    go_end0
    exact ⟨rfl, rfl⟩
  · obtain rfl := f5 rfl
    obtain rfl := f10 rfl
    clear f5 f10
    have f11 : (((0 : Nat) : Int) != 0) = false := by decide
    go_wp2_with fail
    go_end0
    exact ⟨rfl, rfl⟩
end Go.Proofs.Ytmcckngodaeojaa
