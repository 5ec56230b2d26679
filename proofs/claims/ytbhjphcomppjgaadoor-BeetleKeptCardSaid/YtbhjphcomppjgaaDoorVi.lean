/- Walks of chapter 9: lists are compared. -/
import Derived.Test.YtbhjphcomppjgaaDoorWr
import Derived.Test.YtbhjphcomppjgaaDoorPs
namespace Beetle09
theorem dropc (l : List Int) (i : Nat) (h : i < l.length) : l.drop i = l.getD i 0 :: l.drop (i + 1) := drop_cons l i h
/-- One number more is compared. -/
theorem cmpL_step {l m : List Int} {i : Nat} (h1 : i < l.length) (h2 : i < m.length) : cmpL (l.drop i) (m.drop i) = if l.getD i 0 < m.getD i 0 then -1 else if m.getD i 0 < l.getD i 0 then 1 else cmpL (l.drop (i + 1)) (m.drop (i + 1)) := by
  rw [dropc l i h1, dropc m i h2, cmpL]
theorem cmpL_longer {l m : List Int} {i : Nat} (h1 : i < l.length) (h2 : m.length ≤ i) : cmpL (l.drop i) (m.drop i) = 1 := by
  rw [dropc l i h1, List.drop_eq_nil_of_le h2]; rfl
theorem cmpL_end {l m : List Int} {i : Nat} (h1 : l.length ≤ i) : cmpL (l.drop i) (m.drop i) = if i < m.length then -1 else 0 := by
  rw [List.drop_eq_nil_of_le h1]
  by_cases h : i < m.length
  · rw [if_pos h, dropc m i h]; rfl
  · rw [if_neg h, List.drop_eq_nil_of_le (by omega)]; rfl
end Beetle09
namespace Go.Proofs.YtbhjphcomppjgaaDoor
open Go.RowKit Beetle09
set_option maxHeartbeats 2000000 in
theorem isNaN_any (x : Int) (w : World) : Calls Tryd.prog 85 #[.int .i64 x] w fun e w' => e = .returned (.bool false) ∧ w = w' := by
  have e1 : (x != x) = false := by simp
  go_enter Tryd.func85, Tryd.ntmps85
  go_wp2
  go_ret
  exact ⟨rfl, rfl⟩
/-- As cmp.Compare compares. -/
def cmpI (x y : Int) : Int := if x < y then -1 else if y < x then 1 else 0
set_option maxHeartbeats 2000000 in
theorem cmp_any (x y : Int) (w : World) : Calls Tryd.prog 80 #[.int .i64 x, .int .i64 y] w fun e w' => e = .returned (.int .i64 (cmpI x y)) ∧ w = w' := by
  rcases Int.lt_trichotomy x y with h | h | h
  · have HC : Hid (cmpI x y = -1) := Lib.hid (by rw [cmpI, if_pos h])
    go_enter Tryd.func80, Tryd.ntmps80
    go_wp2_with (go_at_call 85; refine (isNaN_any _ _).mono ?_; rintro e w9 ⟨rfl, rfl⟩)
    go_ret
    exact ⟨ret_i HC.out.symm, rfl⟩
  · subst h
    have HC : Hid (cmpI x x = 0) := Lib.hid (by rw [cmpI, if_neg (by omega), if_neg (by omega)])
    have e1 : ¬ x < x := by omega
    go_enter Tryd.func80, Tryd.ntmps80
    go_wp2_with (go_at_call 85; refine (isNaN_any _ _).mono ?_; rintro e w9 ⟨rfl, rfl⟩)
    go_ret
    exact ⟨ret_i HC.out.symm, rfl⟩
  · have HC : Hid (cmpI x y = 1) := Lib.hid (by rw [cmpI, if_neg (by omega), if_pos h])
    have e1 : ¬ x < y := by omega
    go_enter Tryd.func80, Tryd.ntmps80
    go_wp2_with (go_at_call 85; refine (isNaN_any _ _).mono ?_; rintro e w9 ⟨rfl, rfl⟩)
    go_ret
    exact ⟨ret_i HC.out.symm, rfl⟩
set_option maxHeartbeats 4000000 in
theorem Compare_any (a b : Option Addr) (n c m d : Nat) (l l' : List Int) (w : World) (h : IsL w a n c l) (h' : IsL w b m d l') : Calls Tryd.prog 52 #[.slice a n c, .slice b m d] w fun e w' => e = .returned (.int .i64 (cmpL l l')) ∧ w = w' := by
  have hcap := h.cap
  have hle := h.le
  have hcap' := h'.cap
  have hle' := h'.le
  have HL := Lib.hid h.len
  have HL' := Lib.hid h'.len
  obtain ⟨E, hE⟩ : ∃ E, cmpL l l' = E := ⟨_, rfl⟩
  have HE := Lib.hid hE
  rw [hE]
  clear hE
  go_enter Tryd.func52, Tryd.ntmps52
  go_wp2_with fail
  go_loopw [11] (fun vi wr => ∃ i : Nat, i ≤ n ∧ i ≤ m ∧ vi = .int .i64 (i : Int) ∧ Hid (cmpL (l.drop i) (l'.drop i) = E) ∧ w = wr) (fun vi _ => n - (intOf vi).toNat)
  case atStart => exact ⟨0, by omega, by omega, rfl, Lib.hid (by rw [List.drop_zero, List.drop_zero]; exact HE.out), rfl⟩
  case round =>
    obtain ⟨i, hi, hm, rfl, hI, rfl⟩ := hrel
    by_cases hlt : i < n
    · have q0 : (i : Int) < (n : Int) := by omega
      obtain ⟨b1, o1, rfl, _, hc1⟩ := h.cells (by omega)
      have y1 := hc1 i hlt
      by_cases hlm : i < m
      · have q1 : (i : Int) < (m : Int) := by omega
        have q2 : decide ((m : Int) ≤ (i : Int)) = false := by simp; omega
        have q3 : ¬ m ≤ i := by omega
        obtain ⟨b2, o2, rfl, _, hc2⟩ := h'.cells (by omega)
        have y2 := hc2 i hlm
        have HS := Lib.hid (cmpL_step (l := l) (m := l') (i := i) (by rw [HL.out]; exact hlt) (by rw [HL'.out]; exact hlm))
        obtain ⟨u, hu⟩ : ∃ u, l.getD i 0 = u := ⟨_, rfl⟩
        obtain ⟨v, hv⟩ : ∃ v, l'.getD i 0 = v := ⟨_, rfl⟩
        rw [hu] at y1 HS
        rw [hv] at y2 HS
        have HC := Lib.hid (fun w => cmp_any u v w)
        clear hc1 hc2 hu hv
        rcases Int.lt_trichotomy u v with huv | huv | huv
        · have HR : Hid (E = -1) := Lib.hid (by rw [← hI.out, HS.out, if_pos huv])
          have HV : Hid (cmpI u v = -1) := Lib.hid (by rw [cmpI, if_pos huv])
          rw [HV.out] at HC
          clear huv
          go_wp2_with fail
          refine (HC.out _).mono ?_
          rintro e w9 ⟨rfl, rfl⟩
          go_wp2_with fail
          go_ret
          exact ⟨ret_i HR.out.symm, rfl⟩
        · subst huv
          have HV : Hid (cmpI u u = 0) := Lib.hid (by rw [cmpI, if_neg (by omega), if_neg (by omega)])
          have HN : Hid (cmpL (l.drop (i + 1)) (l'.drop (i + 1)) = E) := Lib.hid (by rw [← hI.out, HS.out, if_neg (by omega), if_neg (by omega)])
          rw [HV.out] at HC
          clear hI HS
          go_wp2_with fail
          refine (HC.out _).mono ?_
          rintro e w9 ⟨rfl, rfl⟩
          go_wp2_with fail
          go_roundw
          case rel => first | exact ⟨i + 1, by omega, by omega, by go_num, HN, by first | trivial | rfl⟩ | ((repeat apply Exists.intro); exact ⟨⟨i + 1, by omega, by omega, by go_num, HN, by first | trivial | rfl⟩, rfl⟩)
          case measure => (simp [intOf] <;> omega)
        · have HR : Hid (E = 1) := Lib.hid (by rw [← hI.out, HS.out, if_neg (by omega), if_pos huv])
          have HV : Hid (cmpI u v = 1) := Lib.hid (by rw [cmpI, if_neg (by omega), if_pos huv])
          rw [HV.out] at HC
          clear huv
          go_wp2_with fail
          refine (HC.out _).mono ?_
          rintro e w9 ⟨rfl, rfl⟩
          go_wp2_with fail
          go_ret
          exact ⟨ret_i HR.out.symm, rfl⟩
      · have HR : Hid (E = 1) := Lib.hid (by rw [← hI.out, cmpL_longer (by rw [HL.out]; exact hlt) (by rw [HL'.out]; omega)])
        have q2 : decide ((m : Int) ≤ (i : Int)) = true := by simp; omega
        have q3 : m ≤ i := by omega
        clear hc1
        go_wp2_with fail
        go_ret
        exact ⟨ret_i HR.out.symm, rfl⟩
    · obtain rfl : n = i := by omega
      have HR : Hid (E = if n < m then -1 else 0) := Lib.hid (by rw [← hI.out, cmpL_end (by rw [HL.out]; exact Nat.le_refl _), HL'.out])
      by_cases hnm : n < m
      · have q2 : decide ((n : Int) < (m : Int)) = true := by simp; omega
        go_wp2_with fail
        go_ret
        exact ⟨ret_i (by rw [HR.out, if_pos hnm]), rfl⟩
      · have q2 : decide ((n : Int) < (m : Int)) = false := by simp; omega
        go_wp2_with fail
        go_ret
        exact ⟨ret_i (by rw [HR.out, if_neg hnm]), rfl⟩
end Go.Proofs.YtbhjphcomppjgaaDoor
