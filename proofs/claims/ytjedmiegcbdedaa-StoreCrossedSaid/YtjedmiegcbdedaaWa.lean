/- Walks of chapter 11, first part: sizes and checks. -/
import Derived.Test.YtjedmiegcbdedaaRows
import Derived.Test.YtjedmiegcbdedaaLib
import Derived.Test.YtjedmiegcbdedaaLib5
import Derived.Test.YtjedmiegcbdedaaSpec
namespace Go.Proofs.Ytjedmiegcbdedaa
open Go.RowKit Store11

theorem elem3 : (Try.prog.info? 3).map (fun i => (i.zero, i.size, i.bytes)) = some (some (.int .i64 0), 1, 8) := by kernel_rfl

theorem list_any (a : Option Addr) (n c : Nat) (w : World) : Calls Try.prog 44 #[.slice a n c] w fun e w' => e = .returned (.slice a n c) ∧ w = w' := by
  go_enter Try.func44, Try.ntmps44
  go_wp2
  go_ret
  exact ⟨rfl, rfl⟩
set_option maxHeartbeats 400000 in
theorem same_yes (a b : Option Addr) (n c n' c' : Nat) (l l' : List Int) (w : World) (h : IsL w a n c l) (h' : IsL w b n' c' l') (he : l = l') :
    Calls Try.prog 20 #[.slice a n c, .slice b n' c'] w fun e w' => e = .returned (.bool true) ∧ Below w.heap.size w w' := by
  subst he
  obtain rfl : n' = n := by rw [← h.len, ← h'.len]
  have hcap := h.cap
  have hle := h.le
  have hcap' := h'.cap
  have hle' := h'.le
  have hr : ((n' : Int) != (n' : Int)) = false := by simp
  go_enter Try.func20, Try.ntmps20
  go_wp2
  go_loopw [5] (fun vi wr => ∃ k : Nat, k ≤ n' ∧ vi = .int .i64 k ∧ Below w.heap.size w wr) (fun vi _ => n' - (intOf vi).toNat)
  case atStart => exact ⟨0, by omega, rfl, Below.refl _ _⟩
  case round =>
    obtain ⟨k, hk, rfl, hb⟩ := hrel
    by_cases hlt : k < n'
    · obtain ⟨b1, o1, rfl, hb1, hc1⟩ := h.cells (by omega)
      obtain ⟨b2, o2, rfl, hb2, hc2⟩ := h'.cells (by omega)
      have x1 := (hb.cell (p := ⟨b1, o1 + k, none⟩) hb1).trans (hc1 k hlt)
      have x2 := (hb.cell (p := ⟨b2, o2 + k, none⟩) hb2).trans (hc2 k hlt)
      clear hc1 hc2
      generalize l.getD k 0 = x at *
      have q1 : (k : Int) < (n' : Int) := by omega
      have hx : (x != x) = false := by simp
      go_wp2
      go_quiet (fail)
      go_wp2
      go_roundw
      case rel => exact ⟨k + 1, by omega, by go_num, belowN hb _⟩
      case measure => simp [intOf]; omega
    · go_wp2
      go_ret
      exact ⟨rfl, hb⟩
theorem ranged_yes (n : Int) (w : World) (h0 : 1 ≤ n) (h1 : n ≤ 9) : Calls Try.prog 67 #[.int .i64 n] w fun e w' => e = .returned (.bool true) ∧ w = w' := by
  have hd : decide (n ≤ 9) = true := by simpa using h1
  go_enter Try.func67, Try.ntmps67
  go_wp2
  go_ret
  exact ⟨rfl, rfl⟩
theorem ranged_no (n : Int) (w : World) (h : ¬ (1 ≤ n ∧ n ≤ 9)) : Calls Try.prog 67 #[.int .i64 n] w fun e w' => e = .returned (.bool false) ∧ w = w' := by
  have : n < 1 ∨ (1 ≤ n ∧ 9 < n) := by omega
  clear h
  rcases this with h | ⟨h1, h2⟩
  rotate_right
  have hd : decide (n ≤ 9) = false := by simpa using h2
  all_goals
    go_enter Try.func67, Try.ntmps67
    go_wp2
    go_ret
    exact ⟨rfl, rfl⟩
theorem sized_any (a : Option Addr) (n c : Nat) (w : World) : Calls Try.prog 59 #[.slice a n c] w fun e w' => e = .returned (.int .i64 (sizeE n)) ∧ w = w' := by
  rcases Nat.eq_zero_or_pos n with rfl | h
  · go_enter Try.func59, Try.ntmps59
    go_wp2
    go_ret
    exact ⟨rfl, rfl⟩
  · have hz : ((n : Int) == 0) = false := by simp; omega
    by_cases h9 : 9 < n
    · have hv : (3 : Int) = sizeE n := by rw [sizeE, if_neg (by omega), if_pos h9]
      have HV := Lib.hid hv
      clear hv
      go_enter Try.func59, Try.ntmps59
      go_wp2
      go_ret
      exact ⟨ret_i HV.out, rfl⟩
    · have hv : (0 : Int) = sizeE n := by rw [sizeE, if_neg (by omega), if_neg h9]
      have HV := Lib.hid hv
      clear hv
      go_enter Try.func59, Try.ntmps59
      go_wp2
      go_ret
      exact ⟨ret_i HV.out, rfl⟩

set_option maxHeartbeats 400000 in
theorem Check_any (a : Option Addr) (n c : Nat) (l : List Int) (w : World) (hl : IsL w a n c l) : Calls Try.prog 21 #[.slice a n c] w fun e w' => e = .returned (.int .i64 (chkL l)) ∧ w = w' := by
  have hlen := hl.len
  by_cases hs : sizeE n = 0
  · have hn9 : 0 < n ∧ n ≤ 9 := by unfold sizeE at hs; split at hs <;> (try split at hs) <;> omega
    obtain ⟨b, o, rfl, hb, hc⟩ := hl.cells hn9.1
    have hcap := hl.cap
    have hle := hl.le
    have hv : chkL l = chkG 0 l := by rw [chkL, hlen, hs, if_neg (by omega)]
    rw [hv]
    have HC := Lib.hid hc
    have HS := Lib.hid hs
    have HL := Lib.hid hlen
    clear hv hc hs hlen hl
    go_enter Try.func21, Try.ntmps21
    go_wp2_with (go_at_call 59; refine (sized_any _ n c _).mono ?_; rintro e w' ⟨rfl, rfl⟩; rw [HS.out])
    go_loop [4, 14] (fun vn vi => ∃ (k x : Nat), k ≤ n ∧ x ≤ k ∧ vi = .int .i64 k ∧ vn = .int .i64 x ∧ Hid (chkG x (l.drop k) = chkG 0 l)) (fun _ vi => n - (intOf vi).toNat)
    case atStart => exact ⟨0, 0, by omega, by omega, rfl, rfl, Lib.hid rfl⟩
    case round =>
      obtain ⟨k, x, hk, hxk, rfl, rfl, hg⟩ := hrel
      by_cases hlt : k < n
      · have hck := HC.out k hlt
        have hdr := hg.out
        rw [drop_getD l k (by rw [HL.out]; exact hlt), chkG] at hdr
        clear hg
        generalize l.getD k 0 = y at *
        rcases (by omega : y < 0 ∨ (0 ≤ y ∧ (x : Int) < y) ∨ (0 ≤ y ∧ y < (x : Int)) ∨ y = (x : Int)) with h | ⟨h0, h⟩ | ⟨h0, h⟩ | h
        · rw [if_pos h] at hdr
          have HD := Lib.hid hdr
          clear hdr
          go_wp2
          go_ret
          exact ⟨ret_i HD.out, rfl⟩
        · rw [if_neg (by omega), if_pos h] at hdr
          have HD := Lib.hid hdr
          clear hdr
          go_wp2
          go_ret
          exact ⟨ret_i HD.out, rfl⟩
        · rw [if_neg (by omega), if_neg (by omega), if_neg (by omega)] at hdr
          have HD := Lib.hid hdr
          have hyx : (y == (x : Int)) = false := by simp; omega
          clear hdr
          go_wp2
          go_round
          case rel => exact ⟨k + 1, x, by omega, by omega, by go_num, rfl, HD⟩
          case measure => simp [intOf]; omega
        · rw [if_neg (by omega), if_neg (by omega), if_pos h] at hdr
          have HD : Hid (chkG ((x + 1 : Nat) : Int) (l.drop (k + 1)) = chkG 0 l) := Lib.hid (by rw [← hdr]; rfl)
          subst h
          clear hdr
          go_wp2
          go_round
          case rel => exact ⟨k + 1, x + 1, by omega, by omega, by go_num, by go_num, HD⟩
          case measure => simp [intOf]; omega
      · have hz := hg.out
        rw [List.drop_of_length_le (by rw [HL.out]; omega)] at hz
        have HZ := Lib.hid hz
        clear hz hg
        go_wp2
        go_ret
        exact ⟨ret_i HZ.out, rfl⟩
  · have hv : chkL l = sizeE n := by rw [chkL, hlen, if_pos hs]
    rw [hv]
    have hse : (sizeE n != 0) = true := by simpa using hs
    clear hv hs hl hlen
    go_enter Try.func21, Try.ntmps21
    go_wp2_with (go_at_call 59; refine (sized_any _ n c _).mono ?_; rintro e w' ⟨rfl, rfl⟩)
    go_ret
    exact ⟨rfl, rfl⟩
end Go.Proofs.Ytjedmiegcbdedaa
