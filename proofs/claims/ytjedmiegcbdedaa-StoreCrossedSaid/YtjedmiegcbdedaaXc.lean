/- Walks of chapter 11: rooms. -/
import Derived.Test.YtjedmiegcbdedaaXb
import Derived.Test.YtjedmiegcbdedaaPk
namespace Go.Proofs.Ytjedmiegcbdedaa
open Go.RowKit Store11

set_option maxHeartbeats 2000000 in
set_option maxRecDepth 100000 in
theorem Max_any (a : Option Addr) (n c : Nat) (l : List Int) (w : World) (h : IsL w a n c l) (hn : 1 ≤ n) : Calls Try.prog 88 #[.slice a n c] w fun e w' => e = .returned (.int .i64 (mxT l (n - 1))) ∧ w = w' := by
  have hcap := h.cap
  have hle := h.le
  obtain ⟨b, o, rfl, _, hc⟩ := h.cells (by omega)
  have x0 := hc 0 (by omega)
  obtain ⟨v0, hv0⟩ : ∃ v, l.getD 0 0 = v := ⟨_, rfl⟩
  have H0 := Lib.hid hv0
  rw [H0.out] at x0
  clear hv0
  have HC := Lib.hid hc
  clear hc
  have q0 : ((n : Int) < 1) = False := by simp; omega
  have q1 : (0 : Int) < (n : Int) := by omega
  simp only [Nat.add_zero] at x0
  go_enter Try.func88, Try.ntmps88
  go_wp2_with fail
  go_loopw [3, 4] (fun vm vi wr => ∃ i : Nat, 1 ≤ i ∧ i ≤ n ∧ vi = .int .i64 (i : Int) ∧ vm = .int .i64 (mxT l (i - 1)) ∧ w = wr) (fun _ vi _ => n - (intOf vi).toNat)
  case atStart => exact ⟨1, by omega, by omega, rfl, by rw [← H0.out]; rfl, rfl⟩
  case round =>
    obtain ⟨i, hi1, hi, rfl, rfl, rfl⟩ := hrel
    by_cases hlt : i < n
    · have x := HC.out i hlt
      have HS : Hid (mxT l (i + 1 - 1) = if mxT l (i - 1) < l.getD i 0 then l.getD i 0 else mxT l (i - 1)) := Lib.hid (by
        obtain ⟨t, rfl⟩ : ∃ t, i = t + 1 := ⟨i - 1, by omega⟩
        rfl)
      have q2 : (i : Int) < (n : Int) := by omega
      obtain ⟨v, hv⟩ : ∃ v, l.getD i 0 = v := ⟨_, rfl⟩
      rw [hv] at x HS
      obtain ⟨u, hu⟩ : ∃ u, mxT l (i - 1) = u := ⟨_, rfl⟩
      rw [hu] at HS ⊢
      clear x0 hv hu
      go_wp2_with fail
      go_roundw
      case rel => exact ⟨i + 1, by omega, by omega, by go_num, by rw [HS.out], trivial⟩
      case measure => simp [intOf]; omega
    · obtain rfl : i = n := by omega
      go_wp2
      go_ret
      exact ⟨rfl, rfl⟩

set_option maxHeartbeats 2000000 in
theorem rooms_any (a : Option Addr) (n c : Nat) (l : List Int) (w : World) (h : IsL w a n c l) (hn : 1 ≤ n) (hb : 0 ≤ roomsN l ∧ roomsN l ≤ 100) : Calls Try.prog 51 #[.slice a n c] w fun e w' => e = .returned (.int .i64 (roomsN l)) ∧ w = w' := by
  have hl := h.len
  have HR : Hid (mxT l (n - 1) + 1 = roomsN l) := Lib.hid (by rw [roomsN, hl])
  have w1 : IntKind.i64.wrap (mxT l (n - 1) + 1) = mxT l (n - 1) + 1 := IntWalk.i64_in _ (by have := HR.out; omega)
  clear hl
  go_enter Try.func51, Try.ntmps51
  go_wp2_with (go_at_call 88; refine (Max_any a n c l _ h hn).mono ?_; rintro e w9 ⟨rfl, rfl⟩)
  go_ret
  exact ⟨ret_i HR.out, rfl⟩
end Go.Proofs.Ytjedmiegcbdedaa
