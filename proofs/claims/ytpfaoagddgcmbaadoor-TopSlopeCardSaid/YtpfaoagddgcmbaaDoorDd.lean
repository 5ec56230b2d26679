/- Walks of chapter 1 at the top seat: what is within, and lists without errors; the table behind TrailingZeros64. -/
import Derived.Test.YtpfaoagddgcmbaaDoorGa
import Derived.Test.YtpfaoagddgcmbaaDoorDa
import Derived.Laws.BitsAllLaws
import Derived.Laws.Bits64b
import Derived.Shelf.Spec.TrailingZeros
namespace Go.Proofs.YtpfaoagddgcmbaaDoor
open Go.RowKit Dock01
/-- Go's table behind bits.TrailingZeros64 is as it was laid. -/
def Tab (w : World) : Prop := TabAt 1 Lib.deBruijn64tab w
theorem Tab.below {w w' : World} (h : Tab w) (hb : Below w.heap.size w w') : Tab w' := by
  intro j hj
  have h1 := h j hj
  have hlt : 1 < w.heap.size := by
    rcases Nat.lt_or_ge 1 w.heap.size with h2 | h2
    · exact h2
    · exfalso
      have : w.heap[1]? = none := Array.getElem?_eq_none h2
      simp [World.cell?, this] at h1
  rw [hb.cell (p := ⟨1, j, none⟩) hlt]
  exact h1
set_option maxHeartbeats 1000000 in
theorem tz_core (x k idx : Nat) (w : World) (hx0 : ((x : Int) == 0) = false)
    (key : IntKind.u64.wrap (bits BinOp.and IntKind.u64 (x : Int) (IntKind.u64.wrap (-(x : Int))) * 285870213051353865) / 288230376151711744 = (idx : Int))
    (hi : idx < 64) (hk : k < 64) (hcell : w.cell? ⟨1, idx, none⟩ = some (.int .u8 k)) : Calls Tryd.prog 137 #[.int .u64 (x : Int)] w fun e w' => e = .returned (.int .i64 k) ∧ w = w' := by
  go_enter Tryd.func137, Tryd.ntmps137
  go_wp2_with (simp only [key])
  go_ret
  exact ⟨rfl, rfl⟩
theorem tz64_any (x : Nat) (w : World) (hT : Tab w) (hx0 : 0 < x) (hx : x < 18446744073709551616) : Calls Tryd.prog 137 #[.int .u64 (x : Int)] w fun e w' => e = .returned (.int .i64 (Lib.ctz 64 x)) ∧ w = w' := by
  obtain ⟨hlow, hk⟩ := Lib.lowest_bit 64 x (by omega) hx
  obtain ⟨hi, htab⟩ := Lib.deBruijn64_at _ hk
  have hcell := hT _ hi
  rw [htab] at hcell
  exact tz_core x _ _ w (by simp; omega) (tz64_key x _ hx (by omega) hlow) hi hk hcell
theorem tz_any (x : Nat) (w : World) (hT : Tab w) (hx0 : 0 < x) (hx : x < 18446744073709551616) (k : Nat) (hk : Lib.ctz 64 x = k) : Calls Tryd.prog 117 #[.int .u64 (x : Int)] w fun e w' => e = .returned (.int .i64 (k : Int)) ∧ w = w' := by
  subst hk
  have HC := Lib.hid (tz64_any x w hT hx0 hx)
  have hw : IntKind.u64.wrap (x : Int) = (x : Int) := by rw [IntKind.wrap_u64]; omega
  go_enter Tryd.func117, Tryd.ntmps117
  go_wp2_with fail
  refine HC.out.mono ?_
  rintro e w1 ⟨rfl, rfl⟩
  go_wp2_with fail
  go_ret
  exact ⟨rfl, rfl⟩
theorem within_any (n lo hi : Int) (w : World) (B : Bool) (hB : decide (lo ≤ n ∧ n ≤ hi) = B) : Calls Tryd.prog 63 #[.int .i64 n, .int .i64 lo, .int .i64 hi] w fun e w' => e = .returned (.bool B) ∧ w = w' := by
  subst hB
  by_cases h1 : lo ≤ n
  · by_cases h2 : n ≤ hi
    · have e : decide (lo ≤ n ∧ n ≤ hi) = true := by simp [h1, h2]
      rw [e]
      go_enter Tryd.func63, Tryd.ntmps63
      go_wp2
      go_ret
      exact ⟨rfl, rfl⟩
    · have e : decide (lo ≤ n ∧ n ≤ hi) = false := by simp [h2]
      have h3 : hi < n := by omega
      rw [e]
      go_enter Tryd.func63, Tryd.ntmps63
      go_wp2
      go_ret
      exact ⟨rfl, rfl⟩
  · have e : decide (lo ≤ n ∧ n ≤ hi) = false := by simp [h1]
    have h3 : n < lo := by omega
    rw [e]
    go_enter Tryd.func63, Tryd.ntmps63
    go_wp2
    go_ret
    exact ⟨rfl, rfl⟩
abbrev lisF (p : Nat) : Value := .func (.func 122) #[] #[.pointer (some ⟨p, 0, none⟩)]
theorem lis1_no (x last : Int) (p : Nat) (w : World) (hc : w.cell? ⟨p, 0, none⟩ = some (.int .i64 last)) (h0 : 0 ≤ x) (h1 : x ≤ last) :
    Calls Tryd.prog 122 #[.int .i64 x, .pointer (some ⟨p, 0, none⟩)] w fun e w' => e = .returned (.bool false) ∧ w = w' := by
  have HC := Lib.hid (within_any x 0 last w true (by simp [h0, h1]))
  go_enter Tryd.func122, Tryd.ntmps122
  go_wp2_with fail
  refine HC.out.mono ?_
  rintro e w1 ⟨rfl, rfl⟩
  go_wp2
  go_ret
  exact ⟨rfl, rfl⟩
/-- All numbers of the list lie between 0 and the last one. -/
def InL (l : List Int) (last : Int) : Prop := ∀ i, i < l.length → 0 ≤ l.getD i 0 ∧ l.getD i 0 ≤ last
set_option maxHeartbeats 1000000 in
theorem idxI_no (a : Option Addr) (n c p : Nat) (l : List Int) (last : Int) (w : World) (h : IsL w a n c l) (hc : w.cell? ⟨p, 0, none⟩ = some (.int .i64 last)) (hl : InL l last) (hn : n ≤ 1000) :
    Calls Tryd.prog 140 #[.slice a n c, lisF p] w fun e w' => e = .returned (.int .i64 (-1)) ∧ Below w.heap.size w w' := by
  have HH := Lib.hid h
  have hle := h.le
  have hcap := h.cap
  have HL : Hid (l.length = n) := Lib.hid h.len
  have HI := Lib.hid hl
  have hp : p < w.heap.size := by
    rcases Nat.lt_or_ge p w.heap.size with h2 | h2
    · exact h2
    · exfalso
      have : w.heap[p]? = none := Array.getElem?_eq_none h2
      simp [World.cell?, this] at hc
  clear h hl
  go_enter Tryd.func140, Tryd.ntmps140
  go_wp2_with fail
  go_loopw [8] (fun vi wr => ∃ i : Nat, i ≤ n ∧ vi = .int .i64 (i : Int) ∧ Below w.heap.size w wr) (fun vi _ => n - (intOf vi).toNat)
  case atStart => exact ⟨0, by omega, rfl, Below.refl _ _⟩
  case round =>
    obtain ⟨i, hi, rfl, hb⟩ := hrel
    have w1 : IntKind.i64.wrap ((i : Int) + 1) = (i : Int) + 1 := IntWalk.i64_in _ (by omega)
    by_cases hlt : i < n
    · have q1 : (i : Int) < (n : Int) := by omega
      have hk := HH.out.below hb
      obtain ⟨b', o', rfl, hbl, hcell⟩ := hk.cells (by omega)
      have c1 := hcell i hlt
      obtain ⟨h1, h2⟩ := HI.out i (by rw [HL.out]; exact hlt)
      have hcp : wr.cell? ⟨p, 0, none⟩ = some (.int .i64 last) := by rw [hb.cell (p := ⟨p, 0, none⟩) hp]; exact hc
      have HC := Lib.hid (lis1_no _ last p wr hcp h1 h2)
      clear hk hcell h1 h2 hcp hc
      go_wp2_with fail
      refine HC.out.mono ?_
      rintro e w2 ⟨rfl, rfl⟩
      go_wp2_with fail
      exact ⟨⟨i + 1, by omega, by go_num, hb⟩, by simp [intOf]; omega⟩
    · obtain rfl : i = n := by omega
      go_wp2
      go_ret
      exact ⟨rfl, hb⟩
theorem hasI_no (a : Option Addr) (n c p : Nat) (l : List Int) (last : Int) (w : World) (h : IsL w a n c l) (hc : w.cell? ⟨p, 0, none⟩ = some (.int .i64 last)) (hl : InL l last) (hn : n ≤ 1000) :
    Calls Tryd.prog 121 #[.slice a n c, lisF p] w fun e w' => e = .returned (.bool false) ∧ Below w.heap.size w w' := by
  have HC := Lib.hid (idxI_no a n c p l last w h hc hl hn)
  go_enter Tryd.func121, Tryd.ntmps121
  go_wp2_with fail
  refine HC.out.mono ?_
  rintro e w1 ⟨rfl, b1⟩
  go_wp2
  go_ret
  exact ⟨rfl, b1⟩
theorem listed_ok (a : Option Addr) (n c : Nat) (bays last : Int) (l : List Int) (w : World) (h : IsL w a n c l) (hb1 : 1 ≤ bays) (hb8 : bays ≤ 8) (hn : (n : Int) ≤ bays) (hl : InL l last) :
    Calls Tryd.prog 108 #[.int .i64 bays, .int .i64 last, .slice a n c] w fun e w' => e = .returned (.int .i64 0) ∧ Below w.heap.size w w' := by
  have HW := Lib.hid (fun w => within_any bays 1 8 w true (by simp [hb1, hb8]))
  have HH := Lib.hid h
  have HI := Lib.hid hl
  clear h hl
  go_enter Tryd.func108, Tryd.ntmps108
  go_wp2_with fail
  refine (HW.out _).mono ?_
  rintro e w1 ⟨rfl, rfl⟩
  go_wp2_with fail
  refine (hasI_no a n c _ l last _ (HH.out.alloc _) ?_ HI.out (by omega)).mono ?_
  · simp [go_sem]
  rintro e w2 ⟨rfl, b2⟩
  go_wp2
  go_ret
  exact ⟨rfl, ((Below.refl _ w).alloc (Nat.le_refl _) _).trans (b2.mono (by simp))⟩
theorem CheckD_ok (a : Option Addr) (n c : Nat) (bays : Int) (l : List Int) (w : World) (h : IsL w a n c l) (hb1 : 1 ≤ bays) (hb8 : bays ≤ 8) (hn : (n : Int) ≤ bays) (hl : InL l (bays - 1)) :
    Calls Tryd.prog 102 #[.int .i64 bays, .slice a n c] w fun e w' => e = .returned (.int .i64 0) ∧ Below w.heap.size w w' := by
  have HC := Lib.hid (listed_ok a n c bays (bays - 1) l w h hb1 hb8 hn hl)
  have w1 : IntKind.i64.wrap (bays - 1) = bays - 1 := IntWalk.i64_in _ (by omega)
  go_enter Tryd.func102, Tryd.ntmps102
  go_wp2_with fail
  refine HC.out.mono ?_
  rintro e w1 ⟨rfl, b1⟩
  go_wp2
  go_ret
  exact ⟨rfl, b1⟩
end Go.Proofs.YtpfaoagddgcmbaaDoor
