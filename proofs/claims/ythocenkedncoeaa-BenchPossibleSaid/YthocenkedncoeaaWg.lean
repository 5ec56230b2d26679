/- Walks of chapter 06: what is tried. -/
import Derived.Test.YthocenkedncoeaaWd
import Derived.Test.YthocenkedncoeaaSpecB
namespace Go.Proofs.Ythocenkedncoeaa
open Go.RowKit Bench06

set_option maxHeartbeats 400000 in
set_option maxRecDepth 100000 in
theorem try_any (f : Nat) (p1 p2 : Addr) (p : Nat → Bool) (w : World) (hcf : ∀ (args : Array Value) (w : World), (callFunc f args).run Try.prog w = .ok (.enter f args) w)
    (HC : Hid (∀ (k : Int) (wr : World), 1 ≤ k → k ≤ 1000 → Below w.heap.size w wr → Calls Try.prog f #[.int .i64 k, .pointer (some p1), .pointer (some p2)] wr fun e w' => e = .returned (.bool (p k.toNat)) ∧ Below wr.heap.size wr w')) :
    Calls Try.prog 60 #[.func (.func f) #[] #[.pointer (some p1), .pointer (some p2)]] w fun e w' => e = .returned (.tuple #[.int .i64 (tryL p).1, .int .i64 (tryL p).2]) ∧ Below w.heap.size w w' := by
  go_enter Try.func60, Try.ntmps60
  go_wp2
  go_loopw [5] (fun vi wr => ∃ (k : Nat), k ≤ 1000 ∧ vi = .int .i64 k ∧ Below w.heap.size w wr ∧ Hid (tryG p (1000 - k) k = tryL p)) (fun vi _ => 1000 - (intOf vi).toNat)
  case atStart => exact ⟨0, by omega, rfl, Below.refl _ _, Lib.hid rfl⟩
  case round =>
    obtain ⟨k, hk, rfl, hb, heq⟩ := hrel
    by_cases hlt : k < 1000
    · have hstep := heq.out
      rw [show 1000 - k = (1000 - (k + 1)) + 1 by omega, tryG] at hstep
      have hcall := HC.out ((k : Int) + 1) wr (by omega) (by omega) hb
      have hp : ((k : Int) + 1).toNat = k + 1 := by omega
      rw [hp] at hcall
      have HQ := Lib.hid hcall
      clear hcall hp heq
      cases hpk : p (k + 1) with
      | true =>
        rw [hpk] at HQ hstep
        rw [if_pos rfl] at hstep
        have HS := Lib.hid hstep
        clear hstep hpk
        go_wp2_with fail
        refine HQ.out.mono ?_
        rintro e w1 ⟨rfl, hb1⟩
        go_wp2
        go_ret2
        exact ⟨ret_ii (by rw [← HS.out]) (by rw [← HS.out]), hb.trans (hb1.mono hb.size)⟩
      | false =>
        rw [hpk] at HQ hstep
        rw [if_neg (by simp)] at hstep
        have HS := Lib.hid hstep
        clear hstep hpk
        go_wp2_with fail
        refine HQ.out.mono ?_
        rintro e w1 ⟨rfl, hb1⟩
        go_wp2
        go_roundw
        case rel => exact ⟨k + 1, by omega, by go_num, hb.trans (hb1.mono hb.size), HS⟩
        case measure => simp [intOf]; omega
    · obtain rfl : k = 1000 := by omega
      have HS : Hid (tryL p = (0, 12)) := Lib.hid heq.out.symm
      clear heq
      go_wp2
      go_ret2
      exact ⟨ret_ii (by rw [HS.out]) (by rw [HS.out]), hb⟩

set_option maxHeartbeats 400000 in
theorem small_any (r n k : Int) (p1 p2 : Addr) (w : World) (h0 : 1 ≤ r) (h1 : r ≤ 20) (h2 : 1 ≤ k) (h3 : k ≤ 1000) (c1 : w.cell? p1 = some (.int .i64 r)) (c2 : w.cell? p2 = some (.int .i64 n)) :
    Calls Try.prog 61 #[.int .i64 k, .pointer (some p1), .pointer (some p2)] w fun e w' => e = .returned (.bool (smallP r n k.toNat)) ∧ Below w.heap.size w w' := by
  have HV : Hid ((lastTo k (r.toNat - 1) == n) = smallP r n k.toNat) := Lib.hid (by unfold smallP; rw [show ((k.toNat : Nat) : Int) = k by omega])
  go_enter Try.func61, Try.ntmps61
  go_wp2
  go_quiet ((go_at_call 48; exact Calls.quiet_of_same ((last_any _ _ _ h0 h1 h2 (by omega)).mono (fun e w' h => ⟨h.1, h.2.symm⟩))))
  go_wp2
  go_ret
  exact ⟨ret_b HV.out, (Below.refl _ _).trans ⟨rfl, rfl, rfl, Nat.le_refl _, fun _ _ => rfl⟩⟩

theorem Smallest_ok (r n : Int) (w : World) (h0 : 1 ≤ r) (h1 : r ≤ 20) (h4 : 0 ≤ n) (h5 : n ≤ r - 1) :
    Calls Try.prog 33 #[.int .i64 r, .int .i64 n] w fun e w' => e = .returned (.tuple #[.int .i64 (tryL (smallP r n)).1, .int .i64 (tryL (smallP r n)).2]) ∧ Below w.heap.size w w' := by
  go_enter Try.func33, Try.ntmps33
  go_wp2_with (go_at_call 49; refine (asked_ok _ _ _ _ h0 h1 (by omega) (by omega) h4 h5).mono ?_; rintro e w' ⟨rfl, rfl⟩)
  refine (try_any 61 _ _ (smallP r n) _ (fun _ _ => by simp [go_sem]) (Lib.hid (fun k wr hk1 hk2 hb => ?_))).mono ?_
  · refine small_any r n k _ _ wr h0 h1 hk1 hk2 ?_ ?_
    · rw [hb.cell (p := ⟨w.heap.size, 0, none⟩) (by simp; omega)]; go_cell
    · rw [hb.cell (p := ⟨w.heap.size + 1, 0, none⟩) (by simp)]; go_cell
  · rintro e w2 ⟨rfl, hb⟩
    have hb2 : Below w.heap.size w w2 := (((Below.refl w.heap.size w).alloc (Nat.le_refl _) (.cells #[.int .i64 r] 3)).alloc (by simp) (.cells #[.int .i64 n] 3)).trans (hb.mono (by simp; omega))
    go_wp2
    go_ret2
    exact ⟨rfl, hb2⟩
theorem Smallest_none (r n : Int) (w : World) (h0 : 1 ≤ r) (h1 : r ≤ 20) (h : ¬ (0 ≤ n ∧ n ≤ r - 1)) :
    Calls Try.prog 33 #[.int .i64 r, .int .i64 n] w fun e w' => e = .returned (.tuple #[.int .i64 0, .int .i64 2]) ∧ Below w.heap.size w w' := by
  have H := Lib.hid h
  clear h
  go_enter Try.func33, Try.ntmps33
  go_wp2_with (go_at_call 49; refine (asked_none _ _ _ _ h0 h1 (by omega) (by omega) H.out).mono ?_; rintro e w' ⟨rfl, rfl⟩)
  go_ret2
  exact ⟨rfl, ((Below.refl w.heap.size w).alloc (Nat.le_refl _) _).alloc (by simp) _⟩
theorem Smallest_err (r n : Int) (w : World) (h : ¬ (1 ≤ r ∧ r ≤ 20)) :
    Calls Try.prog 33 #[.int .i64 r, .int .i64 n] w fun e w' => e = .returned (.tuple #[.int .i64 0, .int .i64 1]) ∧ Below w.heap.size w w' := by
  have H := Lib.hid h
  clear h
  go_enter Try.func33, Try.ntmps33
  go_wp2_with (go_at_call 49; refine (asked_err _ _ _ _ (by have := H.out; omega)).mono ?_; rintro e w' ⟨rfl, rfl⟩)
  go_ret2
  exact ⟨rfl, ((Below.refl w.heap.size w).alloc (Nat.le_refl _) _).alloc (by simp) _⟩

set_option maxHeartbeats 800000 in
theorem firstq_any (r k : Int) (p1 p2 : Addr) (ah : Option Addr) (nh ch : Nat) (lh : List Int) (w : World) (h0 : 1 ≤ r) (h1 : r ≤ 20) (h2 : 1 ≤ k) (h3 : k ≤ 1000) (hn : nh ≤ r.toNat) (hl : IsL w ah nh ch lh)
    (c1 : w.cell? p1 = some (.int .i64 r)) (c2 : w.cell? p2 = some (.slice ah nh ch)) (_b1 : p1.block < w.heap.size) (b2 : p2.block < w.heap.size) :
    Calls Try.prog 62 #[.int .i64 k, .pointer (some p1), .pointer (some p2)] w fun e w' => e = .returned (.bool (firstP r lh k.toNat)) ∧ Below w.heap.size w w' := by
  have hlen := Lib.hid hl.len
  have hcap := hl.cap
  have hle := hl.le
  go_enter Try.func62, Try.ntmps62
  go_wp2_with (go_at_call 63; refine (full_any _ _ (by omega) h1).mono ?_; rintro e w1 ⟨a0, c0, rfl, hown0, hb0⟩; have c2' := (hb0.cell b2).trans c2)
  have hl0 := hown0.isL
  clear hown0
  go_loopw [5, 11] (fun vb vi wr => ∃ (i : Nat) (a : Option Addr) (ca : Nat) (l : List Int), i ≤ nh ∧ vi = .int .i64 i ∧ vb = .slice a (r.toNat - i) ca ∧ IsL wr a (r.toNat - i) ca l ∧ Below w.heap.size w wr ∧ Hid (firstG lh k.toNat (nh - i) l = firstP r lh k.toNat)) (fun _ vi _ => nh - (intOf vi).toNat)
  case atStart => exact ⟨0, a0, c0, _, by omega, rfl, rfl, hl0, hb0, Lib.hid (by rw [firstP, hlen.out]; rfl)⟩
  case round =>
    obtain ⟨i, a, ca, l, hi, rfl, rfl, hlr, hbr, heq⟩ := hrel
    by_cases hlt : i < nh
    · generalize hm : r.toNat - i = m at *
      have hm0 : 0 < m := by omega
      have hm1 : m ≤ 20 := by omega
      have HM := Lib.hid hm
      clear hm
      obtain ⟨b, of, rfl, hbl, hcells⟩ := hlr.cells hm0
      have hl2 := hlr.le
      have hl3 := hlr.cap
      have i0 := Int.emod_nonneg (k - 1) (show (m : Int) ≠ 0 by omega)
      have i1 := Int.emod_lt_of_pos (k - 1) (show (0 : Int) < (m : Int) by omega)
      have hcell := hcells ((k - 1) % (m : Int)).toNat (by omega)
      have hne : ((m : Int) == 0) = false := by simp; omega
      have c2r := (hbr.cell b2).trans c2
      have hlhr := hl.below hbr
      have hmk : (k.toNat - 1) % l.length = ((k - 1) % (m : Int)).toNat := by
        rw [hlr.len]
        have : (k - 1) = ((k.toNat - 1 : Nat) : Int) := by omega
        rw [this, ← Int.natCast_emod]; rfl
      have hstep := heq.out
      rw [show nh - i = (nh - (i + 1)) + 1 by omega, firstG, hmk] at hstep
      by_cases hin : l.getD ((k - 1) % (m : Int)).toNat 0 ∈ lh
      · rw [if_pos hin] at hstep
        have HS := Lib.hid hstep
        have HI := Lib.hid hin
        clear hstep hin hmk heq hcells
        generalize l.getD ((k - 1) % (m : Int)).toNat 0 = x at *
        go_wp2
        go_quiet ((go_at_call 40; exact Calls.quiet_of_same ((contains_yes _ _ _ _ _ _ (hlhr.drewN _) HI.out).mono (fun e w' h => ⟨h.1, h.2.symm⟩))))
        have hl6 : IsL (wr.drewN nq) (some ⟨b, of, none⟩) m ca l := hlr.below ((Below.refl _ _).trans ⟨rfl, rfl, rfl, Nat.le_refl _, fun _ _ => rfl⟩)
        have hb6 : Below w.heap.size w (wr.drewN nq) := hbr.trans ⟨rfl, rfl, rfl, Nat.le_refl _, fun _ _ => rfl⟩
        clear hcell hlr hbr hlhr c2r hbl
        generalize wr.drewN nq = wq at *
        go_wp2_with (go_at_call 64; refine (gone_any _ _ _ _ _ _ hl6 i0 i1 hm1).mono ?_; rintro e w3 ⟨a3, c3, rfl, hl5, hb5, hv5⟩)
        go_roundw
        case rel => exact ⟨i + 1, a3, c3, _, by omega, by go_num, by rw [show r.toNat - (i + 1) = m - 1 by have := HM.out; omega], by rw [show r.toNat - (i + 1) = m - 1 by have := HM.out; omega]; exact hl5, hb6.trans (hb5.mono hb6.size), HS⟩
        case measure => simp [intOf]; omega
      · rw [if_neg hin] at hstep
        have HS := Lib.hid hstep
        have HI := Lib.hid hin
        clear hstep hin hmk heq hcells
        generalize l.getD ((k - 1) % (m : Int)).toNat 0 = x at *
        go_wp2
        go_quiet ((go_at_call 40; exact Calls.quiet_of_same ((contains_no _ _ _ _ _ _ (hlhr.drewN _) HI.out).mono (fun e w' h => ⟨h.1, h.2.symm⟩))))
        go_wp2
        go_ret
        exact ⟨ret_b HS.out, hbr.trans ⟨rfl, rfl, rfl, Nat.le_refl _, fun _ _ => rfl⟩⟩
    · obtain rfl : i = nh := by omega
      have HS : Hid (true = firstP r lh k.toNat) := Lib.hid (by rw [← heq.out, Nat.sub_self]; rfl)
      clear heq
      go_wp2
      go_ret
      exact ⟨ret_b HS.out, hbr⟩
end Go.Proofs.Ythocenkedncoeaa
