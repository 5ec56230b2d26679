/- Walks of chapter 06: the reference's count. -/
import Derived.Test.YthocenkedncoeaaWre
import Derived.Test.YthocenkedncoeaaWrc
namespace Go.Proofs.Ythocenkedncoeaa
open Go.RowKit Bench06

theorem innerR_here (m : Nat) (want : Int) (st f k : Nat) (hf : 0 < f) (h : ((k % m : Nat) : Int) = want) : innerR m want st f k = some k := by
  obtain ⟨f', rfl⟩ : ∃ f', f = f' + 1 := ⟨f - 1, by omega⟩
  rw [innerR, if_pos h]
theorem innerR_next (m : Nat) (want : Int) (st f k : Nat) (h : ((k % m : Nat) : Int) ≠ want) : innerR m want st (f + 1) k = innerR m want st f (k + st) := by
  rw [innerR, if_neg h]

set_option maxHeartbeats 1600000 in
set_option maxRecDepth 100000 in
theorem rCount_ok (a : Option Addr) (n c : Nat) (l : List Int) (w : World) (hl : IsL w a n c l) (h : checkL l = 0) :
    Calls Try.prog 30 #[.slice a n c] w fun e w' => e = .returned (.tuple #[.int .i64 (countR l).1, .int .i64 (countR l).2]) ∧ Below w.heap.size w w' := by
  have hlen := hl.len
  obtain ⟨h1, h2, h3, h4⟩ := checkL_ok l h
  rw [hlen] at h1 h2 h4
  have H3 := Lib.hid h3
  have H4 := Lib.hid h4
  have H := Lib.hid h
  have HL := Lib.hid hlen
  clear h h3 h4 hlen
  go_enter Try.func30, Try.ntmps30
  go_wp2_with (first
    | (go_at_call 32; refine (rCheck_any _ _ _ _ _ hl).mono ?_; rintro e w1 ⟨rfl, b1⟩; rw [H.out]; have hl1 := hl.below b1)
    | (go_at_call 58; refine (rremainders_any _ _ _ _ _ hl1 h2 H3.out H4.out).mono ?_; rintro e w2 ⟨ar, cr, rfl, hown, hb⟩))
  have hr0 := hown.isL
  have hb2 := b1.trans (hb.mono b1.size)
  clear hown b1 hb hl1 hl
  generalize hR : remL l = r at *
  have HR : Hid (countR l = outR r n n 1 1) := Lib.hid (by rw [countR, hR, HL.out])
  clear hR
  go_loopw [6, 7, 8, 9] (fun vk vm vs vt wr => ∃ (m k : Nat), 1 ≤ m ∧ m ≤ n + 1 ∧ vm = .int .i64 m ∧ vk = .int .i64 k ∧ (k : Int) ≤ (m : Int) * 6000000000 ∧ IsL wr ar n cr r ∧ Below w.heap.size w wr ∧ Hid (outR r n (n + 1 - m) m k = outR r n n 1 1)) (fun _ vm _ _ _ => n + 1 - (intOf vm).toNat)
  case atStart => exact ⟨1, 1, by omega, by omega, rfl, rfl, by omega, hr0, hb2, Lib.hid (by simp)⟩
  case round =>
    obtain ⟨m, k, hm1, hm2, rfl, rfl, hk, hrr, hbr, heq⟩ := hrel
    by_cases hlt : m ≤ n
    · have hstep := heq.out
      rw [show n + 1 - m = (n + 1 - (m + 1)) + 1 by omega, outR] at hstep
      obtain ⟨L0, L1⟩ := lcmTo_le (m - 1) (by omega)
      obtain ⟨b, of, hab, hbl, hcells⟩ := hrr.cells (by omega)
      subst hab
      have hcell := hcells (n - m) (by omega)
      have hrc := hrr.le
      have hrcap := hrr.cap
      have hmt : ((m : Int) - 1).toNat = m - 1 := by omega
      have HS := Lib.hid hstep
      have HMT := Lib.hid hmt
      clear hcells heq hstep hmt
      generalize hst : lcmTo (m - 1) = st at *
      have HST := Lib.hid hst
      clear hst
      have hww : r[n - m]?.getD 0 = r.getD (n - m) 0 := by simp [List.getD]
      generalize r.getD (n - m) 0 = want at *
      have HW := Lib.hid hww
      clear hww
      go_wp2_with (go_at_call 56; refine (rorders_any _ _ (by omega) (by omega)).mono ?_; rintro e w' ⟨rfl, rfl⟩; rw [HMT.out, HST.out])
      go_loopw [6, 9] (fun vk vt wq => ∃ (t k' : Nat), t ≤ m ∧ vt = .int .i64 t ∧ vk = .int .i64 k' ∧ (k' : Int) ≤ (k : Int) + (t : Int) * 232792560 ∧ IsL wq (some ⟨b, of, none⟩) n cr r ∧ Below w.heap.size w wq ∧ wq.cell? ⟨b, of + (n - m), none⟩ = some (.int .i64 want) ∧ Hid (innerR m want st (m + 1 - t) k' = innerR m want st (m + 1) k)) (fun _ vt _ => m + 1 - (intOf vt).toNat)
      case atStart => exact ⟨0, k, by omega, rfl, rfl, by omega, hrr, hbr, hcell, Lib.hid (by simp)⟩
      case round =>
        obtain ⟨t, k', ht, rfl, rfl, hk', hrq, hbq, hcq, hin⟩ := hrel
        have hcast : ((k' : Int) % (m : Int)) = ((k' % m : Nat) : Int) := by simp
        have q0 := Int.emod_nonneg (k' : Int) (show (m : Int) ≠ 0 by omega)
        have q1 := Int.emod_lt_of_pos (k' : Int) (show (0 : Int) < (m : Int) by omega)
        have hne : ((m : Int) == 0) = false := by simp; omega
        have hne1 : ((m : Int) != 0) = true := by simp; omega
        have hm00 : ¬ m = 0 := by omega
        have hmp : 0 < m := by omega
        have HC := Lib.hid hcast
        have hi0 : (0 : Int) ≤ (n : Int) - (m : Int) := by omega
        have hi1 : (n : Int) - (m : Int) < (n : Int) := by omega
        have hw1 : IntKind.i64.wrap ((n : Int) - (m : Int)) = (n : Int) - (m : Int) := IntWalk.i64_in _ (by omega)
        clear hcast
        by_cases hy : ((k' % m : Nat) : Int) = want
        · have hbool : ((k' : Int) % (m : Int) != want) = false := by rw [HC.out]; simpa using hy
          have hres := hin.out
          rw [innerR_here m want st _ k' (by omega) hy] at hres
          have HN : Hid (outR r n (n + 1 - (m + 1)) (m + 1) k' = outR r n n 1 1) := Lib.hid (by rw [← HS.out, ← hres])
          clear hy hin hres
          go_wp2
          go_quiet (fail)
          go_wp2
          go_roundw
          case rel => exact ⟨m + 1, k', by omega, by omega, by go_num, rfl, by omega, hrq.drewN _, belowN hbq _, HN⟩
          case measure => simp [intOf]; omega
        · have hbool : ((k' : Int) % (m : Int) != want) = true := by rw [HC.out]; simpa using hy
          have hres := hin.out
          rw [show m + 1 - t = (m - t) + 1 by omega, innerR_next m want st _ k' hy] at hres
          have HN := Lib.hid hres
          clear hy hin hres
          by_cases htm : t < m
          · go_wp2
            go_quiet (fail)
            go_wp2
            go_roundw
            case rel => exact ⟨t + 1, k' + st, by omega, by go_num, by go_num, by omega, hrq.drewN _, belowN hbq _, by simpa using hcq, by rw [show m + 1 - (t + 1) = m - t by omega]; exact HN⟩
            case measure => simp [intOf]; omega
          · obtain rfl : t = m := by omega
            have HF : Hid (countR l = (0, 12)) := Lib.hid (by
              have := HN.out
              rw [Nat.sub_self] at this
              rw [HR.out, ← HS.out, ← this]; rfl)
            go_wp2
            go_quiet (fail)
            go_wp2
            go_ret2
            exact ⟨ret_ii (by rw [HF.out]) (by rw [HF.out]), belowN hbq _⟩
    · obtain rfl : m = n + 1 := by omega
      have HF : Hid (countR l = ((k : Int), 0)) := Lib.hid (by rw [HR.out, ← heq.out, Nat.sub_self]; rfl)
      clear heq
      go_wp2
      go_ret2
      exact ⟨ret_ii (by rw [HF.out]) (by rw [HF.out]), hbr⟩
theorem rCount_err (a : Option Addr) (n c : Nat) (l : List Int) (w : World) (hl : IsL w a n c l) (h : checkL l ≠ 0) :
    Calls Try.prog 30 #[.slice a n c] w fun e w' => e = .returned (.tuple #[.int .i64 0, .int .i64 (checkL l)]) ∧ Below w.heap.size w w' := by
  have hd : (checkL l != 0) = true := by simpa using h
  have HC := Lib.hid (rCheck_any a n c l w hl)
  generalize checkL l = q at *
  clear h
  go_enter Try.func30, Try.ntmps30
  go_wp2_with (go_at_call 32; refine HC.out.mono ?_; rintro e w1 ⟨rfl, b1⟩)
  go_ret2
  exact ⟨rfl, b1⟩
end Go.Proofs.Ythocenkedncoeaa
