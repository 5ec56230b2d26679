/- Walks of chapter 06: the count of an order. -/
import Derived.Test.YthocenkedncoeaaWe
import Derived.Test.YthocenkedncoeaaSpecB
namespace Go.Proofs.Ythocenkedncoeaa
open Go.RowKit Bench06

set_option maxHeartbeats 1600000 in
set_option maxRecDepth 100000 in
theorem Count_ok (a : Option Addr) (n c : Nat) (l : List Int) (w : World) (hl : IsL w a n c l) (h : checkL l = 0) :
    Calls Try.prog 29 #[.slice a n c] w fun e w' => e = .returned (.tuple #[.int .i64 (countL l).1, .int .i64 (countL l).2]) ∧ Below w.heap.size w w' := by
  have hlen := hl.len
  obtain ⟨h1, h2, h3, h4⟩ := checkL_ok l h
  rw [hlen] at h1 h2 h4
  have H3 := Lib.hid h3
  have H4 := Lib.hid h4
  have H := Lib.hid h
  have HL := Lib.hid hlen
  have hle := hl.le
  have hcap := hl.cap
  obtain ⟨L0, L1⟩ := lcmTo_le n h2
  have hdv := Lib.hid (fun m => lcmTo_dvd n m h2)
  clear h h3 h4 hlen
  go_enter Try.func29, Try.ntmps29
  go_wp2_with (first | (go_at_call 31; refine (Check_any _ _ _ _ _ hl).mono ?_; rintro e w1 ⟨rfl, rfl⟩; rw [H.out]) | (go_at_call 57; refine (remainders_any _ _ _ _ _ hl h2 H3.out H4.out).mono ?_; rintro e w1 ⟨ar, cr, rfl, hown, hb⟩))
  have hr0 := hown.isL
  have hr1 := hr0.le
  have hr2 := hr0.cap
  clear hown
  generalize hR : remL l = r at *
  have HR := Lib.hid hR
  clear hR
  go_loopw [7, 8, 9] (fun vk vs vm wr => ∃ (m k st : Nat), m ≤ n ∧ vm = .int .i64 m ∧ vk = .int .i64 k ∧ vs = .int .i64 st ∧ 0 < st ∧ Hid (st ∣ lcmTo n) ∧ st ≤ 232792560 ∧ (k : Int) + (m : Int) * 232792560 ≤ 4655851200 ∧ IsL wr ar n cr r ∧ Below w.heap.size w wr ∧ Hid (outG r n m k st = outG r n n 0 1)) (fun _ _ vm _ => (intOf vm).toNat)
  case atStart => exact ⟨n, 0, 1, by omega, rfl, rfl, rfl, by omega, Lib.hid (Nat.one_dvd _), by omega, by omega, hr0, hb, Lib.hid rfl⟩
  case round =>
    obtain ⟨m, k, st, hm, rfl, rfl, rfl, hst, hsd, hsl, hk, hrr, hbr, heq⟩ := hrel
    by_cases hlt : 0 < m
    · obtain ⟨m', rfl⟩ : ∃ m', m = m' + 1 := ⟨m - 1, by omega⟩
      have hk3 : (k : Int) + (m' : Int) * 232792560 ≤ 4655851200 := by omega
      have hg : 0 < Nat.gcd st (m' + 1) := Nat.gcd_pos_of_pos_left _ hst
      have hgl : Nat.gcd st (m' + 1) ≤ m' + 1 := Nat.gcd_le_right _ (by omega)
      have hby0 : 0 < (m' + 1) / Nat.gcd st (m' + 1) := Nat.div_pos hgl hg
      have hby1 : (m' + 1) / Nat.gcd st (m' + 1) ≤ m' + 1 := Nat.div_le_self _ _
      have hcd : (((m' + 1 : Nat) : Int) / ((Nat.gcd st (m' + 1) : Nat) : Int)) = (((m' + 1) / Nat.gcd st (m' + 1) : Nat) : Int) := by simp
      have hs2 := step_dvd st (m' + 1) (lcmTo n) hsd.out (hdv.out (m' + 1) hm (by omega))
      have hs3 := Nat.le_of_dvd L0 hs2
      have hs4 := Nat.mul_pos hst hby0
      have hstep := heq.out
      rw [outG] at hstep
      generalize hby : (m' + 1) / Nat.gcd st (m' + 1) = y at *
      have HBY := Lib.hid hby
      have HS := Lib.hid hstep
      have HD2 := Lib.hid hs2
      have hcd2 : ((m' : Int) + 1) / ((Nat.gcd st (m' + 1) : Nat) : Int) = (y : Int) := by rw [← hcd]; simp
      obtain ⟨b, of, hab, hbl, hcells⟩ := hrr.cells (by omega)
      subst hab
      have hcell := hcells (n - (m' + 1)) (by omega)
      have hi0 : (0 : Int) ≤ (n : Int) - ((m' : Int) + 1) := by omega
      have hi1 : (n : Int) - ((m' : Int) + 1) < (n : Int) := by omega
      clear hby hcd hstep hs2 heq hcells
      by_cases hy1 : y = 1
      · have HY := Lib.hid hy1
        have hyb : ((y : Int) == 1) = true := by simp; omega
        clear hy1 hs3 hs4
        go_wp2_with (first | (go_at_call 59; refine (divisor_any _ _ _ (by omega) (by omega) (by omega) (by omega)).mono ?_; rintro e w2 ⟨rfl, hb2⟩))
        go_roundw
        case rel => exact ⟨m', k, st, by omega, by go_num, rfl, rfl, hst, hsd, hsl, hk3, hrr.below hb2, hbr.trans (hb2.mono hbr.size), Lib.hid (by rw [← HS.out, HY.out]; rfl)⟩
        case measure => simp [intOf]
      · have HY := Lib.hid hy1
        have hyb : ((y : Int) == 1) = false := by simp; omega
        clear hy1
        go_wp2_with (first | (go_at_call 59; refine (divisor_any _ _ _ (by omega) (by omega) (by omega) (by omega)).mono ?_; rintro e w2 ⟨rfl, hb2⟩; have hcell2 : w2.cell? ⟨b, of + (n - (m' + 1)), none⟩ = _ := (hb2.cell (p := ⟨b, of + (n - (m' + 1)), none⟩) hbl).trans hcell))
        have hrr2 := hrr.below hb2
        have hbr2 := hbr.trans (hb2.mono hbr.size)
        clear hcell hcell2 hrr hbr hb2
        have HW : Hid (r[n - (m' + 1)]?.getD 0 = r.getD (n - (m' + 1)) 0) := Lib.hid (by simp [List.getD])
        generalize r[n - (m' + 1)]?.getD 0 = want at *
        generalize ((m' : Int) + 1) / ((Nat.gcd st (m' + 1) : Nat) : Int) = z at *
        subst hcd2
        go_loop [7, 41] (fun vk vi => ∃ (i k' : Nat), i ≤ y ∧ vi = .int .i64 i ∧ vk = .int .i64 k' ∧ k' + (y - i) * st ≤ k + y * st ∧ Hid (innerG (m' + 1) want st (y - i) k' = innerG (m' + 1) want st y k)) (fun _ vi => y - (intOf vi).toNat)
        case atStart => exact ⟨0, k, by omega, rfl, rfl, by simp, Lib.hid rfl⟩
        case round =>
          obtain ⟨i, k', hi, rfl, rfl, hk', hin⟩ := hrel
          have hm0 : ((m' : Int) + 1 == 0) = false := by simp; omega
          have hcast : ((k' : Int) % ((m' : Int) + 1)) = ((k' % (m' + 1) : Nat) : Int) := by simp
          have HC := Lib.hid hcast
          clear hcast
          have hy9 : y * st = st * y := Nat.mul_comm _ _
          rw [hy9] at hk'
          clear hy9
          by_cases hiy : i < y
          · by_cases hw : ((k' % (m' + 1) : Nat) : Int) = want
            · have HI := Lib.hid ((innerG_stop (m' + 1) want st (y - i) k' hw).symm.trans hin.out)
              have hb : ((k' : Int) % ((m' : Int) + 1) == want) = true := by rw [HC.out]; simpa using hw
              clear hw
              go_wp2
              go_roundw
              case rel => exact ⟨m', k', st * y, by omega, by go_num, rfl, by go_num, hs4, HD2, by omega, by omega, hrr2, hbr2, Lib.hid (by rw [← HS.out, if_neg HY.out, ← HW.out, ← HI.out])⟩
              case measure => simp [intOf]
            · have HI := Lib.hid ((innerG_next (m' + 1) want st y i k' hiy hw).symm.trans hin.out)
              have hb : ((k' : Int) % ((m' : Int) + 1) == want) = false := by rw [HC.out]; simpa using hw
              have hms := mul_step y i st hiy
              rw [hms] at hk'
              clear hw hms
              go_wp2
              go_round
              case rel => exact ⟨i + 1, k' + st, by omega, by go_num, by go_num, by rw [Nat.mul_comm y st]; omega, HI⟩
              case measure => simp [intOf]; omega
          · have HI := Lib.hid (hin.out : innerG (m' + 1) want st (y - i) k' = _)
            obtain rfl : i = y := by omega
            have HI2 : Hid (k' = innerG (m' + 1) want st i k) := Lib.hid (by rw [← HI.out, Nat.sub_self]; rfl)
            clear HI hin
            rw [Nat.sub_self] at hk'
            go_wp2
            go_roundw
            case rel => exact ⟨m', k', st * i, by omega, by go_num, rfl, by go_num, hs4, HD2, by omega, by omega, hrr2, hbr2, Lib.hid (by rw [← HS.out, if_neg HY.out, ← HW.out, ← HI2.out])⟩
            case measure => simp [intOf]
    · obtain rfl : m = 0 := by omega
      have hq : outG r n n 0 1 = (k, st) := heq.out.symm
      have HQ := Lib.hid hq
      clear hq heq
      go_wp2
      go_loopw [12] (fun vm wq => ∃ (j : Nat), 1 ≤ j ∧ j ≤ n + 1 ∧ vm = .int .i64 j ∧ IsL wq ar n cr r ∧ Below w.heap.size w wq ∧ Hid (∀ i, i + 1 < j → ((k % (i + 1) : Nat) : Int) = r.getD (n - (i + 1)) 0)) (fun vm _ => n + 1 - (intOf vm).toNat)
      case atStart => exact ⟨1, by omega, by omega, rfl, hrr, hbr, Lib.hid (fun i hi => by omega)⟩
      case round =>
        obtain ⟨j, hj1, hj2, rfl, hrq, hbq, hag⟩ := hrel
        by_cases hjn : j ≤ n
        · obtain ⟨b, of, rfl, hbl, hcells⟩ := hrq.cells (by omega)
          have hcell := hcells (n - j) (by omega)
          have hcast : ((k : Int) % (j : Int)) = ((k % j : Nat) : Int) := by simp
          have q0 := Int.emod_nonneg (k : Int) (show (j : Int) ≠ 0 by omega)
          have q1 := Int.emod_lt_of_pos (k : Int) (show (0 : Int) < (j : Int) by omega)
          have hne : ((j : Int) == 0) = false := by simp; omega
          have hj0 : 0 < j := by omega
          have hne1 : ((j : Int) != 0) = true := by simp; omega
          have hj00 : ¬ j = 0 := by omega
          have HC := Lib.hid hcast
          have hi0 : (0 : Int) ≤ (n : Int) - (j : Int) := by omega
          have hi1 : (n : Int) - (j : Int) < (n : Int) := by omega
          have hw1 : IntKind.i64.wrap ((n : Int) - (j : Int)) = (n : Int) - (j : Int) := IntWalk.i64_in _ (by omega)
          clear hcells hcast
          by_cases hy : ((k % j : Nat) : Int) = r.getD (n - j) 0
          · have hag2 : Hid (∀ i, i + 1 < j + 1 → ((k % (i + 1) : Nat) : Int) = r.getD (n - (i + 1)) 0) := Lib.hid (fun i hi => by
              by_cases hij : i + 1 < j
              · exact hag.out i hij
              · obtain rfl : j = i + 1 := by omega
                exact hy)
            have hbool : ((k : Int) % (j : Int) != r.getD (n - j) 0) = false := by rw [HC.out]; simpa using hy
            clear hy
            generalize r.getD (n - j) 0 = y at *
            go_wp2
            go_quiet (fail)
            go_wp2
            go_roundw
            case rel => exact ⟨j + 1, by omega, by omega, by go_num, hrq.below (Below.refl _ _ |>.trans ⟨rfl, rfl, rfl, Nat.le_refl _, fun _ _ => rfl⟩), hbq.trans ⟨rfl, rfl, rfl, Nat.le_refl _, fun _ _ => rfl⟩, hag2⟩
            case measure => simp [intOf]; omega
          · have hbool : ((k : Int) % (j : Int) != r.getD (n - j) 0) = true := by rw [HC.out]; simpa using hy
            have hc := countL_no l k st (by rw [HR.out, HL.out]; exact HQ.out) (by rw [HR.out, HL.out]; exact agree_no r n k j hj1 hjn hy)
            have HV := Lib.hid hc
            clear hy hc
            generalize r.getD (n - j) 0 = y at *
            go_wp2
            go_quiet (fail)
            go_wp2
            go_ret2
            exact ⟨ret_ii (by rw [HV.out]) (by rw [HV.out]), hbq.trans ⟨rfl, rfl, rfl, Nat.le_refl _, fun _ _ => rfl⟩⟩
        · obtain rfl : j = n + 1 := by omega
          have hc := countL_yes l k st (by rw [HR.out, HL.out]; exact HQ.out) (by rw [HR.out, HL.out]; exact agree_yes r n k hag.out)
          have HV := Lib.hid hc
          clear hc
          by_cases hk0 : k = 0
          · subst hk0
            go_wp2
            go_ret2
            exact ⟨ret_ii (by rw [HV.out]; rfl) (by rw [HV.out]), hbq⟩
          · have hkb : ((k : Int) == 0) = false := by simp; omega
            have HK0 := Lib.hid hk0
            clear hk0
            go_wp2
            go_ret2
            exact ⟨ret_ii (by rw [HV.out, if_neg HK0.out]) (by rw [HV.out]), hbq⟩
end Go.Proofs.Ythocenkedncoeaa
