/- TopMirrored: the law. -/
import Derived.Test.YtpfaoagddgcmbaaDoorTh
import Derived.Test.YtpfaoagddgcmbaaDoorM0
import Derived.Test.YtpfaoagddgcmbaaDoorM1
import Derived.Test.YtpfaoagddgcmbaaDoorM2
namespace Mirror06
open Bench06 Grade03 Blend04
structure MirF (n k : Nat) (l m p : List Int) : Prop where
  c1 : chkE l = 0
  c2 : chkE m = 0
  c3 : chkE p = 0
  c4 : chkE (rngI n) = 0
  l1 : l.length = n
  l2 : m.length = n
  sum : sumL (codeL l) + sumL (codeL m) = (n : Int) * ((n : Int) - 1) / 2
  pl : sumL (codeL p) = sumL (codeL l)
  df : ((difL (rngI n) l).length : Int) = sumL (codeL l)
theorem mir_all {n k : Nat} (h1 : 1 ≤ n) (h7 : n ≤ 7) (hk : 1 ≤ k) (hk2 : k ≤ lcmTo n) : MirF n k (ordL n k) (ordL n (lcmTo n + 1 - k)) (plcL n k) := by
  have hb : mirB n k = true := by
    by_cases h6 : n < 7
    · have := List.all_eq_true.1 (mir6 n h6 h1) (k - 1) (List.mem_range.2 (by omega))
      simp only [show 0 + (k - 1) + 1 = k by omega] at this
      exact this
    · obtain rfl : n = 7 := by omega
      have hk4 : k ≤ 420 := Nat.le_trans hk2 (lcm_bd 7 (by decide) (by decide)).2
      by_cases a1 : k ≤ 140
      · have := List.all_eq_true.1 mir7_0 (k - 1) (List.mem_range.2 (by omega))
        simp only [show 0 + (k - 1) + 1 = k by omega] at this
        exact this
      · by_cases a2 : k ≤ 280
        · have := List.all_eq_true.1 mir7_1 (k - 141) (List.mem_range.2 (by omega))
          simp only [show 140 + (k - 141) + 1 = k by omega] at this
          exact this
        · have := List.all_eq_true.1 mir7_2 (k - 281) (List.mem_range.2 (by omega))
          simp only [show 280 + (k - 281) + 1 = k by omega] at this
          exact this
  simp only [mirB, Bool.and_eq_true, beq_iff_eq] at hb
  obtain ⟨⟨⟨⟨⟨⟨⟨⟨b1, b2⟩, b3⟩, b4⟩, b5⟩, b6⟩, b7⟩, b8⟩, b9⟩ := hb
  exact ⟨b1, b2, b3, b4, b5, b6, b7, b8, b9⟩
end Mirror06
namespace Go.Proofs.YtpfaoagddgcmbaaDoor
open Go.RowKit Dock01 Grade03 Blend04 Bench06 Mirror06
set_option maxRecDepth 100000
theorem half_test (i : Nat) (s : Int) (h1 : 1 ≤ i) (h7 : i ≤ 7) (h : s = (i : Int) * ((i : Int) - 1) / 2) : (s == wrap64 ((wrap64 ((i : Int) * ((i : Int) - 1))).tdiv 2)) = true := by
  subst h
  have : i = 1 ∨ i = 2 ∨ i = 3 ∨ i = 4 ∨ i = 5 ∨ i = 6 ∨ i = 7 := by omega
  rcases this with rfl | rfl | rfl | rfl | rfl | rfl | rfl <;> simp [wrap64]
theorem take_next (l : List Int) (i : Nat) (h : i < l.length) : l.take (i + 1) = l.take i ++ [l.getD i 0] := by
  rw [List.take_add_one, List.getElem?_eq_getElem h]
  simp [List.getD, h]
set_option maxHeartbeats 8000000 in
theorem TopMirrored_any (bx cx : Int) (w : World) (hT : Tab w) (hb0 : 0 ≤ bx ∧ bx < 256) (hc0 : 0 ≤ cx ∧ cx < 65536) :
    Calls Tryd.prog 9 #[.int .u8 bx, .int .u16 cx] w fun e w' => e = .returned (.bool true) ∧ Below w.heap.size w w' := by
  obtain ⟨hb00, hb01⟩ := hb0
  obtain ⟨hc00, hc01⟩ := hc0
  have m1 := Int.emod_nonneg bx (b := 7) (by omega)
  have m2 := Int.emod_lt_of_pos bx (b := 7) (by omega)
  obtain ⟨n, hn⟩ : ∃ n : Nat, 1 + bx % 7 = (n : Int) := ⟨(1 + bx % 7).toNat, by omega⟩
  have n1 : 1 ≤ n := by omega
  have n7 : n ≤ 7 := by omega
  have w1 : IntKind.i64.wrap (1 + bx % 7) = (n : Int) := by rw [hn]; exact IntWalk.i64_in _ (by omega)
  obtain ⟨A1, A2⟩ := lcm_bd n (by omega) n1
  have HM := Lib.hid (fun k hk hk2 => mir_all (k := k) n1 n7 hk hk2)
  have HOR : Hid (∀ w, Calls Tryd.prog 47 #[.int .i64 (n : Int)] w fun e w' => e = .returned (.tuple #[.int .i64 (lcmTo n : Int), .int .i64 0]) ∧ Below w.heap.size w w') := Lib.hid (fun w => by
    have := Orders_ok (n : Int) w (by omega) (by omega)
    rwa [Int.toNat_natCast] at this)
  generalize lcmTo n = A at *
  have q0 : (0 : Int) < (A : Int) := by omega
  have m3 := Int.emod_nonneg cx (b := (A : Int)) (by omega)
  have m4 := Int.emod_lt_of_pos cx (b := (A : Int)) (by omega)
  obtain ⟨k, hk⟩ : ∃ k : Nat, 1 + cx % (A : Int) = (k : Int) := ⟨(1 + cx % (A : Int)).toNat, by omega⟩
  have k1 : 1 ≤ k := by omega
  have k2 : k ≤ A := by omega
  have w2 : IntKind.i64.wrap (1 + cx % (A : Int)) = (k : Int) := by rw [hk]; exact IntWalk.i64_in _ (by omega)
  have w3 : IntKind.i64.wrap ((A : Int) + 1) = (A : Int) + 1 := IntWalk.i64_in _ (by omega)
  have w4 : IntKind.i64.wrap ((A : Int) + 1 - (k : Int)) = ((A + 1 - k : Nat) : Int) := by rw [IntWalk.i64_in _ (by omega)]; omega
  have HF := Lib.hid (HM.out k k1 k2)
  have HC4 := Lib.hid HF.out.c4
  have HDF := Lib.hid HF.out.df
  have HO : Hid (∀ (c : Nat) w, 1 ≤ c → c ≤ 420 → Calls Tryd.prog 48 #[.int .i64 (n : Int), .int .i64 (c : Int)] w fun e w' => ∃ a c', e = .returned (.tuple #[.slice a n c', .int .i64 0]) ∧ IsL w' a n c' (ordL n c) ∧ Below w.heap.size w w') := Lib.hid (fun c w h1 h2 => by
    refine (Order_ok (n : Int) (c : Int) w (by omega) (by omega) (by omega) (by omega)).mono ?_
    rintro e w' ⟨a, c', rfl, o, b⟩
    rw [Int.toNat_natCast, Int.toNat_natCast] at o
    rw [Int.toNat_natCast]
    exact ⟨a, c', rfl, o.isL, b⟩)
  have HW : Hid (∀ (r : Nat) w, r < n → Calls Tryd.prog 27 #[.int .i64 (n : Int), .int .i64 (k : Int), .int .i64 (r : Int)] w fun e w' => e = .returned (.tuple #[.int .i64 ((plcL n k).getD r 0), .int .i64 0]) ∧ w = w') := Lib.hid (fun r w h => by
    have := When_ok (n : Int) (k : Int) (r : Int) w (by omega) (by omega) (by omega) (by omega) (by omega) (by omega)
    rw [Int.toNat_natCast] at this
    have e : (plcL n k).getD r 0 = whenG (k : Int) n (r : Int) 0 := by simp [plcL, List.getD, h]
    rwa [e])
  have HPL : Hid ((plcL n k).length = n) := Lib.hid (by simp [plcL])
  have HRL : Hid ((rngI n).length = n) := Lib.hid (by simp [rngI])
  have HRG : Hid (∀ r, r < n → (rngI n).getD r 0 = (r : Int)) := Lib.hid (fun r h => by simp [rngI, List.getD, h])
  have HT := Lib.hid hT
  have HA : Hid (A ≤ 420) := Lib.hid A2
  clear m1 m2 m3 m4 hn hk hT HM
  go_enter Tryd.func9, Tryd.ntmps9
  go_wp2_with fail
  refine (HOR.out _).mono ?_
  rintro e x1 ⟨rfl, b1⟩
  have q1 : ¬ (A : Int) < 1 := by omega
  have q2 : ¬ (420 : Int) < (A : Int) := by omega
  go_wp2_with fail
  refine (HO.out k _ k1 (by omega)).mono ?_
  rintro e x2 ⟨al, cl, rfl, hl, b2⟩
  have j2 := b1.trans (b2.mono b1.size)
  go_wp2_with fail
  refine (HO.out (A + 1 - k) _ (by omega) (by omega)).mono ?_
  rintro e x3 ⟨am, cm, rfl, hm, b3⟩
  have hl3 := hl.below b3
  have j3 := j2.trans (b3.mono j2.size)
  have hL := Lib.hid hl3
  have hM := Lib.hid hm
  generalize ordL n k = l at *
  generalize ordL n (A + 1 - k) = m at *
  generalize plcL n k = p at *
  generalize rngI n = s at *
  clear b1 b2 b3 j2 hl hl3 hm HO HOR q1 q2 w3 w4
  go_wp2_with fail
  go_loopw [82, 12, 13] (fun vr vp vs wr => ∃ (r : Nat) (a1 : Option Addr) (c1 : Nat) (a2 : Option Addr) (c2 : Nat), r ≤ n ∧ vr = .int .i64 (r : Int) ∧ vp = .slice a1 r c1 ∧ vs = .slice a2 r c2 ∧ Hid (OwnL wr 3 x3.heap.size a1 r c1 (p.take r)) ∧ Hid (OwnL wr 3 x3.heap.size a2 r c2 (s.take r)) ∧ Sep a1 a2 ∧ Below x3.heap.size x3 wr) (fun vr _ _ _ => n - (intOf vr).toNat)
  case atStart => exact ⟨0, none, 0, none, 0, by omega, rfl, rfl, rfl, Lib.hid (OwnL.nilL _ _ _), Lib.hid (OwnL.nilL _ _ _), Sep.none_left _, Below.refl _ _⟩
  case round =>
    obtain ⟨r, a1, c1, a2, c2, hr, rfl, rfl, rfl, hP, hS, hsep, kr⟩ := hrel
    have w9 : IntKind.i64.wrap ((r : Int) + 1) = (r : Int) + 1 := IntWalk.i64_in _ (by omega)
    have hsr := kr.size
    by_cases hlt : r < n
    · have q1 : (r : Int) < (n : Int) := by omega
      have HN1 := Lib.hid (take_next p r (by rw [HPL.out]; exact hlt))
      have HN2 := Lib.hid (take_next s r (by rw [HRL.out]; exact hlt))
      rw [HRG.out r hlt] at HN2
      have HW2 := Lib.hid (fun w => HW.out r w hlt)
      generalize p.getD r 0 = v at *
      have hP1 := hP.out
      have hS1 := hS.out
      clear hP hS
      go_wp2_with fail
      refine (HW2.out _).mono ?_
      rintro e x4 ⟨rfl, rfl⟩
      go_wp2_with (at_builtin; refine wl_app_own Tryd.underlying23 elem3 x3.heap.size (.tmp 94) (.tmp 96) rfl rfl rfl rfl (hP1.alloc _) (isL_oneAt _ _ 3 _ rfl) (by simp; omega) (by omega) ?_)
      intro a5 c5 x5 o5 g5 b5 v5
      have hS5 := (hS1.alloc (.cells #[.int .i64 v] 3)).grown g5 hsep.symm
      have hsep5 := hsep.via v5 (fun x hx => by have := (hS1.lt x hx).2; simp; omega)
      have kr5 := (kr.alloc hsr (.cells #[.int .i64 v] 3)).trans b5
      have hP5 : OwnL x5 3 x3.heap.size a5 (r + 1) c5 (p.take (r + 1)) := by rw [HN1.out]; exact o5
      have hs5 := kr5.size
      clear o5 g5 b5 v5 hP1 hS1 kr hsep
      go_wp2_with (at_builtin; refine wl_app_own Tryd.underlying23 elem3 x3.heap.size (.tmp 98) (.tmp 100) rfl rfl rfl rfl (hS5.alloc _) (isL_oneAt _ _ 3 _ rfl) (by simp; omega) (by omega) ?_)
      intro a6 c6 x6 o6 g6 b6 v6
      have hP6 := Lib.hid ((hP5.alloc (.cells #[.int .i64 (r : Int)] 3)).grown g6 hsep5)
      have hsep6 := (hsep5.symm.via v6 (fun x hx => by have := (hP5.lt x hx).2; simp; omega)).symm
      have kr6 := (kr5.alloc hs5 (.cells #[.int .i64 (r : Int)] 3)).trans b6
      have hS6 : Hid (OwnL x6 3 x3.heap.size a6 (r + 1) c6 (s.take (r + 1))) := Lib.hid (by rw [HN2.out]; exact o6)
      clear o6 g6 b6 v6 hP5 hS5 kr5 hsep5
      go_wp2_with fail
      exact ⟨⟨r + 1, a5, c5, a6, c6, by omega, by go_num, rfl, rfl, hP6, hS6, hsep6, kr6⟩, by simp [intOf]; omega⟩
    · obtain rfl : r = n := by omega
      have hp0 := hP.out.isL
      have hs0 := hS.out.isL
      rw [List.take_of_length_le (by rw [HPL.out]; exact Nat.le_refl _)] at hp0
      rw [List.take_of_length_le (by rw [HRL.out]; exact Nat.le_refl _)] at hs0
      have hl0 := hL.out.below kr
      have hm0 := hM.out.below kr
      have j4 := j3.trans (kr.mono j3.size)
      clear hP hS hL hM kr j3 hsep
      go_wp2_with fail
      refine (turned_any _ _ _ l _ hl0 HF.out.c1).mono ?_
      rintro e x5 ⟨rfl, b5⟩
      have hl5 := hl0.below b5
      have hm5 := hm0.below b5
      have hp5 := hp0.below b5
      have hs5 := hs0.below b5
      have j5 := j4.trans (b5.mono j4.size)
      clear hl0 hm0 hp0 hs0 j4 b5
      go_wp2_with fail
      refine (turned_any _ _ _ m _ hm5 HF.out.c2).mono ?_
      rintro e x6 ⟨rfl, b6⟩
      have hl6 := hl5.below b6
      have hp6 := hp5.below b6
      have hs6 := hs5.below b6
      have j6 := j5.trans (b6.mono j5.size)
      clear hl5 hm5 hp5 hs5 j5 b6
      go_wp2_with fail
      refine (turned_any _ _ _ p _ hp6 HF.out.c3).mono ?_
      rintro e x7 ⟨rfl, b7⟩
      have hl7 := hl6.below b7
      have hs7 := hs6.below b7
      have j7 := j6.trans (b7.mono j6.size)
      rw [HF.out.pl]
      clear hl6 hp6 hs6 j6 b7
      have hbo : bothE s l = 0 := bothE_zero.2 ⟨HC4.out, HF.out.c1, by rw [HF.out.l1, HRL.out]⟩
      have HD : Hid (Calls Tryd.prog 38 #[.slice a2 r c2, .slice al r cl] x7 fun e w' => ∃ a' m' c', e = .returned (.tuple #[.slice a' m' c', .int .i64 0]) ∧ (m' : Int) = sumL (codeL l) ∧ Below x7.heap.size x7 w') := Lib.hid (by
        refine (Differ_any _ _ _ _ _ _ s l _ hs7 hl7).mono ?_
        rintro e x8 ⟨a', m', c', rfl, o8, b8⟩
        rw [if_pos hbo] at o8
        exact ⟨a', m', c', by rw [hbo], by rw [← o8.len]; exact HDF.out, b8⟩)
      have hsum := HF.out.sum
      clear hs7 hl7 hbo
      generalize sumL (codeL l) = u at *
      generalize sumL (codeL m) = v at *
      go_wp2_with fail
      refine HD.out.mono ?_
      rintro e x8 ⟨a', m', c', rfl, hmu, b8⟩
      obtain rfl := hmu
      have j8 := j7.trans (b8.mono j7.size)
      have hz := half_test r _ n1 n7 hsum
      have hbd : -9223372036854775808 ≤ (m' : Int) + v ∧ (m' : Int) + v ≤ 9223372036854775807 := by
        rw [hsum]
        have : r = 1 ∨ r = 2 ∨ r = 3 ∨ r = 4 ∨ r = 5 ∨ r = 6 ∨ r = 7 := by omega
        rcases this with rfl | rfl | rfl | rfl | rfl | rfl | rfl <;> simp
      have w8 : IntKind.i64.wrap ((m' : Int) + v) = (m' : Int) + v := IntWalk.i64_in _ hbd
      clear hsum hbd b8 j7 HD
      go_wp2_with fail
      refine (benchWorks_any _ (HT.out.below j8)).mono ?_
      rintro e x9 ⟨rfl, b9⟩
      have j9 := j8.trans (b9.mono j8.size)
      go_wp2_with fail
      go_ret
      exact ⟨rfl, j9⟩
end Go.Proofs.YtpfaoagddgcmbaaDoor
