/- TopChosen: the law. -/
import Derived.Test.YtpfaoagddgcmbaaDoorCh
import Derived.Test.YtpfaoagddgcmbaaDoorTh
import Derived.RegionTactic
import Derived.BigRegion
import Derived.Deep.Cut
import Derived.Deep.CutRange
import Derived.Deep.DeepCutAuto
import Derived.Deep.RegionWith
namespace Go.Proofs.YtpfaoagddgcmbaaDoor
open Go.RowKit Blend04 Grade03 Dock01
set_option maxRecDepth 100000
theorem wantP_bd {n : Nat} {l : List Int} (h : Asc n l) (h7 : n ≤ 7) : ∀ i, i ≤ l.length → i ≤ 7 → -7 * (i : Int) ≤ wantP l i ∧ wantP l i ≤ 7 * i
  | 0, _, _ => by simp [wantP]
  | i + 1, hi, h8 => by
    have h1 := wantP_bd h h7 i (by omega) (by omega)
    have h2 := h i (by omega)
    rw [wantP]
    omega
set_option maxHeartbeats 8000000 in
theorem TopChosen_any (bx sx nx : Int) (w : World) (hT : Tab w) (hb0 : 0 ≤ bx ∧ bx < 256) (hs0 : 0 ≤ sx ∧ sx < 256) (hn0 : 0 ≤ nx ∧ nx < 65536) :
    Calls Tryd.prog 8 #[.int .u8 bx, .int .u8 sx, .int .u16 nx] w fun e w' => e = .returned (.bool true) ∧ Below w.heap.size w w' := by
  obtain ⟨hb00, hb01⟩ := hb0
  obtain ⟨hs00, hs01⟩ := hs0
  obtain ⟨hn00, hn01⟩ := hn0
  have m1 := Int.emod_nonneg bx (b := 7) (by omega)
  have m2 := Int.emod_lt_of_pos bx (b := 7) (by omega)
  obtain ⟨n, hn⟩ : ∃ n : Nat, 1 + bx % 7 = (n : Int) := ⟨(1 + bx % 7).toNat, by omega⟩
  have n1 : 1 ≤ n := by omega
  have n7 : n ≤ 7 := by omega
  have w1 : IntKind.i64.wrap (1 + bx % 7) = (n : Int) := by rw [hn]; exact IntWalk.i64_in _ (by omega)
  have m3 := Int.emod_nonneg sx (b := (n : Int) + 1) (by omega)
  have m4 := Int.emod_lt_of_pos sx (b := (n : Int) + 1) (by omega)
  obtain ⟨k, hk⟩ : ∃ k : Nat, sx % ((n : Int) + 1) = (k : Int) := ⟨(sx % ((n : Int) + 1)).toNat, by omega⟩
  have kn : k ≤ n := by omega
  have w3 : IntKind.i64.wrap ((n : Int) + 1) = (n : Int) + 1 := IntWalk.i64_in _ (by omega)
  have q0 : (0 : Int) < (n : Int) + 1 := by omega
  have HCF := Lib.hid (fun num h => cho_facts (num := num) n1 n7 kn h)
  have hv1 : 1 ≤ chN n k := by
    rw [chN, if_neg (by omega)]
    exact (chI_bound n (by omega) k kn).1
  have hv35 : chN n k ≤ 35 := (HCF.out 0 (by omega)).v35
  obtain ⟨v, hv⟩ : ∃ v, chN n k = v := ⟨_, rfl⟩
  have HV := Lib.hid hv
  rw [hv] at hv1 hv35
  have m5 := Int.emod_nonneg nx (b := (v : Int)) (by omega)
  have m6 := Int.emod_lt_of_pos nx (b := (v : Int)) (by omega)
  obtain ⟨num, hnum⟩ : ∃ num : Nat, nx % (v : Int) = (num : Int) := ⟨(nx % (v : Int)).toNat, by omega⟩
  have hnv : num < v := by omega
  have q1 : (0 : Int) < (v : Int) := by omega
  have HF := Lib.hid (HCF.out num (by rw [HV.out]; exact hnv))
  have HT := Lib.hid hT
  have HCO := Lib.hid (fun w => Count_ok n k w n1 (by omega) kn v hv)
  have HNT := Lib.hid (fun w => Nth_ok n k num w n1 n7 kn (by rw [hv]; exact hnv))
  clear m1 m2 m3 m4 m5 m6 hn hT HCF hv
  have hbw : Below w.heap.size w (w.alloc (.cells #[.int .i64 (n : Int)] 3)) := (Below.refl _ w).alloc (Nat.le_refl _) _
  have hcw : (w.alloc (.cells #[.int .i64 (n : Int)] 3)).cell? ⟨w.heap.size, 0, none⟩ = some (.int .i64 (n : Int)) := by simp [go_sem]
  have hpl : w.heap.size < (w.alloc (.cells #[.int .i64 (n : Int)] 3)).heap.size := by simp
  obtain ⟨W, hW⟩ : ∃ W, w.alloc (.cells #[.int .i64 (n : Int)] 3) = W := ⟨_, rfl⟩
  rw [hW] at hbw hcw hpl
  have HCELL : Hid (∀ x, Below W.heap.size W x → x.cell? ⟨w.heap.size, 0, none⟩ = some (.int .i64 (n : Int))) := Lib.hid (fun x h => by rw [h.cell (p := ⟨w.heap.size, 0, none⟩) hpl]; exact hcw)
  have HTB : Hid (∀ x, Below W.heap.size W x → Tab x) := Lib.hid (fun x h => HT.out.below (hbw.trans (h.mono hbw.size)))
  have q2 : ¬ (v : Int) < 1 := by omega
  have q3 : ¬ (35 : Int) < (v : Int) := by omega
  go_enter Tryd.func8, Tryd.ntmps8
  go_wp2_with fail
  refine (HCO.out W).mono ?_
  rintro e W' ⟨rfl, rfl⟩
  go_upto_region 6 with fail
  go_cut [11, 10] (fun s11 s10 wx => ∃ a, s11 = .slice a k k ∧ s10 = .int .i64 0 ∧ IsL wx a k k (nthL k num) ∧ Below W.heap.size W wx)
  case first =>
    go_region_with ((with_reducible refine (HNT.out _).mono ?_); rintro e w2 ⟨a, rfl, o2, b2⟩)
    all_goals
      go_wp2_with fail
      go_meet
      exact ⟨a, rfl, rfl, o2.isL, ((Below.refl _ W).drew).trans b2⟩
  case rest =>
    obtain ⟨a, rfl, rfl, hl, kw⟩ := hcut
    generalize wc = x2 at *
    obtain ⟨l, hle⟩ : ∃ l, nthL k num = l := ⟨_, rfl⟩
    rw [hle] at hl HF
    clear hle HNT HCO
    have q7 : ((k : Int) != (k : Int)) = false := by simp
    have p2 := HCELL.out x2 kw
    go_wp2_with fail
    refine (bCheck_ok a n k k _ x2 hl n1 (by omega) HF.out.asc (by omega)).mono ?_
    rintro e x3 ⟨rfl, rfl⟩
    go_wp2_with fail
    refine (turnC_any w.heap.size n k a k _ x2 p2 hl n7 (by omega) HF.out.ck HF.out.len).mono ?_
    rintro e x3 ⟨rfl, b3⟩
    have hl3 := hl.below b3
    have kw3 := kw.trans (b3.mono kw.size)
    have hlen := hl3.len
    obtain ⟨S, hS⟩ : ∃ S, sumL (codeL (ahdL n l)) = S := ⟨_, rfl⟩
    obtain ⟨M, hM⟩ : ∃ M, majL (ahdL n l) = M := ⟨_, rfl⟩
    have HSW : Hid (wantP l k = S) := Lib.hid (by rw [← HF.out.sum, hS])
    have HMJ : Hid (M = 0 ∨ M = (k : Int)) := Lib.hid (by rw [← hM]; exact HF.out.maj)
    have HMZ : Hid (M = 0 ↔ S = 0) := Lib.hid (by rw [← hM, ← hS]; exact Iff.of_eq HF.out.mz)
    have HSS := Lib.hid hS
    rw [hS, hM]
    have H3 := Lib.hid hl3
    have hcap := hl3.cap
    have HW := Lib.hid (fun i => wantP_bd HF.out.asc n7 i)
    clear hl p2 b3 kw hl3 hS hM
    go_wp2_with fail
    go_loopw [87, 16] (fun vi vt wr => ∃ i : Nat, i ≤ k ∧ vi = .int .i64 (i : Int) ∧ vt = .int .i64 (wantP l i) ∧ x3 = wr) (fun vi _ _ => k - (intOf vi).toNat)
    case atStart => exact ⟨0, by omega, rfl, rfl, rfl⟩
    case round =>
      obtain ⟨i, hi, rfl, rfl, rfl⟩ := hrel
      have w9 : IntKind.i64.wrap ((i : Int) + 1) = (i : Int) + 1 := IntWalk.i64_in _ (by omega)
      by_cases hlt : i < k
      · have p1 : (i : Int) < (k : Int) := by omega
        obtain ⟨b', o', rfl, _, hcell⟩ := H3.out.cells (by omega)
        have c1 := hcell i hlt
        have hb0 := HW.out i (by omega) (by omega)
        have ha := HF.out.asc i (by omega)
        have hnx : wantP l (i + 1) = wantP l i + (l.getD i 0 - (i : Int)) := rfl
        obtain ⟨x, hx⟩ : ∃ x, l.getD i 0 = x := ⟨_, rfl⟩
        rw [hx] at c1 ha hnx
        have HNX := Lib.hid hnx
        have w8 : IntKind.i64.wrap (x - (i : Int)) = x - (i : Int) := IntWalk.i64_in _ (by omega)
        have w7 : IntKind.i64.wrap (wantP l i + (x - (i : Int))) = wantP l i + (x - (i : Int)) := IntWalk.i64_in _ (by omega)
        clear hcell hnx hx
        go_wp2_with fail
        exact ⟨⟨i + 1, by omega, by go_num, by rw [HNX.out], by simp⟩, by simp [intOf]; omega⟩
      · obtain rfl : i = k := by omega
        rw [HSW.out]
        have s1 : (S != S) = false := by simp
        go_upto_region 17 with fail
        go_cut [120] (fun s120 wx => s120 = .bool false ∧ wx = x3)
        case first =>
          by_cases hm0 : M = 0
          · have hs0 := HMZ.out.1 hm0
            subst hm0
            subst hs0
            go_wp2_with fail
            go_meet
            exact ⟨rfl, rfl⟩
          · have hs0 : ¬ S = 0 := fun h => hm0 (HMZ.out.2 h)
            have hmk : M = (i : Int) := HMJ.out.resolve_left hm0
            subst hmk
            have e1 : (S == 0) = false := by simpa using hs0
            have e2 : ((i : Int) == 0) = false := by simpa using hm0
            have e3 : ((i : Int) != 0) = true := by simpa using hm0
            have e4 : ((i : Int) != (i : Int)) = false := by simp
            go_wp2_with fail
            go_meet
            exact ⟨rfl, rfl⟩
        case rest =>
          obtain ⟨rfl, rfl⟩ := hcut
          generalize wc = x4 at *
          have HNO : Hid (∀ q x, Below x4.heap.size x4 x → (q : Int) ∈ l → Calls Tryd.prog 44 #[.slice a i i, .int .i64 (q : Int)] x fun e w' => e = .returned (.bool true) ∧ x = w') := Lib.hid (fun q x h hq => contains_yes a i i l q x (H3.out.below h) hq)
          have HNN : Hid (∀ q x, Below x4.heap.size x4 x → (q : Int) ∉ l → Calls Tryd.prog 44 #[.slice a i i, .int .i64 (q : Int)] x fun e w' => e = .returned (.bool false) ∧ x = w') := Lib.hid (fun q x h hq => contains_no a i i l q x (H3.out.below h) hq)
          have p4 := HCELL.out x4 kw3
          go_wp2_with fail
          go_loopw [122, 19] (fun vx vo wr => ∃ (x z : Nat) (a2 : Option Addr) (c2 : Nat), x ≤ n ∧ z ≤ x ∧ vx = .int .i64 (x : Int) ∧ vo = .slice a2 z c2 ∧ Hid (OwnL wr 3 x4.heap.size a2 z c2 (othK l x)) ∧ Below x4.heap.size x4 wr) (fun vx _ _ => n - (intOf vx).toNat)
          case atStart => exact ⟨0, 0, none, 0, by omega, by omega, rfl, rfl, Lib.hid (OwnL.nilL _ _ _), Below.refl _ _⟩
          case round =>
            obtain ⟨x, z, a2, c2, hx, hz, rfl, rfl, hO, kr⟩ := hrel
            have w9 : IntKind.i64.wrap ((x : Int) + 1) = (x : Int) + 1 := IntWalk.i64_in _ (by omega)
            have hsr := kr.size
            by_cases hlt : x < n
            · have p5 : (x : Int) < (n : Int) := by omega
              have hnx := othK_next l x
              by_cases hin : (x : Int) ∈ l
              · rw [if_pos hin, List.append_nil] at hnx
                have HC := Lib.hid (HNO.out (x : Int) wr kr hin)
                have hO2 : Hid (OwnL wr 3 x4.heap.size a2 z c2 (othK l (x + 1))) := Lib.hid (by rw [hnx]; exact hO.out)
                clear hnx hin hO
                go_wp2_with fail
                refine HC.out.mono ?_
                rintro e w3 ⟨rfl, rfl⟩
                go_wp2_with fail
                exact ⟨⟨x + 1, z, a2, c2, by omega, by omega, by go_num, rfl, hO2, kr⟩, by simp [intOf]; omega⟩
              · rw [if_neg hin] at hnx
                have HC := Lib.hid (HNN.out (x : Int) wr kr hin)
                have HNX := Lib.hid hnx
                have hO1 := hO.out
                clear hnx hin hO
                go_wp2_with fail
                refine HC.out.mono ?_
                rintro e w3 ⟨rfl, rfl⟩
                go_wp2_with (at_builtin; refine wl_app_own Tryd.underlying23 elem3 x4.heap.size (.tmp 129) (.tmp 131) rfl rfl rfl rfl (hO1.alloc _) (isL_oneAt _ _ 3 _ rfl) (by simp; omega) (by omega) ?_)
                intro a5 c5 x5 o5 g5 b5 v5
                have hO5 : Hid (OwnL x5 3 x4.heap.size a5 (z + 1) c5 (othK l (x + 1))) := Lib.hid (by rw [HNX.out]; exact o5)
                have kr5 := (kr.alloc hsr (.cells #[.int .i64 (x : Int)] 3)).trans b5
                clear o5 g5 b5 v5 hO1 kr
                go_wp2_with fail
                exact ⟨⟨x + 1, z + 1, a5, c5, by omega, by omega, by go_num, rfl, hO5, kr5⟩, by simp [intOf]; omega⟩
            · obtain rfl : x = n := by omega
              have hIo : IsL wr a2 z c2 (othL x l) := hO.out.isL
              have hIl := H3.out.below kr
              have kwr : Below W.heap.size W wr := kw3.trans (kr.mono kw3.size)
              have kd : Below wr.heap.size wr wr.drew := (Below.refl _ _).drew
              have r0 : wr.cell? ⟨w.heap.size, 0, none⟩ = some (.int .i64 (x : Int)) := HCELL.out _ kwr
              have A1 := Lib.hid (ahead_any x a i i l wr.drew hIl.drew n7 (by omega))
              have A2 : Hid (∀ y, Below wr.heap.size wr y → Calls Tryd.prog 42 #[.int .i64 (x : Int), .slice a2 z c2] y fun e w' => ∃ a' z' c', e = .returned (.slice a' z' c') ∧ OwnL w' 3 y.heap.size a' z' c' (ahdL x (othL x l)) ∧ Below y.heap.size y w') := Lib.hid (fun y hy => ahead_any x a2 z c2 _ y (hIo.below hy) n7 (by omega))
              have D3 : Hid (∀ (b1 b2 : Option Addr) (z1 d1 z2 d2 : Nat) y, IsL y b1 z1 d1 (ahdL x l) → IsL y b2 z2 d2 (ahdL x (othL x l)) → Calls Tryd.prog 38 #[.slice b1 z1 d1, .slice b2 z2 d2] y fun e w' => ∃ ad dm cd, e = .returned (.tuple #[.slice ad dm cd, .int .i64 0]) ∧ Hid ((dm : Int) = (i : Int) * ((x : Int) - i)) ∧ Below y.heap.size y w') := Lib.hid (fun b1 b2 z1 d1 z2 d2 y h1 h2 => by
                refine (Differ_any b1 b2 z1 z2 d1 d2 _ _ y h1 h2).mono ?_
                rintro e w' ⟨a', m, c', rfl, o, b⟩
                rw [if_pos HF.out.both] at o
                exact ⟨a', m, c', by rw [HF.out.both], Lib.hid (by rw [← HF.out.dif, o.len]), b⟩)
              have HIL := Lib.hid hIl
              have KC : Hid (∀ y, Below wr.heap.size wr y → y.cell? ⟨w.heap.size, 0, none⟩ = some (.int .i64 (x : Int))) := Lib.hid (fun y hy => HCELL.out y (kwr.trans (hy.mono kwr.size)))
              clear hIo hIl hO HNO HNN p4
              go_upto_region 26 with fail
              go_cut [21, 10] (fun s21 s10 wx => ∃ ad dm cd, s21 = .slice ad dm cd ∧ s10 = .int .i64 0 ∧ Hid ((dm : Int) = (i : Int) * ((x : Int) - i)) ∧ Below wr.heap.size wr wx)
              case first =>
                go_region_with (first
                  | ((with_reducible refine A1.out.mono ?_); rintro e w4 ⟨b1, z1, d1, rfl, o1, k4⟩; have kk4 : Below wr.heap.size wr w4 := kd.trans (k4.mono kd.size); have r4 := KC.out w4 kk4)
                  | ((with_reducible refine (A2.out _ (by assumption)).mono ?_); rintro e w5 ⟨b2, z2, d2, rfl, o2, k5⟩; have kk5 : Below wr.heap.size wr w5 := kk4.trans (k5.mono kk4.size))
                  | ((with_reducible refine (D3.out b1 b2 z1 d1 z2 d2 _ (o1.isL.below k5) o2.isL).mono ?_); rintro e w6 ⟨ad, dm, cd, rfl, hdm, k6⟩; have kk6 : Below wr.heap.size wr w6 := kk5.trans (k6.mono kk5.size)))
                all_goals
                  go_wp2_with fail
                  go_meet
                  exact ⟨ad, dm, cd, rfl, rfl, hdm, kk6⟩
              case rest =>
                obtain ⟨ad, dm, cd, rfl, rfl, hdm, k6⟩ := hcut
                generalize wc = w6 at *
                have g1 : (i : Int) * ((x : Int) - i) ≤ 7 * 7 := Int.mul_le_mul (by omega) (by omega) (by omega) (by omega)
                have g2 : 0 ≤ (i : Int) * ((x : Int) - i) := Int.mul_nonneg (by omega) (by omega)
                have wf8 : IntKind.i64.wrap ((x : Int) - (i : Int)) = (x : Int) - (i : Int) := IntWalk.i64_in _ (by omega)
                have wf7 : IntKind.i64.wrap ((i : Int) * ((x : Int) - (i : Int))) = (dm : Int) := by rw [hdm.out]; exact IntWalk.i64_in _ (by omega)
                have q9 : ((dm : Int) != (dm : Int)) = false := by simp
                have r6 := KC.out w6 k6
                have HL6 := Lib.hid (HIL.out.below k6)
                have kw6 : Below W.heap.size W w6 := kwr.trans (k6.mono kwr.size)
                clear A1 A2 D3 KC g1 g2 hdm k6 r0 kd
                by_cases hv1' : v = 1
                · have qv : ((v : Int) == 1) = true := by simp [hv1']
                  have HN := Lib.hid (Next_one a x i i l w6 HL6.out n1 n7 kn HF.out.asc (by rw [HV.out]; exact hv1'))
                  clear hv1'
                  go_wp2_with fail
                  refine HN.out.mono ?_
                  rintro e w7 ⟨rfl, b7⟩
                  have kw7 := kw6.trans (b7.mono kw6.size)
                  clear r6 wf8 wf7 q9
                  go_wp2_with fail
                  refine (chosenWorks_any _ (HTB.out _ kw7)).mono ?_
                  rintro e w8 ⟨rfl, b8⟩
                  have kw8 := kw7.trans (b8.mono kw7.size)
                  go_wp2_with fail
                  go_ret
                  exact ⟨rfl, hbw.trans (kw8.mono hbw.size)⟩
                · have qv : ((v : Int) == 1) = false := by simp; omega
                  have HN := Lib.hid (Next_ok a x i i num v l w6 HL6.out n1 n7 kn HF.out.asc HV.out (by omega) HF.out.nmb hnv)
                  have hnx := HF.out.next (by rw [HV.out]; exact hv1')
                  rw [HV.out] at hnx
                  have HX := Lib.hid hnx
                  clear hv1' hnx
                  go_wp2_with fail
                  refine HN.out.mono ?_
                  rintro e w7 ⟨a7, m7, rfl, rfl, o7, b7⟩
                  have kw7 := kw6.trans (b7.mono kw6.size)
                  have hl7 := o7.isL
                  have r7 := HCELL.out w7 kw7
                  have hlen7 := Lib.hid hl7.len
                  generalize nthL i ((num + 1) % v) = l7 at *
                  obtain ⟨x1, x2, x3, x4⟩ := HX.out
                  have XA := Lib.hid x1
                  have XC := Lib.hid x2
                  have XL := Lib.hid x3
                  have HSD := Lib.hid x4
                  have hcap7 := hl7.cap
                  have hb7 := Lib.hid (bCheck_ok a7 x i i l7 w7 hl7 n1 (by omega) XA.out (by omega))
                  have ht7 := Lib.hid (turnC_any w.heap.size x i a7 i l7 w7 r7 hl7 n7 (by omega) XC.out XL.out)
                  obtain ⟨mo, hmo⟩ : ∃ mo, missL l l7 = mo := ⟨_, rfl⟩
                  obtain ⟨mi, hmi⟩ : ∃ mi, missL l7 l = mi := ⟨_, rfl⟩
                  obtain ⟨S7, hS7⟩ : ∃ S7, sumL (codeL (ahdL x l7)) = S7 := ⟨_, rfl⟩
                  rw [hmo, hmi]
                  have hSD : S7 - S = mi - mo := by rw [← hS7, ← hmo, ← hmi, ← HSS.out]; exact HSD.out
                  obtain ⟨D, hD⟩ : ∃ D, IntKind.i64.wrap (S7 - S) = D := ⟨_, rfl⟩
                  have hD2 : IntKind.i64.wrap (mi - mo) = D := by rw [← hSD]; exact hD
                  have q10 : (D == D) = true := by simp
                  have q11 : ((i : Int) != (i : Int)) = false := by simp
                  have HS7 := Lib.hid hS7
                  clear x1 x2 x3 x4 HX o7 hl7 b7 hSD hS7 hmo hmi wf8 wf7 q9 r6 HN HSD
                  go_wp2_with fail
                  refine hb7.out.mono ?_
                  rintro e w8 ⟨rfl, rfl⟩
                  go_wp2_with fail
                  refine ht7.out.mono ?_
                  rintro e w8 ⟨rfl, b8⟩
                  rw [HS7.out]
                  have kw8 := kw7.trans (b8.mono kw7.size)
                  clear b8 r7
                  go_wp2_with fail
                  refine (chosenWorks_any _ (HTB.out _ kw8)).mono ?_
                  rintro e w9 ⟨rfl, b9⟩
                  have kw9 := kw8.trans (b9.mono kw8.size)
                  go_wp2_with fail
                  go_ret
                  exact ⟨rfl, hbw.trans (kw9.mono hbw.size)⟩
end Go.Proofs.YtpfaoagddgcmbaaDoor
