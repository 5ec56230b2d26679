/- Walks of chapter 9: the reference: a store is checked (2). -/
import Derived.Test.YtbhjphcomppjgaaDoorRa
namespace Go.Proofs.YtbhjphcomppjgaaDoor
open Go.RowKit Beetle09
variable {r c : Int} {S F : List Int} {a b : Option Addr} {n m k j : Nat} {w : World}

/-- The box of a store, and all that was there. -/
structure BoxS (w wr : World) (t : TypeId) (L : List Value) : Prop where
  box : ArrV VV wr w.heap.size t L
  below : Below w.heap.size w wr
theorem BoxS.to {w wr w' : World} {t : TypeId} {L : List Value} (h : BoxS w wr t L) (hb : Below wr.heap.size wr w') : BoxS w w' t L := ⟨h.box.below hb, h.below.trans (hb.mono h.below.size)⟩
theorem BoxS.start (w : World) (L : List Value) (t : TypeId) : BoxS w (w.alloc (.cells L.toArray t)) t L := ⟨ArrV.new w _ _ _ _ rfl (by simp [VV]), (Below.refl _ _).alloc (Nat.le_refl _) _⟩
abbrev bxL (r c : Int) (a b : Option Addr) (n k m j : Nat) : List Value := [.int .i64 r, .int .i64 c, .slice a n k, .slice b m j]
set_option maxHeartbeats 8000000 in
set_option maxRecDepth 100000 in
theorem rCheck_any (hS : IsL w a n k S) (hF : IsL w b m j F) : Calls Tryd.prog 39 #[stV r c a b n k m j] w (EP (openE r c S F) w) := by
  have hl1 := hS.len
  have hl2 := hF.len
  have hc1 := hS.cap
  have hc2 := hF.cap
  have hle1 := hS.le
  have hle2 := hF.le
  have HL1 := Lib.hid hl1
  have HL2 := Lib.hid hl2
  have hB0 := BoxS.start w (bxL r c a b n k m j) 27
  obtain ⟨B, hB⟩ : ∃ B, sdB r c = B := ⟨_, rfl⟩
  have HB := Lib.hid (fun w => sides_any r c w B hB)
  cases B with
  | false =>
    have HE : Hid (openE r c S F = 1) := Lib.hid (by unfold openE; rw [if_pos hB])
    clear hB hl1 hl2
    go_enter Tryd.func39, Tryd.ntmps39
    go_wp2_with fail
    refine (HB.out _).mono ?_
    rintro e w1 ⟨rfl, rfl⟩
    go_wp2_with fail
    go_ret
    exact ⟨ret_i HE.out.symm, hB0.below⟩
  | true =>
    obtain ⟨R, C, rfl, rfl, hs⟩ := sdB_sd hB
    have n25 := hs.n25
    have hR5 := hs.r5
    have hC5 := hs.c5
    have HBL := Lib.hid (fun (x : Int) (w : World) (B : Bool) hB => bale_any R C a b n k m j x w hs.n25 hs.n1 hs.r5 hs.c5 B hB)
    obtain ⟨N, hN⟩ : ∃ N, R * C = N := ⟨_, rfl⟩
    have HE : Hid (openE R C S F = if (sickE N S 0).1 = 0 then (coldE N (sickE N S 0).2 F 0).1 else (sickE N S 0).1) := Lib.hid (by
      unfold openE
      have e : ((R : Int) * (C : Int)).toNat = N := by rw [← hN, ← Int.natCast_mul, Int.toNat_natCast]
      rw [if_neg (by rw [hB]; simp), e])
    rw [hN] at n25 HBL
    clear hB hN hs hl1 hl2
    have HB0 := Lib.hid hB0
    clear hB0
    go_enter Tryd.func39, Tryd.ntmps39
    go_wp2_with fail
    refine (HB.out _).mono ?_
    rintro e w1 ⟨rfl, rfl⟩
    go_wp2_with fail
    clear HB
    go_loopw [3] (fun vi wr => ∃ i : Nat, i ≤ n ∧ vi = .int .i64 (i : Int) ∧ Hid (BoxS w wr 27 (bxL R C a b n k m j)) ∧ Hid (∃ s, Rd N (S.take i) s ∧ sickE N S 0 = sickE N (S.drop i) s)) (fun vi _ => n - (intOf vi).toNat)
    case atStart => exact ⟨0, by omega, rfl, HB0, Lib.hid ⟨0, rd_nil N, by rw [List.drop_zero]⟩⟩
    case round =>
      clear HB0
      obtain ⟨i, hi, rfl, hT, hI⟩ := hrel
      by_cases hlt : i < n
      · have q0 : (i : Int) < (n : Int) := by omega
        have hk := hS.below hT.out.below
        have x0 := val hT.out.box 0 rfl
        have x1 := val hT.out.box 1 rfl
        have x2 := val hT.out.box 2 rfl
        have x3 := val hT.out.box 3 rfl
        obtain ⟨bb, oo, rfl, _, hc⟩ := hk.cells (by omega)
        have y1 := hc i hlt
        have HD := Lib.hid (drop_cons S i (by rw [HL1.out]; exact hlt))
        have HTK := Lib.hid (take_snoc S i (by rw [HL1.out]; exact hlt))
        have hpre := hk.pre i k (by omega) (by omega) (Nat.le_refl _)
        have HP := Lib.hid hpre
        obtain ⟨x, hx⟩ : ∃ x, S.getD i 0 = x := ⟨_, rfl⟩
        rw [hx] at y1 HD HTK
        clear hk hc hx hpre
        obtain ⟨BX, hBX⟩ : ∃ BX, decide (0 ≤ x ∧ x < (N : Int)) = BX := ⟨_, rfl⟩
        have HBX := Lib.hid hBX
        clear hBX
        cases BX with
        | false =>
          have HXR : Hid (x < 0 ∨ (N : Int) ≤ x) := Lib.hid (by have := of_decide_eq_false HBX.out; omega)
          have HFIN : Hid (openE R C S F = 2) := Lib.hid (by obtain ⟨s, _, h⟩ := hI.out; rw [HE.out, h, HD.out, sickE_bad HXR.out, if_neg (by simp)])
          go_wp2_with fail
          go_still_tail 6, (by kernel_rfl)
          go_wp2_with fail
          refine (HBL.out x _ false HBX.out).mono ?_
          rintro e w2 ⟨rfl, b2⟩
          have hT2 : Hid (BoxS w w2 27 (bxL R C _ _ n k m j)) := Lib.hid ((hT.out.to (Below.refl wr.heap.size wr).drew).to b2)
          go_wp2_with fail
          go_ret
          exact ⟨ret_i HFIN.out.symm, hT2.out.below⟩
        | true =>
          obtain ⟨v, rfl⟩ : ∃ v : Nat, x = (v : Int) := ⟨x.toNat, by have := of_decide_eq_true HBX.out; omega⟩
          have hvN : v < N := by have := of_decide_eq_true HBX.out; omega
          have HVN := Lib.hid hvN
          obtain ⟨B1, hB1⟩ : ∃ B1, decide ((v : Int) ∈ S.take i) = B1 := ⟨_, rfl⟩
          have HB1 := Lib.hid hB1
          clear hB1 hvN
          go_wp2_with fail
          go_still_tail 6, (by kernel_rfl)
          go_wp2_with fail
          refine (HBL.out (v : Int) _ true HBX.out).mono ?_
          rintro e w2 ⟨rfl, b2⟩
          have b3 : Below wr.heap.size wr w2 := (Below.refl wr.heap.size wr).drew.trans b2
          have hT2 : Hid (BoxS w w2 27 (bxL R C _ _ n k m j)) := Lib.hid (hT.out.to b3)
          have x0 := val hT2.out.box 0 rfl
          have x1 := val hT2.out.box 1 rfl
          have x2 := val hT2.out.box 2 rfl
          have x3 := val hT2.out.box 3 rfl
          have y2 := (hS.below hT2.out.below).cells (by omega)
          obtain ⟨bb2, oo2, hae, _, hc2⟩ := y2
          obtain ⟨rfl, rfl⟩ : bb2 = bb ∧ oo2 = oo := by simpa [eq_comm] using hae
          have y3 := hc2 i hlt
          have hg : S.getD i 0 = (v : Int) := by have := HTK.out; have h2 := take_snoc S i (by rw [HL1.out]; exact hlt); rw [h2] at this; simpa using this
          rw [hg] at y3
          have HP2 := Lib.hid (HP.out.below b3)
          clear hc2 hae hg y1 b2
          have HQ : Hid (∀ q, Calls Tryd.prog 58 #[.slice (some ⟨bb2, oo2, none⟩) i k, .int .i64 (v : Int)] (w2.drewN q) fun e w' => e = .returned (.bool B1) ∧ w' = w2.drewN q) := Lib.hid fun q => (rhas_any _ _ _ _ _ _ (HP2.out.drewN q) B1 HB1.out).mono fun _ _ h => ⟨h.1, h.2.symm⟩
          cases B1 with
          | true =>
            have HFIN : Hid (openE R C S F = 6) := Lib.hid (by obtain ⟨s, h1, h⟩ := hI.out; rw [HE.out, h, HD.out, sickE_two HVN.out (by rw [h1.bit]; exact HB1.out), if_neg (by simp)])
            go_wp2_with fail
            go_quiet ((go_at_call 58; exact Calls.quiet_of_same (HQ.out _)))
            go_wp2
            go_ret
            exact ⟨ret_i HFIN.out.symm, belowN hT2.out.below _⟩
          | false =>
            have hI2 : Hid (∃ s, Rd N (S.take (i + 1)) s ∧ sickE N S 0 = sickE N (S.drop (i + 1)) s) := Lib.hid (by
              obtain ⟨s, h1, h⟩ := hI.out
              have h2 : s.testBit v = false := by rw [h1.bit]; exact HB1.out
              refine ⟨s ||| 2 ^ v, by rw [HTK.out]; exact h1.snoc HVN.out h2, by rw [h, HD.out, sickE_ok HVN.out h2]⟩)
            go_wp2_with fail
            go_quiet ((go_at_call 58; exact Calls.quiet_of_same (HQ.out _)))
            go_wp2
            go_roundw
            case rel => first | exact ⟨i + 1, by omega, by go_num, Lib.hid (hT2.out.to (belowN (Below.refl _ _) _)), hI2⟩ | ((repeat apply Exists.intro); exact ⟨⟨i + 1, by omega, by go_num, Lib.hid (hT2.out.to (belowN (Below.refl _ _) _)), hI2⟩, rfl⟩)
            case measure => (simp [intOf] <;> omega)
      · obtain rfl : n = i := by omega
        obtain ⟨s, hrs, hs1⟩ : ∃ s, Rd N S s ∧ sickE N S 0 = (0, s) := by
          obtain ⟨s, h1, h⟩ := hI.out
          rw [List.take_of_length_le (by rw [HL1.out]; exact Nat.le_refl _)] at h1
          rw [List.drop_of_length_le (by rw [HL1.out]; exact Nat.le_refl _)] at h
          exact ⟨s, h1, h⟩
        have HRS := Lib.hid hrs
        have HS1 := Lib.hid hs1
        have HT1 := hT
        have x2 := val hT.out.box 2 rfl
        have x3 := val hT.out.box 3 rfl
        obtain ⟨W1, rfl⟩ : ∃ W, W = wr := ⟨_, rfl⟩
        clear hrs hs1 hI hT hlt
        go_wp2_with fail
        clear x2 x3
        go_loopw [4] (fun vi wr => ∃ i : Nat, i ≤ m ∧ vi = .int .i64 (i : Int) ∧ Hid (BoxS w wr 27 (bxL R C a b n k m j)) ∧ Hid (∃ z, Rd N (F.take i) z ∧ True ∧ coldE N s F 0 = coldE N s (F.drop i) z)) (fun vi _ => m - (intOf vi).toNat)
        case atStart => exact ⟨0, by omega, rfl, HT1, Lib.hid ⟨0, rd_nil N, trivial, by rw [List.drop_zero]⟩⟩
        case round =>
          clear HT1
          obtain ⟨i, hi, rfl, hT, hI⟩ := hrel
          by_cases hlt : i < m
          · have q0 : (i : Int) < (m : Int) := by omega
            have hk := hF.below hT.out.below
            have x0 := val hT.out.box 0 rfl
            have x1 := val hT.out.box 1 rfl
            have x2 := val hT.out.box 2 rfl
            have x3 := val hT.out.box 3 rfl
            obtain ⟨bb, oo, rfl, _, hc⟩ := hk.cells (by omega)
            have y1 := hc i hlt
            have HD := Lib.hid (drop_cons F i (by rw [HL2.out]; exact hlt))
            have HTK := Lib.hid (take_snoc F i (by rw [HL2.out]; exact hlt))
            have hpre := hk.pre i j (by omega) (by omega) (Nat.le_refl _)
            have HP := Lib.hid hpre
            obtain ⟨x, hx⟩ : ∃ x, F.getD i 0 = x := ⟨_, rfl⟩
            rw [hx] at y1 HD HTK
            clear hk hc hx hpre
            obtain ⟨BX, hBX⟩ : ∃ BX, decide (0 ≤ x ∧ x < (N : Int)) = BX := ⟨_, rfl⟩
            have HBX := Lib.hid hBX
            clear hBX
            cases BX with
            | false =>
              have HXR : Hid (x < 0 ∨ (N : Int) ≤ x) := Lib.hid (by have := of_decide_eq_false HBX.out; omega)
              have HFIN : Hid (openE R C S F = 2) := Lib.hid (by obtain ⟨z, _, _, h⟩ := hI.out; rw [HE.out, HS1.out, if_pos rfl, h, HD.out, coldE_bad HXR.out])
              go_wp2_with fail
              go_still_tail 6, (by kernel_rfl)
              go_wp2_with fail
              refine (HBL.out x _ false HBX.out).mono ?_
              rintro e w2 ⟨rfl, b2⟩
              have hT2 : Hid (BoxS w w2 27 (bxL R C _ _ n k m j)) := Lib.hid ((hT.out.to (Below.refl wr.heap.size wr).drew).to b2)
              go_wp2_with fail
              go_ret
              exact ⟨ret_i HFIN.out.symm, hT2.out.below⟩
            | true =>
              obtain ⟨v, rfl⟩ : ∃ v : Nat, x = (v : Int) := ⟨x.toNat, by have := of_decide_eq_true HBX.out; omega⟩
              have hvN : v < N := by have := of_decide_eq_true HBX.out; omega
              have HVN := Lib.hid hvN
              obtain ⟨B1, hB1⟩ : ∃ B1, decide ((v : Int) ∈ F.take i) = B1 := ⟨_, rfl⟩
              have HB1 := Lib.hid hB1
              clear hB1 hvN
              go_wp2_with fail
              go_still_tail 6, (by kernel_rfl)
              go_wp2_with fail
              refine (HBL.out (v : Int) _ true HBX.out).mono ?_
              rintro e w2 ⟨rfl, b2⟩
              have b3 : Below wr.heap.size wr w2 := (Below.refl wr.heap.size wr).drew.trans b2
              have hT2 : Hid (BoxS w w2 27 (bxL R C _ _ n k m j)) := Lib.hid (hT.out.to b3)
              have x0 := val hT2.out.box 0 rfl
              have x1 := val hT2.out.box 1 rfl
              have x2 := val hT2.out.box 2 rfl
              have x3 := val hT2.out.box 3 rfl
              have y2 := (hF.below hT2.out.below).cells (by omega)
              obtain ⟨bb2, oo2, hae, _, hc2⟩ := y2
              obtain ⟨rfl, rfl⟩ : bb2 = bb ∧ oo2 = oo := by simpa [eq_comm] using hae
              have y3 := hc2 i hlt
              have hg : F.getD i 0 = (v : Int) := by have := HTK.out; have h2 := take_snoc F i (by rw [HL2.out]; exact hlt); rw [h2] at this; simpa using this
              rw [hg] at y3
              have HP2 := Lib.hid (HP.out.below b3)
              clear hc2 hae hg y1 b2
              have HQ : Hid (∀ q, Calls Tryd.prog 58 #[.slice (some ⟨bb2, oo2, none⟩) i j, .int .i64 (v : Int)] (w2.drewN q) fun e w' => e = .returned (.bool B1) ∧ w' = w2.drewN q) := Lib.hid fun q => (rhas_any _ _ _ _ _ _ (HP2.out.drewN q) B1 HB1.out).mono fun _ _ h => ⟨h.1, h.2.symm⟩
              cases B1 with
              | true =>
                have HFIN : Hid (openE R C S F = 6) := Lib.hid (by obtain ⟨z, h1, _, h⟩ := hI.out; rw [HE.out, HS1.out, if_pos rfl, h, HD.out, coldE_two HVN.out (by rw [h1.bit]; exact HB1.out)])
                go_wp2_with fail
                go_quiet ((go_at_call 58; exact Calls.quiet_of_same (HQ.out _)))
                go_wp2
                go_ret
                exact ⟨ret_i HFIN.out.symm, belowN hT2.out.below _⟩
              | false =>
                go_wp2_with fail
                go_quiet ((go_at_call 58; exact Calls.quiet_of_same (HQ.out _)))
                obtain ⟨B2, hB2⟩ : ∃ B2, decide ((v : Int) ∈ S) = B2 := ⟨_, rfl⟩
                have HB2 := Lib.hid hB2
                clear hB2
                have hT3 := Lib.hid (hT2.out.to (belowN (Below.refl w2.heap.size w2) nq))
                obtain ⟨w4, hw4⟩ : ∃ w4, w2.drewN nq = w4 := ⟨_, rfl⟩
                rw [hw4] at hT3 ⊢
                clear x0 x1 x2 x3 y3 hw4
                have x0 := val hT3.out.box 0 rfl
                have x1 := val hT3.out.box 1 rfl
                have x2 := val hT3.out.box 2 rfl
                have x3 := val hT3.out.box 3 rfl
                have y2 := (hF.below hT3.out.below).cells (by omega)
                obtain ⟨bb3, oo3, hae, _, hc2⟩ := y2
                obtain ⟨rfl, rfl⟩ : bb3 = bb2 ∧ oo3 = oo2 := by simpa [eq_comm] using hae
                have y3 := hc2 i hlt
                have hg : F.getD i 0 = (v : Int) := by have := HTK.out; have h2 := take_snoc F i (by rw [HL2.out]; exact hlt); rw [h2] at this; simpa using this
                rw [hg] at y3
                clear hc2 hae hg
                have HQ2 : Hid (∀ q, Calls Tryd.prog 58 #[.slice a n k, .int .i64 (v : Int)] (w4.drewN q) fun e w' => e = .returned (.bool B2) ∧ w' = w4.drewN q) := Lib.hid fun q => (rhas_any _ _ _ _ _ _ ((hS.below hT3.out.below).drewN q) B2 HB2.out).mono fun _ _ h => ⟨h.1, h.2.symm⟩
                cases B2 with
                | true =>
                  have HFIN : Hid (openE R C S F = 13) := Lib.hid (by obtain ⟨z, h1, _, h⟩ := hI.out; rw [HE.out, HS1.out, if_pos rfl, h, HD.out, coldE_clash HVN.out (by rw [h1.bit]; exact HB1.out) (by rw [HRS.out.bit]; exact HB2.out)])
                  go_wp2_with fail
                  go_quiet ((go_at_call 58; exact Calls.quiet_of_same (HQ2.out _)))
                  go_wp2
                  go_ret
                  exact ⟨ret_i HFIN.out.symm, belowN hT3.out.below _⟩
                | false =>
                  have hI2 : Hid (∃ z, Rd N (F.take (i + 1)) z ∧ True ∧ coldE N s F 0 = coldE N s (F.drop (i + 1)) z) := Lib.hid (by
                    obtain ⟨z, h1, _, h⟩ := hI.out
                    have h2 : z.testBit v = false := by rw [h1.bit]; exact HB1.out
                    have h3 : s.testBit v = false := by rw [HRS.out.bit]; exact HB2.out
                    refine ⟨z ||| 2 ^ v, by rw [HTK.out]; exact h1.snoc HVN.out h2, trivial, by rw [h, HD.out, coldE_ok HVN.out h2 h3]⟩)
                  go_wp2_with fail
                  go_quiet ((go_at_call 58; exact Calls.quiet_of_same (HQ2.out _)))
                  go_wp2
                  go_roundw
                  case rel => first | exact ⟨i + 1, by omega, by go_num, Lib.hid (hT3.out.to (belowN (Below.refl _ _) _)), hI2⟩ | ((repeat apply Exists.intro); exact ⟨⟨i + 1, by omega, by go_num, Lib.hid (hT3.out.to (belowN (Below.refl _ _) _)), hI2⟩, rfl⟩)
                  case measure => (simp [intOf] <;> omega)
          · obtain rfl : m = i := by omega
            have x3 := val hT.out.box 3 rfl
            have HFIN : Hid (openE R C S F = 0) := Lib.hid (by
              obtain ⟨z, h1, _, h⟩ := hI.out
              rw [HE.out, HS1.out, if_pos rfl, h, List.drop_of_length_le (by rw [HL2.out]; exact Nat.le_refl _)]; rfl)
            go_wp2_with fail
            go_ret
            exact ⟨ret_i HFIN.out.symm, hT.out.below⟩
end Go.Proofs.YtbhjphcomppjgaaDoor
