/- Walks of chapter 9: a store is opened (2). -/
import Derived.Test.YtbhjphcomppjgaaDoorWe
namespace Go.Proofs.YtbhjphcomppjgaaDoor
open Go.RowKit Beetle09

abbrev VV : Value → Value := fun v => v
theorem val {w : World} {g : Nat} {t : TypeId} {l : List Value} (h : ArrV VV w g t l) (i : Nat) {v : Value} (hv : l[i]? = some v) : w.cell? ⟨g, i, none⟩ = some v := by
  have hi := (List.getElem?_eq_some_iff.1 hv).1
  have := h.cell i (.bool false) hi
  rw [this]
  simp [VV, List.getD, hv]
/-- What opened returns. -/
def OpP (r c : Int) (S F : List Int) (w : World) : Ending → World → Prop := fun e w' =>
  Below w.heap.size w w' ∧ ((openE r c S F ≠ 0 ∧ e = .returned (.tuple #[.pointer none, .agg #[.int .u32 0, .int .u32 0], .int .i64 (openE r c S F)])) ∨
    ∃ R C s z g : Nat, openE r c S F = 0 ∧ Opn r c S F R C s z ∧ w.heap.size ≤ g ∧ Flr w' g R C (nearN C (R * C)) ∧ e = .returned (.tuple #[.pointer (some ⟨g, 0, none⟩), .agg #[.int .u32 (s : Int), .int .u32 (z : Int)], .int .i64 0]))
theorem OpP.bad {r c : Int} {S F : List Int} {w w' : World} {E : Int} (h : openE r c S F = E) (h0 : E ≠ 0) (hb : Below w.heap.size w w') : OpP r c S F w (.returned (.tuple #[.pointer none, .agg #[.int .u32 0, .int .u32 0], .int .i64 E])) w' :=
  ⟨hb, Or.inl ⟨by rw [h]; exact h0, by rw [h]⟩⟩
/-- The state of opened's loops. -/
structure OpS (w wr : World) (bx : List Value) (g b R C s z : Nat) : Prop where
  box : ArrV VV wr w.heap.size 24 bx
  flr : Flr wr g R C (nearN C (R * C))
  st : ArrV VV wr b 79 [.int .u32 (s : Int), .int .u32 (z : Int)]
  out : ArrV VV wr (w.heap.size + 1) 79 [.int .u32 0, .int .u32 0]
  gb : g ≠ b
  hb : w.heap.size + 2 ≤ b
  below : Below w.heap.size w wr
theorem OpS.drew {w wr : World} {bx : List Value} {g b R C s z : Nat} (h : OpS w wr bx g b R C s z) : OpS w wr.drew bx g b R C s z := ⟨h.box.drew, h.flr.drew, h.st.drew, h.out.drew, h.gb, h.hb, h.below.drew⟩
theorem OpS.sick {w wr : World} {bx : List Value} {g b R C s z : Nat} (h : OpS w wr bx g b R C s z) (t : Nat) : OpS w (wr.setCell ⟨b, 0, none⟩ (.int .u32 (t : Int))) bx g b R C t z :=
  ⟨h.box.other (by simp only []; have := h.hb; omega) _, h.flr.other (by simp only []; exact fun e => h.gb e.symm) _, h.st.set 0 (.int .u32 (t : Int)), h.out.other (by simp only []; have := h.hb; omega) _, h.gb, h.hb, h.below.setCell (by simp only []; have := h.hb; omega) _⟩
theorem OpS.cold {w wr : World} {bx : List Value} {g b R C s z : Nat} (h : OpS w wr bx g b R C s z) (t : Nat) : OpS w (wr.setCell ⟨b, 1, none⟩ (.int .u32 (t : Int))) bx g b R C s t :=
  ⟨h.box.other (by simp only []; have := h.hb; omega) _, h.flr.other (by simp only []; exact fun e => h.gb e.symm) _, h.st.set 1 (.int .u32 (t : Int)), h.out.other (by simp only []; have := h.hb; omega) _, h.gb, h.hb, h.below.setCell (by simp only []; have := h.hb; omega) _⟩
theorem OpS.bad {w wr : World} {bx : List Value} {g b R C s z : Nat} (h : OpS w wr bx g b R C s z) : Below w.heap.size w ((wr.setCell ⟨w.heap.size + 1, 0, none⟩ (.int .u32 0)).setCell ⟨w.heap.size + 1, 1, none⟩ (.int .u32 0)) :=
  (h.below.setCell (p := ⟨w.heap.size + 1, 0, none⟩) (Nat.le_succ _) _).setCell (p := ⟨w.heap.size + 1, 1, none⟩) (Nat.le_succ _) _

set_option maxHeartbeats 8000000 in
set_option maxRecDepth 100000 in
theorem opened_any (r c : Int) (S F : List Int) (a b : Option Addr) (n m k j : Nat) (w : World) (hS : IsL w a n k S) (hF : IsL w b m j F) :
    Calls Tryd.prog 53 #[.agg #[.int .i64 r, .int .i64 c, .slice a n k, .slice b m j]] w (OpP r c S F w) := by
  have hl1 := hS.len
  have hl2 := hF.len
  have hc1 := hS.cap
  have hc2 := hF.cap
  have hle1 := hS.le
  have hle2 := hF.le
  have HL1 := Lib.hid hl1
  have HL2 := Lib.hid hl2
  clear hl1 hl2
  obtain ⟨B, hB⟩ : ∃ B, sdB r c = B := ⟨_, rfl⟩
  have HB := Lib.hid hB
  cases B with
  | false =>
    have HE : Hid (openE r c S F = 1) := Lib.hid (by unfold openE; rw [if_pos hB])
    clear hB
    go_enter Tryd.func53, Tryd.ntmps53
    go_wp2_with fail
    refine (sided_any r c _ false HB.out).mono ?_
    rintro e w1 ⟨rfl, rfl⟩
    go_wp2_with fail
    refine bodyPost_ret (v := .tuple #[.pointer none, .agg #[.int .u32 0, .int .u32 0], .int .i64 1]) (by simp [results, Tryd.results53, go_sem]) rfl (OpP.bad HE.out (by decide) ?_)
    exact ((Below.refl _ _).alloc (Nat.le_refl _) _).alloc (by simp) _
  | true =>
    obtain ⟨R, C, rfl, rfl, hs⟩ := sdB_sd hB
    have n25 := hs.n25
    obtain ⟨N, hN⟩ : ∃ N, R * C = N := ⟨_, rfl⟩
    have HN := Lib.hid hN
    have HE : Hid (openE R C S F = if (sickE N S 0).1 = 0 then (coldE N (sickE N S 0).2 F 0).1 else (sickE N S 0).1) := Lib.hid (by
      unfold openE
      have e : ((R : Int) * (C : Int)).toNat = N := by rw [← hN, ← Int.natCast_mul, Int.toNat_natCast]
      rw [if_neg (by rw [hB]; simp), e])
    have HSD := Lib.hid hs
    rw [hN] at n25
    clear hB hN hs
    go_enter Tryd.func53, Tryd.ntmps53
    go_wp2_with fail
    refine (sided_any _ _ _ true HB.out).mono ?_
    rintro e w1 ⟨rfl, rfl⟩
    go_wp2_with fail
    refine (laid_any R C _ HSD.out).mono ?_
    rintro e w1 ⟨g, rfl, hg, hfl, hb1⟩
    have A1 := (ArrV.new (f := VV) w #[.int .i64 (R : Int), .int .i64 (C : Int), .slice a n k, .slice b m j] 24 [.int .i64 (R : Int), .int .i64 (C : Int), .slice a n k, .slice b m j] _ rfl rfl).alloc (.cells #[.int .u32 0, .int .u32 0] 79)
    have A2 := ArrV.new (f := VV) (w.alloc (.cells #[.int .i64 (R : Int), .int .i64 (C : Int), .slice a n k, .slice b m j] 24)) #[.int .u32 0, .int .u32 0] 79 [.int .u32 0, .int .u32 0] (w.heap.size + 1) (by simp) rfl
    have hz1 := hb1.size
    simp only [World.size_alloc] at hz1 hg
    have A3 := A1.below hb1
    have A4 := A2.below hb1
    have kb : Below w.heap.size w w1 := (((Below.refl _ _).alloc (Nat.le_refl _) _).alloc (by simp) _).trans (hb1.mono (by simp; omega))
    clear A1 A2 hb1
    have hgl := hfl.lt
    have x2 := val (A3.alloc (.cells #[.int .u32 0, .int .u32 0] 79)) 2 rfl
    go_wp2_with fail
    have HS0 : OpS w (w1.alloc (.cells #[.int .u32 0, .int .u32 0] 79)) [.int .i64 (R : Int), .int .i64 (C : Int), .slice a n k, .slice b m j] g w1.heap.size R C 0 0 :=
      ⟨A3.alloc _, hfl.alloc _, ArrV.new _ _ _ _ _ rfl rfl, A4.alloc _, by omega, by omega, kb.alloc (by omega) _⟩
    have HST := Lib.hid HS0
    clear HS0 x2 A3 A4 kb hfl
    generalize w1.heap.size = b6 at *
    generalize w1.alloc (.cells #[.int .u32 0, .int .u32 0] 79) = W at *
    go_loopw [26] (fun vi wr => ∃ (i s : Nat), i ≤ n ∧ vi = .int .i64 (i : Int) ∧ Hid (OpS w wr [.int .i64 (R : Int), .int .i64 (C : Int), .slice a n k, .slice b m j] g b6 R C s 0) ∧ Hid (sickE N S 0 = sickE N (S.drop i) s) ∧ Hid (s < 2 ^ 25)) (fun vi _ => n - (intOf vi).toNat)
    case atStart => exact ⟨0, 0, by omega, rfl, HST, Lib.hid (by rw [List.drop_zero]), Lib.hid (by decide)⟩
    case round =>
      clear HST
      obtain ⟨i, s, hi, rfl, hT, hE, hs25⟩ := hrel
      by_cases hlt : i < n
      · have q0 : (i : Int) < (n : Int) := by omega
        have hk := hS.below hT.out.below
        obtain ⟨bb, oo, rfl, _, hc⟩ := hk.cells (by omega)
        have y1 := hc i hlt
        have HD := Lib.hid (drop_cons S i (by rw [HL1.out]; exact hlt))
        obtain ⟨x, hx⟩ : ∃ x, S.getD i 0 = x := ⟨_, rfl⟩
        rw [hx] at y1 HD
        clear hk hc hx
        have o0 := val hT.out.out 0 rfl
        have o1 := val hT.out.out 1 rfl
        have f0 := hT.out.out.frozen 0
        have f1 := hT.out.out.frozen 1
        have HBAD := Lib.hid hT.out.bad
        have xb : wr.cell? ⟨g, 2, none⟩ = some (.int .i64 (N : Int)) := by have := hT.out.flr.bales; rw [HN.out] at this; exact this
        by_cases hx0 : x < 0
        · have HXR : Hid (x < 0 ∨ (N : Int) ≤ x) := Lib.hid (Or.inl hx0)
          go_wp2_with fail
          refine bodyPost_ret (v := .tuple #[.pointer none, .agg #[.int .u32 0, .int .u32 0], .int .i64 2]) (by simp [results, Tryd.results53, go_sem, o0, o1]) rfl (OpP.bad (by rw [HE.out, hE.out, HD.out, sickE_bad HXR.out, if_neg (by simp)]) (by decide) HBAD.out)
        · obtain ⟨v, rfl⟩ : ∃ v : Nat, x = (v : Int) := ⟨x.toNat, by omega⟩
          have hv0 : decide ((v : Int) < 0) = false := by simp
          by_cases hxN : N ≤ v
          · have HXR : Hid ((v : Int) < 0 ∨ (N : Int) ≤ (v : Int)) := Lib.hid (Or.inr (by omega))
            have d1 : decide ((N : Int) ≤ (v : Int)) = true := by simp; omega
            have d2 : decide (N ≤ v) = true := by simp; omega
            go_wp2_with fail
            refine bodyPost_ret (v := .tuple #[.pointer none, .agg #[.int .u32 0, .int .u32 0], .int .i64 2]) (by simp [results, Tryd.results53, go_sem, o0, o1]) rfl (OpP.bad (by rw [HE.out, hE.out, HD.out, sickE_bad HXR.out, if_neg (by simp)]) (by decide) HBAD.out)
          · have hvN : v < N := by omega
            have d1 : decide ((N : Int) ≤ (v : Int)) = false := by simp; omega
            have d2 : decide (N ≤ v) = false := by simp; omega
            have hs32 : s < 4294967296 := Nat.lt_of_lt_of_le hs25.out (by decide)
            have s0 := val hT.out.st 0 rfl
            have s1 := val hT.out.st 1 rfl
            have g0 := hT.out.st.frozen 0
            have ht := hT.out.hb
            obtain ⟨B1, hB1⟩ : ∃ B1, s.testBit v = B1 := ⟨_, rfl⟩
            have HB1 := Lib.hid hB1
            clear hB1
            cases B1 with
            | true =>
              have HC := Lib.hid (fun w => has_any s v w hs32 (by omega) true HB1.out)
              go_wp2_with fail
              refine (HC.out _).mono ?_
              rintro e w2 ⟨rfl, rfl⟩
              go_wp2_with fail
              refine bodyPost_ret (v := .tuple #[.pointer none, .agg #[.int .u32 0, .int .u32 0], .int .i64 6]) (by simp [results, Tryd.results53, go_sem, o0, o1]) rfl (OpP.bad (by rw [HE.out, hE.out, HD.out, sickE_two hvN HB1.out, if_neg (by simp)]) (by decide) HBAD.out)
            | false =>
              have HC := Lib.hid (fun w => has_any s v w hs32 (by omega) false HB1.out)
              go_wp2_with fail
              refine (HC.out _).mono ?_
              rintro e w2 ⟨rfl, rfl⟩
              obtain ⟨V, r, hr, hr25, hV1, f2, f3, f4, f5⟩ := or_facts s v hs25.out (by omega)
              have HN2 := Lib.hid (hT.out.sick r)
              have HR25 := Lib.hid hr25
              have HE2 : Hid (sickE N S 0 = sickE N (S.drop (i + 1)) r) := Lib.hid (by rw [hE.out, HD.out, sickE_ok hvN HB1.out, hr])
              clear hr hr25
              go_wp2_with fail
              go_region
              all_goals
                go_wp2_with fail
                go_roundw
                case rel => first | exact ⟨i + 1, r, by omega, by go_num, Lib.hid HN2.out.drew, HE2, HR25⟩ | ((repeat apply Exists.intro); exact ⟨⟨i + 1, r, by omega, by go_num, Lib.hid HN2.out.drew, HE2, HR25⟩, rfl⟩)
                case measure => (simp [intOf] <;> omega)
      · obtain rfl : n = i := by omega
        have HS1 : Hid (sickE N S 0 = (0, s)) := Lib.hid (by rw [hE.out, List.drop_of_length_le (by rw [HL1.out]; exact Nat.le_refl _)]; rfl)
        have HS25 := hs25
        have hT1 := hT
        have x3 := val hT.out.box 3 rfl
        clear hE hT hlt hs25
        obtain ⟨W1, rfl⟩ : ∃ W, W = wr := ⟨_, rfl⟩
        go_wp2_with fail
        have HT1 := hT1
        clear hT1 x3
        go_loopw [58] (fun vi wr => ∃ (i z : Nat), i ≤ m ∧ vi = .int .i64 (i : Int) ∧ Hid (OpS w wr [.int .i64 (R : Int), .int .i64 (C : Int), .slice a n k, .slice b m j] g b6 R C s z) ∧ Hid (coldE N s F 0 = coldE N s (F.drop i) z) ∧ Hid (z < 2 ^ 25)) (fun vi _ => m - (intOf vi).toNat)
        case atStart => exact ⟨0, 0, by omega, rfl, HT1, Lib.hid (by rw [List.drop_zero]), Lib.hid (by decide)⟩
        case round =>
        clear HT1
        obtain ⟨i, z, hi, rfl, hT, hE, hz25⟩ := hrel
        by_cases hlt : i < m
        · have q0 : (i : Int) < (m : Int) := by omega
          have hk := hF.below hT.out.below
          obtain ⟨bb, oo, rfl, _, hc⟩ := hk.cells (by omega)
          have y1 := hc i hlt
          have HD := Lib.hid (drop_cons F i (by rw [HL2.out]; exact hlt))
          obtain ⟨x, hx⟩ : ∃ x, F.getD i 0 = x := ⟨_, rfl⟩
          rw [hx] at y1 HD
          clear hk hc hx
          have o0 := val hT.out.out 0 rfl
          have o1 := val hT.out.out 1 rfl
          have f0 := hT.out.out.frozen 0
          have f1 := hT.out.out.frozen 1
          have HBAD := Lib.hid hT.out.bad
          have xb : wr.cell? ⟨g, 2, none⟩ = some (.int .i64 (N : Int)) := by have := hT.out.flr.bales; rw [HN.out] at this; exact this
          by_cases hx0 : x < 0
          · have HXR : Hid (x < 0 ∨ (N : Int) ≤ x) := Lib.hid (Or.inl hx0)
            go_wp2_with fail
            refine bodyPost_ret (v := .tuple #[.pointer none, .agg #[.int .u32 0, .int .u32 0], .int .i64 2]) (by simp [results, Tryd.results53, go_sem, o0, o1]) rfl (OpP.bad (by rw [HE.out, HS1.out, if_pos rfl, hE.out, HD.out, coldE_bad HXR.out]) (by decide) HBAD.out)
          · obtain ⟨v, rfl⟩ : ∃ v : Nat, x = (v : Int) := ⟨x.toNat, by omega⟩
            have hv0 : decide ((v : Int) < 0) = false := by simp
            by_cases hxN : N ≤ v
            · have HXR : Hid ((v : Int) < 0 ∨ (N : Int) ≤ (v : Int)) := Lib.hid (Or.inr (by omega))
              have d1 : decide ((N : Int) ≤ (v : Int)) = true := by simp; omega
              have d2 : decide (N ≤ v) = true := by simp; omega
              go_wp2_with fail
              refine bodyPost_ret (v := .tuple #[.pointer none, .agg #[.int .u32 0, .int .u32 0], .int .i64 2]) (by simp [results, Tryd.results53, go_sem, o0, o1]) rfl (OpP.bad (by rw [HE.out, HS1.out, if_pos rfl, hE.out, HD.out, coldE_bad HXR.out]) (by decide) HBAD.out)
            · have hvN : v < N := by omega
              have d1 : decide ((N : Int) ≤ (v : Int)) = false := by simp; omega
              have d2 : decide (N ≤ v) = false := by simp; omega
              have hs32 : z < 4294967296 := Nat.lt_of_lt_of_le hz25.out (by decide)
              have s0 := val hT.out.st 0 rfl
              have s1 := val hT.out.st 1 rfl
              have g0 := hT.out.st.frozen 1
              have ht := hT.out.hb
              obtain ⟨B1, hB1⟩ : ∃ B1, z.testBit v = B1 := ⟨_, rfl⟩
              have HB1 := Lib.hid hB1
              clear hB1
              cases B1 with
              | true =>
                have HC := Lib.hid (fun w => has_any z v w hs32 (by omega) true HB1.out)
                go_wp2_with fail
                refine (HC.out _).mono ?_
                rintro e w2 ⟨rfl, rfl⟩
                go_wp2_with fail
                refine bodyPost_ret (v := .tuple #[.pointer none, .agg #[.int .u32 0, .int .u32 0], .int .i64 6]) (by simp [results, Tryd.results53, go_sem, o0, o1]) rfl (OpP.bad (by rw [HE.out, HS1.out, if_pos rfl, hE.out, HD.out, coldE_two hvN HB1.out]) (by decide) HBAD.out)
              | false =>
                have HC := Lib.hid (fun w => has_any z v w hs32 (by omega) false HB1.out)
                obtain ⟨B2, hB2⟩ : ∃ B2, s.testBit v = B2 := ⟨_, rfl⟩
                have HB2 := Lib.hid hB2
                clear hB2
                have hss : s < 4294967296 := Nat.lt_of_lt_of_le HS25.out (by decide)
                cases B2 with
                | true =>
                  have HC2 := Lib.hid (fun w => has_any s v w hss (by omega) true HB2.out)
                  go_wp2_with fail
                  refine (HC.out _).mono ?_
                  rintro e w2 ⟨rfl, rfl⟩
                  go_wp2_with fail
                  refine (HC2.out _).mono ?_
                  rintro e w2 ⟨rfl, rfl⟩
                  go_wp2_with fail
                  refine bodyPost_ret (v := .tuple #[.pointer none, .agg #[.int .u32 0, .int .u32 0], .int .i64 13]) (by simp [results, Tryd.results53, go_sem, o0, o1]) rfl (OpP.bad (by rw [HE.out, HS1.out, if_pos rfl, hE.out, HD.out, coldE_clash hvN HB1.out HB2.out]) (by decide) HBAD.out)
                | false =>
                  have HC2 := Lib.hid (fun w => has_any s v w hss (by omega) false HB2.out)
                  go_wp2_with fail
                  refine (HC.out _).mono ?_
                  rintro e w2 ⟨rfl, rfl⟩
                  go_wp2_with fail
                  refine (HC2.out _).mono ?_
                  rintro e w2 ⟨rfl, rfl⟩
                  obtain ⟨V, r, hr, hr25, hV1, f2, f3, f4, f5⟩ := or_facts z v hz25.out (by omega)
                  have HN2 := Lib.hid (hT.out.cold r)
                  have HR25 := Lib.hid hr25
                  have HE2 : Hid (coldE N s F 0 = coldE N s (F.drop (i + 1)) r) := Lib.hid (by rw [hE.out, HD.out, coldE_ok hvN HB1.out HB2.out, hr])
                  clear hr hr25
                  go_wp2_with fail
                  go_region
                  all_goals
                    go_wp2_with fail
                    go_roundw
                    case rel => first | exact ⟨i + 1, r, by omega, by go_num, Lib.hid HN2.out.drew, HE2, HR25⟩ | ((repeat apply Exists.intro); exact ⟨⟨i + 1, r, by omega, by go_num, Lib.hid HN2.out.drew, HE2, HR25⟩, rfl⟩)
                    case measure => (simp [intOf] <;> omega)
        · obtain rfl : m = i := by omega
          have HZ1 : Hid (coldE N s F 0 = (0, z)) := Lib.hid (by rw [hE.out, List.drop_of_length_le (by rw [HL2.out]; exact Nat.le_refl _)]; rfl)
          have o0 := val hT.out.out 0 rfl
          have o1 := val hT.out.out 1 rfl
          have f0 := hT.out.out.frozen 0
          have f1 := hT.out.out.frozen 1
          have s0 := val hT.out.st 0 rfl
          have s1 := val hT.out.st 1 rfl
          have HO : Hid (openE R C S F = 0) := Lib.hid (by rw [HE.out, HS1.out, if_pos rfl, HZ1.out])
          have HOP : Hid (Opn R C S F R C s z) := Lib.hid (by
            have g1 := sick_rd (rd_nil N) (S := S) (by rw [HS1.out])
            have g2 := cold_rd (t := s) (rd_nil N) (S := F) (fun k hk => by simp at hk) (by rw [HZ1.out])
            rw [HS1.out] at g1
            rw [HZ1.out] at g2
            rw [← HN.out] at g1 g2
            exact ⟨rfl, rfl, HSD.out, g1, g2.1, g2.2⟩)
          have HF2 : Hid (Flr ((wr.setCell ⟨w.heap.size + 1, 0, none⟩ (.int .u32 (s : Int))).setCell ⟨w.heap.size + 1, 1, none⟩ (.int .u32 (z : Int))) g R C (nearN C (R * C))) := Lib.hid ((hT.out.flr.other (by simp only []; omega) _).other (by simp only []; omega) _)
          have HBE := Lib.hid ((hT.out.below.setCell (p := ⟨w.heap.size + 1, 0, none⟩) (Nat.le_succ _) (.int .u32 (s : Int))).setCell (p := ⟨w.heap.size + 1, 1, none⟩) (Nat.le_succ _) (.int .u32 (z : Int)))
          have hgw : w.heap.size ≤ g := by omega
          clear hT hE hlt
          go_wp2_with fail
          go_region
          all_goals
            go_wp2_with fail
            refine bodyPost_ret (v := .tuple #[.pointer (some ⟨g, 0, none⟩), .agg #[.int .u32 (s : Int), .int .u32 (z : Int)], .int .i64 0]) (by simp [results, Tryd.results53, go_sem, o0, o1]) rfl ⟨HBE.out.drew, Or.inr ⟨R, C, s, z, g, HO.out, HOP.out, hgw, HF2.out.drew, rfl⟩⟩
end Go.Proofs.YtbhjphcomppjgaaDoor
