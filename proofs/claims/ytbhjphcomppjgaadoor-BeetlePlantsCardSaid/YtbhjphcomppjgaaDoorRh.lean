/- Walks of chapter 9: the reference: from how few bales a whole store is reached. -/
import Derived.Test.YtbhjphcomppjgaaDoorRf
import Derived.WalkSpells
import Derived.Test.YtbhjphcomppjgaaDoorPl
import Derived.Test.YtbhjphcomppjgaaDoorPw
namespace Beetle09
theorem Beg.frm_le {N : Nat} {b : List Nat} (h : Beg N b) : frm b ≤ N := by
  unfold frm
  cases hl : b.getLast? with
  | none => exact Nat.zero_le _
  | some x => exact h.lt x (List.mem_of_getLast? hl)
theorem lgood {R C : Nat} {l : List Nat} (hl : setL l < 2 ^ (R * C)) : plG R C (setL l) = ((pcN (R * C) (fin R C 0 (setL l)) : Int) == ((R * C : Nat) : Int)) := by
  have h := pcN_full (fin_lt (R := R) (C := C) (z := 0) hl)
  rw [plG, allS, Bool.eq_iff_iff, decide_eq_true_eq, beq_iff_eq]
  omega
end Beetle09
namespace Go.Proofs.YtbhjphcomppjgaaDoor
open Go.RowKit Beetle09
set_option maxHeartbeats 4000000 in
set_option maxRecDepth 100000 in
theorem rLeast_any (r c : Int) (w : World) : Calls Tryd.prog 27 #[.int .i64 r, .int .i64 c] w fun e w' => e = .returned (.tuple #[.int .i64 (if sdB r c = true then (r + c + 1) / 2 else 0), .int .i64 (if sdB r c = true then 0 else 1)]) ∧ w = w' := by
  obtain ⟨B, hB⟩ : ∃ B, sdB r c = B := ⟨_, rfl⟩
  have HC := Lib.hid (fun w => sides_any r c w B hB)
  cases B with
  | false =>
    rw [if_neg (by rw [hB]; simp), if_neg (by rw [hB]; simp)]
    clear hB
    go_enter Tryd.func27, Tryd.ntmps27
    go_wp2_with fail
    refine (HC.out _).mono ?_
    rintro e w1 ⟨rfl, rfl⟩
    go_wp2_with fail
    go_ret2
    exact ⟨rfl, rfl⟩
  | true =>
    rw [if_pos hB, if_pos hB]
    obtain ⟨R, C, rfl, rfl, hs⟩ := sdB_sd hB
    have h1 := hs.r5
    have h2 := hs.c5
    clear hB hs
    go_enter Tryd.func27, Tryd.ntmps27
    go_wp2_with fail
    refine (HC.out _).mono ?_
    rintro e w1 ⟨rfl, rfl⟩
    go_wp2_with fail
    go_ret2
    exact ⟨rfl, rfl⟩
/-- A list of bales, or nil. -/
def PlR (w : World) (o : Option (List Nat)) : Ending → World → Prop := fun e w' => ∃ a n c, e = .returned (.slice a n c) ∧ Below w.heap.size w w' ∧ ((o = none ∧ a = none ∧ n = 0 ∧ c = 0) ∨ ∃ l, o = some l ∧ (∃ x, a = some x) ∧ IsL w' a n c (li l))
abbrev plPP (R C : Nat) (l : List Nat) (m : Nat) : Bool := plP R C (setL l) m
abbrev plGG (R C : Nat) (l : List Nat) : Bool := plG R C (setL l)
set_option maxHeartbeats 16000000 in
set_option maxRecDepth 100000 in
theorem planted_any (R C : Nat) (hs : Sd R C) : ∀ (m : Nat) (b : List Nat) (a : Option Addr) (n k : Nat) (w : World), m ≤ 5 → b.length + m ≤ 5 → Beg (R * C) b → (b ≠ [] ∨ 0 < m) → IsL w a n k (li b) →
    Calls Tryd.prog 71 #[stV R C none none 0 0 0 0, .slice a n k, .int .i64 (m : Int)] w (PlR w (dfs (plPP R C) (plGG R C) ((List.range (R * C)).drop (frm b)) m b)) := by
  have n25 := hs.n25
  have hR5 := hs.r5
  have hC5 := hs.c5
  have HSD := Lib.hid hs
  have m1 : (R : Int) * (C : Int) = ((R * C : Nat) : Int) := by simp
  have HOL : Hid (∀ q, q < 2 ^ (R * C) → 0 ≤ outl R C q ∧ outl R C q ≤ 100) := Lib.hid fun q hq => by
    rw [← outl_els n25 hq]
    have h1 := outlL_bd R C q (els 25 q)
    have h2 := pcN_le 25 q
    rw [els_len] at h1
    omega
  intro m
  induction m with
  | zero =>
    intro b a n k w hm hbm hbeg hne hB
    have hb0 : b ≠ [] := by rcases hne with h | h; exact h; omega
    have hlen := hB.len
    rw [li_len] at hlen
    have hcap := hB.cap
    have hle := hB.le
    have hn0 : 0 < n := by have := List.length_pos_iff.2 hb0; omega
    have HSOME : Hid (∃ x, a = some x) := Lib.hid (by obtain ⟨bb, oo, rfl, _⟩ := hB.cells hn0; exact ⟨_, rfl⟩)
    have hq : setL b < 2 ^ (R * C) := setL_lt hbeg.lt
    have HG := Lib.hid (lgood hq)
    have HD : Hid (dfs (plPP R C) (plGG R C) ((List.range (R * C)).drop (frm b)) 0 b = if plGG R C b then some b else none) := Lib.hid (dfs_zero _ _ _ _)
    have hmm := hbeg.gd.rd.mm
    have HB0 := Lib.hid (BoxS.start w (bxL R C none none 0 0 0 0) 27)
    have HB1 := Lib.hid ((BoxS.start (w.alloc (.cells (bxL R C none none 0 0 0 0).toArray 27)) (bxL R C a none n k 0 0) 27))
    obtain ⟨wa, hwa⟩ : ∃ wa, ((w.alloc (.cells (bxL R C none none 0 0 0 0).toArray 27)).alloc (.cells (bxL R C a none n k 0 0).toArray 27)) = wa := ⟨_, rfl⟩
    rw [hwa] at HB1
    have HB2 := Lib.hid (HB0.out.to HB1.out.below)
    have x0 := val HB2.out.box 0 rfl
    have x1 := val HB2.out.box 1 rfl
    have y0 := val HB1.out.box 0 rfl
    have y1 := val HB1.out.box 1 rfl
    have y2 := val HB1.out.box 2 rfl
    have y3 := val HB1.out.box 3 rfl
    simp only [World.size_alloc] at y0 y1 y2 y3
    have HBA := Lib.hid (hB.below HB2.out.below)
    have H57 : Hid (∀ w', GoodW wa w' → Calls Tryd.prog 57 #[stV R C a none n k 0 0] w' fun e w2 => ∃ x c, e = .returned (.slice x (pcN (R * C) (fin R C 0 (setL b))) c) ∧ GoodW wa w2) := Lib.hid fun w' h => (rspread_any R C (setL b) 0 (HBA.out.below h) (IsL.nilL w') HSD.out hmm ⟨Nat.two_pow_pos _, fun k _ => by simp⟩).mono fun _ _ ⟨x, c, he, _, hb⟩ => ⟨x, c, he, h.to hb⟩
    have hpl := pcN_le (R * C) (fin R C 0 (setL b))
    have HW2 := Lib.hid HB2.out.below
    obtain ⟨N, hN⟩ : ∃ N, R * C = N := ⟨_, rfl⟩
    obtain ⟨K, hK⟩ : ∃ K, pcN (R * C) (fin R C 0 (setL b)) = K := ⟨_, rfl⟩
    rw [hK] at H57 HG hpl
    rw [hN] at n25 m1 hpl HG
    have e1 : (((0 : Nat) : Int) == 0) = true := by decide
    have HG0 : GoodW wa wa.drew := (Below.refl _ _).drew
    have HWA := Lib.hid hwa
    have HBIS := Lib.hid hB
    clear hs hbm hbeg hne hB hb0 hlen hq hmm hN hK hwa HOL
    have eN : IntKind.i64.wrap (N : Int) = (N : Int) := IntWalk.i64_in _ (by omega)
    by_cases hKN : K = N
    · have HG2 : Hid (plG R C (setL b) = true) := Lib.hid (by rw [HG.out, hKN]; simp)
      subst hKN
      clear HG
      go_enter Tryd.func71, Tryd.ntmps71
      go_wp2_with fail
      rw [HWA.out]
      go_region_held3 (fun w' => w'.cell? ⟨w.heap.size, 0, none⟩ = some (.int .i64 (R : Int)) ∧ w'.cell? ⟨w.heap.size, 1, none⟩ = some (.int .i64 (C : Int)) ∧ w'.cell? ⟨w.heap.size + 1, 0, none⟩ = some (.int .i64 (R : Int)) ∧ w'.cell? ⟨w.heap.size + 1, 1, none⟩ = some (.int .i64 (C : Int)) ∧ w'.cell? ⟨w.heap.size + 1, 2, none⟩ = some (.slice a n k) ∧ w'.cell? ⟨w.heap.size + 1, 3, none⟩ = some (.slice none 0 0)) (first | go_keep | exact ⟨hG.cell x0, hG.cell x1, hG.cell y0, hG.cell y1, hG.cell y2, hG.cell y3⟩)
        ((go_at_call 57; with_reducible refine (H57.out _ ?_).mono ?_; assumption; rintro e w5 ⟨xq, cq, rfl, hG⟩))
      have hbw : Below w.heap.size w w5 := HW2.out.trans (Below.mono hG HW2.out.size)
      go_wp2_with fail
      go_ret
      exact ⟨_, _, _, rfl, hbw, Or.inr ⟨b, by rw [HD.out, if_pos HG2.out], HSOME.out, HBIS.out.below hbw⟩⟩
    · have q5 : ((K : Int) == (N : Int)) = false := by simp; omega
      have HG2 : Hid (plG R C (setL b) = false) := Lib.hid (by rw [HG.out, q5])
      clear HG hKN
      go_enter Tryd.func71, Tryd.ntmps71
      go_wp2_with fail
      rw [HWA.out]
      go_region_held3 (fun w' => w'.cell? ⟨w.heap.size, 0, none⟩ = some (.int .i64 (R : Int)) ∧ w'.cell? ⟨w.heap.size, 1, none⟩ = some (.int .i64 (C : Int)) ∧ w'.cell? ⟨w.heap.size + 1, 0, none⟩ = some (.int .i64 (R : Int)) ∧ w'.cell? ⟨w.heap.size + 1, 1, none⟩ = some (.int .i64 (C : Int)) ∧ w'.cell? ⟨w.heap.size + 1, 2, none⟩ = some (.slice a n k) ∧ w'.cell? ⟨w.heap.size + 1, 3, none⟩ = some (.slice none 0 0)) (first | go_keep | exact ⟨hG.cell x0, hG.cell x1, hG.cell y0, hG.cell y1, hG.cell y2, hG.cell y3⟩)
        ((go_at_call 57; with_reducible refine (H57.out _ ?_).mono ?_; assumption; rintro e w5 ⟨xq, cq, rfl, hG⟩))
      have hbw : Below w.heap.size w w5 := HW2.out.trans (Below.mono hG HW2.out.size)
      go_wp2_with fail
      go_ret
      exact ⟨_, _, _, rfl, hbw, Or.inl ⟨by rw [HD.out, if_neg (by rw [plGG, HG2.out]; simp)], rfl, rfl, rfl⟩⟩
  | succ m ih =>
    intro b a n k w hm hbm hbeg hne hB
    have HIH := Lib.hid ih
    have hlen := hB.len
    rw [li_len] at hlen
    have hcap := hB.cap
    have hle := hB.le
    have hn5 : n ≤ 4 := by omega
    have hfl := hbeg.frm_le
    have HBG := Lib.hid hbeg
    have HLB := Lib.hid hlen
    have HB0 := Lib.hid (BoxS.start w (bxL R C none none 0 0 0 0) 27)
    have HBA := Lib.hid (hB.below HB0.out.below)
    have HBIS := Lib.hid hB
    have HDY : Hid (∀ n l, n < R * C → plPP R C (b ++ [n]) m = true → dfs (plPP R C) (plGG R C) ((List.range (R * C)).drop (n + 1)) m (b ++ [n]) = some l → dfs (plPP R C) (plGG R C) ((List.range (R * C)).drop n) (m + 1) b = some l) := Lib.hid fun n l h h1 h2 => dfs_yes h h1 h2
    have HDX : Hid (∀ n, n < R * C → plPP R C (b ++ [n]) m = true → dfs (plPP R C) (plGG R C) ((List.range (R * C)).drop (n + 1)) m (b ++ [n]) = none → dfs (plPP R C) (plGG R C) ((List.range (R * C)).drop n) (m + 1) b = dfs (plPP R C) (plGG R C) ((List.range (R * C)).drop (n + 1)) (m + 1) b) := Lib.hid fun n h h1 h2 => dfs_next h h1 h2
    have HDS : Hid (∀ n, n < R * C → plPP R C (b ++ [n]) m = false → dfs (plPP R C) (plGG R C) ((List.range (R * C)).drop n) (m + 1) b = dfs (plPP R C) (plGG R C) ((List.range (R * C)).drop (n + 1)) (m + 1) b) := Lib.hid fun n h h1 => dfs_skip h h1
    have HDE : Hid (dfs (plPP R C) (plGG R C) ((List.range (R * C)).drop (R * C)) (m + 1) b = none) := Lib.hid dfs_end
    have HOB : Hid (∀ n, n < R * C → frm b ≤ n → outlL R C (setL (b ++ [n])) (b ++ [n]) = outl R C (setL (b ++ [n])) ∧ Mm (R * C) (li (b ++ [n])) (setL (b ++ [n])) ∧ setL (b ++ [n]) < 2 ^ (R * C) ∧ Beg (R * C) (b ++ [n])) := Lib.hid fun n h1 h2 => ⟨outl_list (HBG.out.snoc h1 h2).gd, (HBG.out.snoc h1 h2).gd.rd.mm, setL_lt (HBG.out.snoc h1 h2).lt, HBG.out.snoc h1 h2⟩
    obtain ⟨M, hM⟩ : ∃ M, m + 1 = M := ⟨_, rfl⟩
    have HM := Lib.hid hM
    have hM1 : 1 ≤ M := by omega
    have hM5 : M ≤ 5 := by omega
    have e1 : ((M : Int) == 0) = false := by rw [beq_eq_false_iff_ne]; omega
    have e2 : IntKind.i64.wrap ((M : Int) - 1) = (m : Int) := by rw [IntWalk.i64_in _ (by omega)]; omega
    have hm5 : m ≤ 4 := by omega
    have hmn : n + 1 + m ≤ 5 := by omega
    rw [hM] at HDY HDX HDS HDE ⊢
    obtain ⟨N, hN⟩ : ∃ N, R * C = N := ⟨_, rfl⟩
    have HN := Lib.hid hN
    rw [hN] at n25 m1 HDY HDX HDS HDE HOB hfl HIH HOL HBG ⊢
    obtain ⟨f, hf⟩ : ∃ f, frm b = f := ⟨_, rfl⟩
    have HF := Lib.hid hf
    rw [hf] at hfl HOB ⊢
    have HQL : Hid (∀ w' a c l, IsL w' a (n + 1) c (li (b ++ [l])) → l < N → f ≤ l → Calls Tryd.prog 77 #[stV R C none none 0 0 0 0, .slice a (n + 1) c] w' fun e w2 => e = .returned (.int .i64 (outl R C (setL (b ++ [l])))) ∧ Below w'.heap.size w' w2) := Lib.hid fun w' a c l h h1 h2 => (routline_any R C (setL (b ++ [l])) a (n + 1) c (b ++ [l]) h HSD.out (by rw [HN.out]; exact (HOB.out l h1 h2).2.2.2.lt) (by rw [HN.out]; exact (HOB.out l h1 h2).2.1) (by rw [List.length_append, HLB.out]; simp; omega)).mono fun _ _ ⟨he, hb⟩ => ⟨by rw [he, (HOB.out l h1 h2).1], hb⟩
    have x0 := val HB0.out.box 0 rfl
    have x1 := val HB0.out.box 1 rfl
    clear hs hB ih hbeg hM hN hbm
    rcases List.eq_nil_or_concat b with hbn | ⟨b0, x, hbn⟩
    · have hn0 : n = 0 := by rw [← hlen, hbn]; rfl
      have hf0 : f = 0 := by rw [← hf, hbn]; rfl
      subst hf0
      subst hn0
      clear hf hbn hne hlen
      go_enter Tryd.func71, Tryd.ntmps71
      go_wp2_with fail
      go_loopw [9] (fun vi wr => ∃ i : Nat, i ≤ N ∧ 0 ≤ i ∧ vi = .int .i64 (i : Int) ∧ Hid (BoxS w wr 27 (bxL R C none none 0 0 0 0)) ∧ Hid (dfs (plPP R C) (plGG R C) ((List.range N).drop (0)) M b = dfs (plPP R C) (plGG R C) ((List.range N).drop i) M b)) (fun vi _ => N - (intOf vi).toNat)
      case atStart => exact ⟨0, by omega, Nat.le_refl _, by first | rfl | go_num, HB0, Lib.hid rfl⟩
      case round =>
        clear HB0 HBA x0 x1 
        obtain ⟨i, hi, hfi, rfl, hBx, hD⟩ := hrel
        have x0 := val hBx.out.box 0 rfl
        have x1 := val hBx.out.box 1 rfl
        by_cases hlt : i < N
        · have q0 : (i : Int) < (N : Int) := by omega
          have hBA : IsL wr a 0 k (li b) := HBIS.out.below hBx.out.below
          have HLIT := own_lit wr 3 wr.heap.size (Nat.le_refl _) ([] : List Int) #[] 0 rfl rfl (by decide)
          have HBA1 := Lib.hid (hBA.alloc (.cells #[] 3))
          obtain ⟨o, ho⟩ : ∃ o, outl R C (setL (b ++ [i])) = o := ⟨_, rfl⟩
          have HO77 := Lib.hid (fun w' a c h => HQL.out w' a c i h hlt hfi)
          rw [ho] at HO77
          have hob := HOL.out _ (HOB.out i hlt hfi).2.2.1
          rw [ho] at hob
          obtain ⟨ho1, ho2⟩ := hob
          have HPP : Hid (plPP R C (b ++ [i]) m = decide (2 * ((R : Int) + C) ≤ o + 4 * (m : Int))) := Lib.hid (by rw [← ho]; rfl)
          obtain ⟨B, hB⟩ : ∃ B, decide (o + 4 * (m : Int) < 2 * ((R : Int) + (C : Int))) = B := ⟨_, rfl⟩
          have HPB : Hid (plPP R C (b ++ [i]) m = !B) := Lib.hid (by
            rw [HPP.out, ← hB]
            by_cases h : o + 4 * (m : Int) < 2 * ((R : Int) + (C : Int))
            · rw [decide_eq_true h, decide_eq_false (by omega)]; rfl
            · rw [decide_eq_false h, decide_eq_true (by omega)]; rfl)
          have f1 : IntKind.i64.wrap (4 * (m : Int)) = 4 * (m : Int) := IntWalk.i64_in _ (by omega)
          have f2 : IntKind.i64.wrap (o + 4 * (m : Int)) = o + 4 * (m : Int) := IntWalk.i64_in _ (by omega)
          have f3 : IntKind.i64.wrap ((R : Int) + (C : Int)) = (R : Int) + (C : Int) := IntWalk.i64_in _ (by omega)
          have f4 : IntKind.i64.wrap (2 * ((R : Int) + (C : Int))) = 2 * ((R : Int) + (C : Int)) := IntWalk.i64_in _ (by omega)
          have HIB : Hid (∀ a c w', IsL w' a (0 + 1) c (li (b ++ [i])) → Calls Tryd.prog 71 #[stV R C none none 0 0 0 0, .slice a (0 + 1) c, .int .i64 (m : Int)] w' (PlR w' (dfs (plPP R C) (plGG R C) ((List.range N).drop (i + 1)) m (b ++ [i])))) := Lib.hid fun a c w' h => by
            have := HIH.out (b ++ [i]) a (0 + 1) c w' (by omega) (by rw [List.length_append, HLB.out]; simp; omega) (HOB.out i hlt hfi).2.2.2 (Or.inl (by simp)) h
            rwa [frm_snoc] at this
          have HY1 := Lib.hid (fun l => HDY.out i l hlt)
          have HX1 := Lib.hid (HDX.out i hlt)
          have HS1 := Lib.hid (HDS.out i hlt)
          obtain ⟨O, hO⟩ : ∃ O, dfs (plPP R C) (plGG R C) ((List.range N).drop (i + 1)) m (b ++ [i]) = O := ⟨_, rfl⟩
          rw [hO] at HIB HY1 HX1
          have HLI : Hid (li (b ++ [i]) = [] ++ li b ++ [(i : Int)]) := Lib.hid (by rw [li_app]; rfl)
          clear ho hO HPP hBA
          go_wp2_with (at_builtin; refine wl_app_own Tryd.underlying22 elem3 wr.heap.size (.tmp 50) (.tmp 51) rfl rfl rfl rfl HLIT HBA1.out (by simp) (by omega) ?_)
          intro a4 c4 w4 ho4 _ hb4 _
          have hs4 := hb4.size
          go_wp2_with (at_builtin; refine wl_app_own Tryd.underlying22 elem3 wr.heap.size (.tmp 52) (.tmp 54) rfl rfl rfl rfl (ho4.alloc _) (isL_one _ _ _) (by simp at *; omega) (by omega) ?_)
          intro a5 c5 w5 ho5 _ hb5 _
          have hb6 : Below wr.heap.size wr w5 := (((Below.refl _ _).alloc (Nat.le_refl _) _).trans (hb4.alloc (by simp at *; omega) _)).trans hb5
          have HI5 : Hid (IsL w5 a5 (0 + 1) c5 (li (b ++ [i]))) := Lib.hid (by rw [HLI.out]; have := ho5.isL; simpa using this)
          have HB5 := Lib.hid (hBx.out.to hb6)
          clear ho4 hb4 ho5 hb5 HLIT hBx x0 x1 HBA1 HLI hb6 hs4
          have x0 := val HB5.out.box 0 rfl
          have x1 := val HB5.out.box 1 rfl
          have x2 := val HB5.out.box 2 rfl
          have x3 := val HB5.out.box 3 rfl
          have H77 : Hid (∀ w', GoodW w5 w' → Calls Tryd.prog 77 #[stV R C none none 0 0 0 0, .slice a5 (0 + 1) c5] w' fun e w2 => e = .returned (.int .i64 o) ∧ GoodW w5 w2) := Lib.hid fun w' h => (HO77.out w' a5 c5 (HI5.out.below h)).mono fun _ _ ⟨he, hb⟩ => ⟨he, h.to hb⟩
          have HG0 : GoodW w5 w5.drew := (Below.refl _ _).drew
          go_wp2_with fail
          go_region_held3 (fun w' => w'.cell? ⟨w.heap.size, 0, none⟩ = some (.int .i64 (R : Int)) ∧ w'.cell? ⟨w.heap.size, 1, none⟩ = some (.int .i64 (C : Int)) ∧ w'.cell? ⟨w.heap.size, 2, none⟩ = some (.slice none 0 0) ∧ w'.cell? ⟨w.heap.size, 3, none⟩ = some (.slice none 0 0)) (first | go_keep | exact ⟨hG.cell x0, hG.cell x1, hG.cell x2, hG.cell x3⟩)
            ((go_at_call 77; with_reducible refine (H77.out _ ?_).mono ?_; assumption; rintro e w6 ⟨rfl, hG⟩))
          have HB6 := Lib.hid (HB5.out.to hG)
          have HI6 := Lib.hid (HI5.out.below hG)
          clear x0 x1 x2 x3 HG0 H77 HO77 HB5 HI5 hG
          have x0 := val HB6.out.box 0 rfl
          have x1 := val HB6.out.box 1 rfl
          have x2 := val HB6.out.box 2 rfl
          have x3 := val HB6.out.box 3 rfl
          have HCR := Lib.hid (HIB.out a5 c5 w6 HI6.out)
          cases B with
          | true =>
            have HD2 : Hid (dfs (plPP R C) (plGG R C) ((List.range N).drop (0)) M b = dfs (plPP R C) (plGG R C) ((List.range N).drop (i + 1)) M b) := Lib.hid (by rw [hD.out]; exact HS1.out HPB.out)
            go_wp2_with fail
            go_roundw
            case rel => first | exact ⟨i + 1, by omega, by omega, by go_num, HB6, HD2⟩ | ((repeat apply Exists.intro); exact ⟨⟨i + 1, by omega, by omega, by go_num, HB6, HD2⟩, rfl⟩)
            case measure => (simp [intOf] <;> omega)
          | false =>
            go_wp2_with fail
            refine HCR.out.mono ?_
            rintro e w7 ⟨a7, n7, c7, rfl, b7, hor⟩
            have HB7 := Lib.hid (HB6.out.to b7)
            rcases hor with ⟨hO, rfl, rfl, rfl⟩ | ⟨l, hO, ⟨xa, rfl⟩, hI⟩
            · have HD2 : Hid (dfs (plPP R C) (plGG R C) ((List.range N).drop (0)) M b = dfs (plPP R C) (plGG R C) ((List.range N).drop (i + 1)) M b) := Lib.hid (by rw [hD.out]; exact HX1.out HPB.out hO)
              have hne1 : ∀ w, (binOp .neq 22 (.slice none 0 0) (.slice none 0 0)).run Tryd.prog w = .ok (.bool false) w := fun w => run_neq_slice_nil_any w 22 3 none 0 0 0 0 Tryd.underlying22
              go_wp2_with fail
              go_roundw
              case rel => first | exact ⟨i + 1, by omega, by omega, by go_num, HB7, HD2⟩ | ((repeat apply Exists.intro); exact ⟨⟨i + 1, by omega, by omega, by go_num, HB7, HD2⟩, rfl⟩)
              case measure => (simp [intOf] <;> omega)
            · have HD2 : Hid (dfs (plPP R C) (plGG R C) ((List.range N).drop (0)) M b = some l) := Lib.hid (by rw [hD.out]; exact HY1.out l HPB.out hO)
              have hne1 : ∀ w, (binOp .neq 22 (.slice (some xa) n7 c7) (.slice none 0 0)).run Tryd.prog w = .ok (.bool true) w := fun w => run_neq_slice_nil_any w 22 3 (some xa) n7 c7 0 0 Tryd.underlying22
              have HI7 := Lib.hid hI
              clear hI
              go_wp2_with fail
              go_ret
              exact ⟨_, _, _, rfl, HB7.out.below, Or.inr ⟨l, HD2.out, ⟨_, rfl⟩, HI7.out⟩⟩
        · obtain rfl : N = i := by omega
          go_wp2_with fail
          go_ret
          exact ⟨_, _, _, rfl, hBx.out.below, Or.inl ⟨by rw [hD.out]; exact HDE.out, rfl, rfl, rfl⟩⟩
    · have hbn' : b = b0 ++ [x] := by rw [hbn, List.concat_eq_append]
      have hfx : f = x + 1 := by rw [← hf, hbn', frm_snoc]
      have hnp : n = b0.length + 1 := by rw [← hlen, hbn']; simp
      obtain ⟨p, hp⟩ : ∃ p, b0.length = p := ⟨_, rfl⟩
      rw [hp] at hnp
      have hx0 : (li b).getD p 0 = (x : Int) := by rw [hbn', li_get, ← hp]; simp [List.getD]
      subst hnp
      subst hfx
      obtain ⟨bb, oo, rfl, _, hc⟩ := HBA.out.cells (by omega)
      have y1 := hc p (by omega)
      rw [hx0] at y1
      clear hf hbn hbn' hne hlen hc hx0 hp
      go_enter Tryd.func71, Tryd.ntmps71
      go_wp2_with fail
      go_loopw [9] (fun vi wr => ∃ i : Nat, i ≤ N ∧ (x + 1) ≤ i ∧ vi = .int .i64 (i : Int) ∧ Hid (BoxS w wr 27 (bxL R C none none 0 0 0 0)) ∧ Hid (dfs (plPP R C) (plGG R C) ((List.range N).drop ((x + 1))) M b = dfs (plPP R C) (plGG R C) ((List.range N).drop i) M b)) (fun vi _ => N - (intOf vi).toNat)
      case atStart => exact ⟨(x + 1), by omega, Nat.le_refl _, by first | rfl | go_num, HB0, Lib.hid rfl⟩
      case round =>
        clear HB0 HBA x0 x1 y1
        obtain ⟨i, hi, hfi, rfl, hBx, hD⟩ := hrel
        have x0 := val hBx.out.box 0 rfl
        have x1 := val hBx.out.box 1 rfl
        by_cases hlt : i < N
        · have q0 : (i : Int) < (N : Int) := by omega
          have hBA : IsL wr _ (p + 1) k (li b) := HBIS.out.below hBx.out.below
          have HLIT := own_lit wr 3 wr.heap.size (Nat.le_refl _) ([] : List Int) #[] 0 rfl rfl (by decide)
          have HBA1 := Lib.hid (hBA.alloc (.cells #[] 3))
          obtain ⟨o, ho⟩ : ∃ o, outl R C (setL (b ++ [i])) = o := ⟨_, rfl⟩
          have HO77 := Lib.hid (fun w' a c h => HQL.out w' a c i h hlt hfi)
          rw [ho] at HO77
          have hob := HOL.out _ (HOB.out i hlt hfi).2.2.1
          rw [ho] at hob
          obtain ⟨ho1, ho2⟩ := hob
          have HPP : Hid (plPP R C (b ++ [i]) m = decide (2 * ((R : Int) + C) ≤ o + 4 * (m : Int))) := Lib.hid (by rw [← ho]; rfl)
          obtain ⟨B, hB⟩ : ∃ B, decide (o + 4 * (m : Int) < 2 * ((R : Int) + (C : Int))) = B := ⟨_, rfl⟩
          have HPB : Hid (plPP R C (b ++ [i]) m = !B) := Lib.hid (by
            rw [HPP.out, ← hB]
            by_cases h : o + 4 * (m : Int) < 2 * ((R : Int) + (C : Int))
            · rw [decide_eq_true h, decide_eq_false (by omega)]; rfl
            · rw [decide_eq_false h, decide_eq_true (by omega)]; rfl)
          have f1 : IntKind.i64.wrap (4 * (m : Int)) = 4 * (m : Int) := IntWalk.i64_in _ (by omega)
          have f2 : IntKind.i64.wrap (o + 4 * (m : Int)) = o + 4 * (m : Int) := IntWalk.i64_in _ (by omega)
          have f3 : IntKind.i64.wrap ((R : Int) + (C : Int)) = (R : Int) + (C : Int) := IntWalk.i64_in _ (by omega)
          have f4 : IntKind.i64.wrap (2 * ((R : Int) + (C : Int))) = 2 * ((R : Int) + (C : Int)) := IntWalk.i64_in _ (by omega)
          have HIB : Hid (∀ a c w', IsL w' a ((p + 1) + 1) c (li (b ++ [i])) → Calls Tryd.prog 71 #[stV R C none none 0 0 0 0, .slice a ((p + 1) + 1) c, .int .i64 (m : Int)] w' (PlR w' (dfs (plPP R C) (plGG R C) ((List.range N).drop (i + 1)) m (b ++ [i])))) := Lib.hid fun a c w' h => by
            have := HIH.out (b ++ [i]) a ((p + 1) + 1) c w' (by omega) (by rw [List.length_append, HLB.out]; simp; omega) (HOB.out i hlt hfi).2.2.2 (Or.inl (by simp)) h
            rwa [frm_snoc] at this
          have HY1 := Lib.hid (fun l => HDY.out i l hlt)
          have HX1 := Lib.hid (HDX.out i hlt)
          have HS1 := Lib.hid (HDS.out i hlt)
          obtain ⟨O, hO⟩ : ∃ O, dfs (plPP R C) (plGG R C) ((List.range N).drop (i + 1)) m (b ++ [i]) = O := ⟨_, rfl⟩
          rw [hO] at HIB HY1 HX1
          have HLI : Hid (li (b ++ [i]) = [] ++ li b ++ [(i : Int)]) := Lib.hid (by rw [li_app]; rfl)
          clear ho hO HPP hBA
          go_wp2_with (at_builtin; refine wl_app_own Tryd.underlying22 elem3 wr.heap.size (.tmp 50) (.tmp 51) rfl rfl rfl rfl HLIT HBA1.out (by simp) (by omega) ?_)
          intro a4 c4 w4 ho4 _ hb4 _
          have hs4 := hb4.size
          go_wp2_with (at_builtin; refine wl_app_own Tryd.underlying22 elem3 wr.heap.size (.tmp 52) (.tmp 54) rfl rfl rfl rfl (ho4.alloc _) (isL_one _ _ _) (by simp at *; omega) (by omega) ?_)
          intro a5 c5 w5 ho5 _ hb5 _
          have hb6 : Below wr.heap.size wr w5 := (((Below.refl _ _).alloc (Nat.le_refl _) _).trans (hb4.alloc (by simp at *; omega) _)).trans hb5
          have HI5 : Hid (IsL w5 a5 ((p + 1) + 1) c5 (li (b ++ [i]))) := Lib.hid (by rw [HLI.out]; have := ho5.isL; simpa using this)
          have HB5 := Lib.hid (hBx.out.to hb6)
          clear ho4 hb4 ho5 hb5 HLIT hBx x0 x1 HBA1 HLI hb6 hs4
          have x0 := val HB5.out.box 0 rfl
          have x1 := val HB5.out.box 1 rfl
          have x2 := val HB5.out.box 2 rfl
          have x3 := val HB5.out.box 3 rfl
          have H77 : Hid (∀ w', GoodW w5 w' → Calls Tryd.prog 77 #[stV R C none none 0 0 0 0, .slice a5 ((p + 1) + 1) c5] w' fun e w2 => e = .returned (.int .i64 o) ∧ GoodW w5 w2) := Lib.hid fun w' h => (HO77.out w' a5 c5 (HI5.out.below h)).mono fun _ _ ⟨he, hb⟩ => ⟨he, h.to hb⟩
          have HG0 : GoodW w5 w5.drew := (Below.refl _ _).drew
          go_wp2_with fail
          go_region_held3 (fun w' => w'.cell? ⟨w.heap.size, 0, none⟩ = some (.int .i64 (R : Int)) ∧ w'.cell? ⟨w.heap.size, 1, none⟩ = some (.int .i64 (C : Int)) ∧ w'.cell? ⟨w.heap.size, 2, none⟩ = some (.slice none 0 0) ∧ w'.cell? ⟨w.heap.size, 3, none⟩ = some (.slice none 0 0)) (first | go_keep | exact ⟨hG.cell x0, hG.cell x1, hG.cell x2, hG.cell x3⟩)
            ((go_at_call 77; with_reducible refine (H77.out _ ?_).mono ?_; assumption; rintro e w6 ⟨rfl, hG⟩))
          have HB6 := Lib.hid (HB5.out.to hG)
          have HI6 := Lib.hid (HI5.out.below hG)
          clear x0 x1 x2 x3 HG0 H77 HO77 HB5 HI5 hG
          have x0 := val HB6.out.box 0 rfl
          have x1 := val HB6.out.box 1 rfl
          have x2 := val HB6.out.box 2 rfl
          have x3 := val HB6.out.box 3 rfl
          have HCR := Lib.hid (HIB.out a5 c5 w6 HI6.out)
          cases B with
          | true =>
            have HD2 : Hid (dfs (plPP R C) (plGG R C) ((List.range N).drop ((x + 1))) M b = dfs (plPP R C) (plGG R C) ((List.range N).drop (i + 1)) M b) := Lib.hid (by rw [hD.out]; exact HS1.out HPB.out)
            go_wp2_with fail
            go_roundw
            case rel => first | exact ⟨i + 1, by omega, by omega, by go_num, HB6, HD2⟩ | ((repeat apply Exists.intro); exact ⟨⟨i + 1, by omega, by omega, by go_num, HB6, HD2⟩, rfl⟩)
            case measure => (simp [intOf] <;> omega)
          | false =>
            go_wp2_with fail
            refine HCR.out.mono ?_
            rintro e w7 ⟨a7, n7, c7, rfl, b7, hor⟩
            have HB7 := Lib.hid (HB6.out.to b7)
            rcases hor with ⟨hO, rfl, rfl, rfl⟩ | ⟨l, hO, ⟨xa, rfl⟩, hI⟩
            · have HD2 : Hid (dfs (plPP R C) (plGG R C) ((List.range N).drop ((x + 1))) M b = dfs (plPP R C) (plGG R C) ((List.range N).drop (i + 1)) M b) := Lib.hid (by rw [hD.out]; exact HX1.out HPB.out hO)
              have hne1 : ∀ w, (binOp .neq 22 (.slice none 0 0) (.slice none 0 0)).run Tryd.prog w = .ok (.bool false) w := fun w => run_neq_slice_nil_any w 22 3 none 0 0 0 0 Tryd.underlying22
              go_wp2_with fail
              go_roundw
              case rel => first | exact ⟨i + 1, by omega, by omega, by go_num, HB7, HD2⟩ | ((repeat apply Exists.intro); exact ⟨⟨i + 1, by omega, by omega, by go_num, HB7, HD2⟩, rfl⟩)
              case measure => (simp [intOf] <;> omega)
            · have HD2 : Hid (dfs (plPP R C) (plGG R C) ((List.range N).drop ((x + 1))) M b = some l) := Lib.hid (by rw [hD.out]; exact HY1.out l HPB.out hO)
              have hne1 : ∀ w, (binOp .neq 22 (.slice (some xa) n7 c7) (.slice none 0 0)).run Tryd.prog w = .ok (.bool true) w := fun w => run_neq_slice_nil_any w 22 3 (some xa) n7 c7 0 0 Tryd.underlying22
              have HI7 := Lib.hid hI
              clear hI
              go_wp2_with fail
              go_ret
              exact ⟨_, _, _, rfl, HB7.out.below, Or.inr ⟨l, HD2.out, ⟨_, rfl⟩, HI7.out⟩⟩
        · obtain rfl : N = i := by omega
          go_wp2_with fail
          go_ret
          exact ⟨_, _, _, rfl, hBx.out.below, Or.inl ⟨by rw [hD.out]; exact HDE.out, rfl, rfl, rfl⟩⟩
set_option maxHeartbeats 8000000 in
set_option maxRecDepth 100000 in
theorem rPlant_any (r c : Int) (w : World) : Calls Tryd.prog 29 #[.int .i64 r, .int .i64 c] w (LP (if sdB r c = true then 0 else 1) (plantE r c) w) := by
  have HLS := Lib.hid (fun w => rLeast_any r c w)
  obtain ⟨B, hB⟩ : ∃ B, sdB r c = B := ⟨_, rfl⟩
  rw [hB] at HLS ⊢
  cases B with
  | false =>
    have HE : Hid (plantE r c = []) := Lib.hid (by rw [plantE, if_neg (by rw [hB]; simp)])
    rw [if_neg (by simp), if_neg (by simp)] at HLS
    rw [if_neg (by simp)]
    clear hB
    go_enter Tryd.func29, Tryd.ntmps29
    go_wp2_with fail
    refine (HLS.out _).mono ?_
    rintro e w1 ⟨rfl, rfl⟩
    go_wp2_with fail
    go_ret2
    exact LP.nil rfl HE.out (Below.refl _ _)
  | true =>
    obtain ⟨R, C, rfl, rfl, hs⟩ := sdB_sd hB
    rw [if_pos rfl, if_pos rfl] at HLS
    rw [if_pos rfl]
    have HE : Hid (plantE R C = li (plL R C)) := Lib.hid (by rw [plantE, if_pos hB]; rfl)
    have h1 := hs.r5
    have h2 := hs.c5
    have h3 := hs.r1
    obtain ⟨ml, hml⟩ : ∃ ml, leastN R C = ml := ⟨_, rfl⟩
    have hm5 : ml ≤ 5 := by rw [← hml]; exact leastN_le hs
    have hm1 : 1 ≤ ml := by rw [← hml]; unfold leastN; omega
    have hmi : ((R : Int) + (C : Int) + 1) / 2 = (ml : Int) := by rw [← hml]; unfold leastN; omega
    rw [hmi] at HLS
    have HPD : Hid (dfs (plPP R C) (plGG R C) ((List.range (R * C)).drop (frm [])) ml [] = some (plL R C)) := Lib.hid (by
      have := (plL_ok hs).1
      unfold plD at this
      rw [els_all, hml] at this
      exact this)
    have HCP := Lib.hid (planted_any R C hs ml [] none 0 0 w hm5 (by simpa using hm5) (Beg.nil _) (Or.inr hm1) (IsL.nilL w))
    rw [HPD.out] at HCP
    clear hB hs hml hmi HPD
    go_enter Tryd.func29, Tryd.ntmps29
    go_wp2_with fail
    refine (HLS.out _).mono ?_
    rintro e w1 ⟨rfl, rfl⟩
    go_wp2_with fail
    refine HCP.out.mono ?_
    rintro e w4 ⟨a4, n4, c4, rfl, b4, hor⟩
    rcases hor with ⟨h, _⟩ | ⟨l, hl, _, hI⟩
    · cases h
    · obtain rfl := Option.some.inj hl
      have HI := Lib.hid hI
      clear hI hl
      go_wp2_with fail
      go_ret2
      exact LP.ok rfl HE.out HI.out b4
end Go.Proofs.YtbhjphcomppjgaaDoor
