/- Walks of the references of chapter 11: Join. -/
import Derived.Test.YtjedmiegcbdedaaRe
import Derived.Test.YtjedmiegcbdedaaLib4
namespace Go.Proofs.Ytjedmiegcbdedaa
open Go.RowKit Store11

theorem wrel {P : Nat → Prop} {n : Nat} (h : P n) : P n := h

set_option maxHeartbeats 4000000 in
set_option maxRecDepth 100000 in
theorem rJoin_any (a b : Option Addr) (n c m d : Nat) (l l' : List Int) (w : World) (h : IsL w a n c l) (h' : IsL w b m d l') :
    Calls Try.prog 32 #[.slice a n c, .slice b m d] w fun e w' => ∃ a' n' c', e = .returned (.tuple #[.slice a' n' c', .int .i64 (bothE l l')]) ∧ IsL w' a' n' c' (joinL l l') ∧ Below w.heap.size w w' := by
  by_cases hz : bothE l l' = 0
  · have ⟨h1, h2, h3⟩ := both_parts hz
    obtain rfl : m = n := by rw [← h.len, ← h'.len, h3]
    have hl9 := (chkL_zero h1).2
    rw [h.len] at hl9
    have H9 : Hid (Nine l l' m) := Lib.hid ⟨fun j hj => by have := chkL_bound h1 j (by rw [h.len]; exact hj); omega, fun j hj => by have := chkL_bound h2 j (by rw [h'.len]; exact hj); omega⟩
    have HZ := Lib.hid hz
    have HL := Lib.hid h.len
    have HJ : Hid (∀ L : List Int, L.length = m → (∀ i, i < m → 0 ≤ L.getD i 0) → dif l l' m (Lof L) = 0 → divL L = joinL l l') := Lib.hid fun L e1 e2 e3 => by
      rw [joinL, if_pos hz]
      exact join_labels hz L (by rw [h.len]; exact e1) (by rw [h.len]; exact e2) (by rw [h.len]; exact e3)
    have hcap := h.cap
    have hle := h.le
    have hcap' := h'.cap
    have hle' := h'.le
    clear hz h1 h2 h3
    go_enter Try.func32, Try.ntmps32
    go_wp2_with (first
      | (go_at_call 73; refine (rboth_any a b m c m d l l' _ h h').mono ?_; rintro e w1 ⟨rfl, b1⟩; rw [HZ.out])
      | (at_make; refine wl_make (Value.int .i64) 0 (.int .i64 0) 8 w.heap.size Try.underlying22 elem3 rfl rfl (.tmp 19) (.tmp 19) rfl rfl m rfl rfl (by omega) (by omega) b1.size ?_))
    intro w2 og hg2 hb2
    have hb3 := b1.trans hb2
    have hgB : w.heap.size ≤ w1.heap.size := b1.size
    generalize w1.heap.size = g at *
    have HO : Hid (OwnL w2 3 w.heap.size (some ⟨g, 0, none⟩) m m (List.replicate m 0)) := Lib.hid og
    clear b1 hg2 hb2 og
    go_wp2_with fail
    go_loopw [8] (fun vi wr => ∃ (k : Nat) (L : List Int), k ≤ m ∧ vi = .int .i64 (k : Int) ∧ Hid (OwnL wr 3 w.heap.size (some ⟨g, 0, none⟩) m m L) ∧ Hid (∀ j, j < k → L.getD j 0 = (j : Int)) ∧ Below w.heap.size w wr) (fun vi _ => m - (intOf vi).toNat)
    case atStart => exact ⟨0, _, by omega, rfl, HO, Lib.hid (fun j h => by omega), hb3⟩
    case round =>
      clear HO hb3
      obtain ⟨k, L, hk, rfl, hO, hI, hb⟩ := hrel
      by_cases hlt : k < m
      · obtain ⟨x1, f1⟩ := hO.out.gen.cell k 0 hlt
        have hll := hO.out.len
        have hO2 := Lib.hid (hO.out.set k (k : Int) hlt)
        have hI2 : Hid (∀ j, j < k + 1 → (L.set k (k : Int)).getD j 0 = (j : Int)) := Lib.hid (fun j hj => by
          by_cases hjk : k = j
          · subst hjk; simp [List.getD, hll, hlt]
          · rw [List.getD, List.getElem?_set_ne hjk, ← List.getD]; exact hI.out j (by omega))
        have hb2 := hb.setCell (p := ⟨g, k, none⟩) hgB (.int .i64 (k : Int))
        have q1 : (k : Int) < (m : Int) := by omega
        generalize L.getD k 0 = v at *
        clear hO hI hb hll
        go_wp2
        go_roundw
        case rel => first | exact ⟨k + 1, L.set k (k : Int), by omega, by go_num, hO2, hI2, hb2⟩ | ((repeat apply Exists.intro); exact ⟨⟨k + 1, L.set k (k : Int), by omega, by go_num, hO2, hI2, hb2⟩, rfl⟩)
        case measure => simp [intOf]; omega
      · obtain rfl : k = m := by omega
        have hok : Hid (LabOk l l' k (Lof L)) := Lib.hid (fun j hj => by
          have : Lof L j = j := by unfold Lof; rw [hI.out j hj]; simp
          rw [this]; exact ⟨rfl, Nat.le_refl _⟩)
        have hpos : Hid (∀ j, j < k → 0 ≤ L.getD j 0 ∧ L.getD j 0 ≤ 100) := Lib.hid (fun j hj => by rw [hI.out j hj]; omega)
        have hdf : Hid (dif l l' k (Lof L) ≤ k - 0) := Lib.hid (dif_le _ _ _ _)
        clear hI
        go_wp2_with fail
        go_loopw [9] (fun vt wr => ∃ (t : Nat) (L : List Int), t ≤ k ∧ vt = .int .i64 (t : Int) ∧ Hid (OwnL wr 3 w.heap.size (some ⟨g, 0, none⟩) k k L) ∧ Hid (LabOk l l' k (Lof L)) ∧ Hid (∀ j, j < k → 0 ≤ L.getD j 0 ∧ L.getD j 0 ≤ 100) ∧ Hid (dif l l' k (Lof L) ≤ k - t) ∧ Below w.heap.size w wr) (fun vt _ => k - (intOf vt).toNat)
        case atStart => exact ⟨0, L, by omega, rfl, hO, hok, hpos, hdf, hb⟩
        case round =>
          clear hO hok hpos hdf hb
          obtain ⟨t, L0, ht, rfl, hO, hok, hpos, hdf, hb⟩ := hrel
          by_cases htk : t < k
          · have dt : decide (t < k) = true := by simpa using htk
            go_wp2_with fail
            go_loopw [10] (fun vi wr => ∃ (i : Nat) (L : List Int), i ≤ k ∧ vi = .int .i64 (i : Int) ∧ Hid (OwnL wr 3 w.heap.size (some ⟨g, 0, none⟩) k k L) ∧ Hid (Mid l l' k i 0 (Lof L0) (Lof L)) ∧ Hid (∀ j, j < k → 0 ≤ L.getD j 0 ∧ L.getD j 0 ≤ 100) ∧ Below w.heap.size w wr) (fun vi _ => k - (intOf vi).toNat)
            case atStart => exact ⟨0, L0, by omega, rfl, hO, Lib.hid (Mid.start hok.out), hpos, hb⟩
            case round =>
              clear hO hpos hb
              obtain ⟨i, L1, hi, rfl, hO, hM, hpos, hb⟩ := hrel
              by_cases hik : i < k
              · have di : decide (i < k) = true := by simpa using hik
                go_wp2_with fail
                go_loopw [11] (fun vk wr => ∃ (j : Nat) (L : List Int), j ≤ k ∧ vk = .int .i64 (j : Int) ∧ Hid (OwnL wr 3 w.heap.size (some ⟨g, 0, none⟩) k k L) ∧ Hid (Mid l l' k i j (Lof L0) (Lof L)) ∧ Hid (∀ j, j < k → 0 ≤ L.getD j 0 ∧ L.getD j 0 ≤ 100) ∧ Below w.heap.size w wr) (fun vk _ => k - (intOf vk).toNat)
                case atStart => exact ⟨0, L1, by omega, rfl, hO, hM, hpos, hb⟩
                case round =>
                  clear hO hM hpos hb
                  obtain ⟨j, L, hj, rfl, hO, hM, hpos, hb⟩ := hrel
                  by_cases hjk : j < k
                  · have g1 := h.below hb
                    have g2 := h'.below hb
                    obtain ⟨b1, o1, rfl, _, hc1⟩ := g1.cells (by omega)
                    obtain ⟨b2, o2, rfl, _, hc2⟩ := g2.cells (by omega)
                    have x1 := hc1 i hik
                    have x2 := hc1 j hjk
                    have x3 := hc2 i hik
                    have x4 := hc2 j hjk
                    obtain ⟨y1, f1⟩ := hO.out.gen.cell i 0 hik
                    obtain ⟨y2, _⟩ := hO.out.gen.cell j 0 hjk
                    have p1 := hpos.out i hik
                    have p2 := hpos.out j hjk
                    have q1 : (i : Int) < (k : Int) := by omega
                    have q2 : (j : Int) < (k : Int) := by omega
                    have hll := hO.out.len
                    -- what a step leaves
                    have hskip : ¬ Store11.Edge l l' i j → Hid (Mid l l' k i (j + 1) (Lof L0) (Lof L)) := fun hE => Lib.hid (hM.out.skip hE)
                    have hstep : Store11.Edge l l' i j → ∀ v, v = min (L.getD i 0) (L.getD j 0) → Hid (Mid l l' k i (j + 1) (Lof L0) (Lof (L.set i v))) ∧ Hid (∀ j, j < k → 0 ≤ (L.set i v).getD j 0 ∧ (L.set i v).getD j 0 ≤ 100) ∧ Hid (∀ nq, OwnL ((wr.drewN nq).drew.setCell ⟨g, i, none⟩ (.int .i64 v)) 3 w.heap.size (some ⟨g, 0, none⟩) k k (L.set i v)) := fun hE v hv => by
                      refine ⟨Lib.hid (hM.out.step hik hjk hE (fun q => ?_)), Lib.hid (fun q hq => ?_), Lib.hid (fun nq => (hO.out.drewN nq).drew.set i v hik)⟩
                      · rw [Lof_set L i v (by rw [hll]; exact hik)]
                        by_cases hqi : q = i
                        · rw [if_pos hqi, if_pos hqi, hv]; unfold Lof; omega
                        · rw [if_neg hqi, if_neg hqi]
                      · by_cases hqi : i = q
                        · subst hqi; rw [show (L.set i v).getD i 0 = v by simp [List.getD, hll, hik], hv]; omega
                        · rw [List.getD, List.getElem?_set_ne hqi, ← List.getD]; exact hpos.out q hq
                    have HSK := Lib.hid hskip
                    have HST := Lib.hid hstep
                    obtain ⟨u, hu⟩ : ∃ u, l.getD i 0 = u := ⟨_, rfl⟩
                    obtain ⟨u', hu'⟩ : ∃ u, l.getD j 0 = u := ⟨_, rfl⟩
                    obtain ⟨v, hv⟩ : ∃ u, l'.getD i 0 = u := ⟨_, rfl⟩
                    obtain ⟨v', hv'⟩ : ∃ u, l'.getD j 0 = u := ⟨_, rfl⟩
                    obtain ⟨s, hs⟩ : ∃ u, L.getD i 0 = u := ⟨_, rfl⟩
                    obtain ⟨s', hs'⟩ : ∃ u, L.getD j 0 = u := ⟨_, rfl⟩
                    rw [hu] at x1
                    rw [hu'] at x2
                    rw [hv] at x3
                    rw [hv'] at x4
                    rw [hs] at y1 p1
                    rw [hs'] at y2 p2
                    have HU := Lib.hid hu
                    have HU' := Lib.hid hu'
                    have HV := Lib.hid hv
                    have HV' := Lib.hid hv'
                    have HS := Lib.hid hs
                    have HS' := Lib.hid hs'
                    have HOD : Hid (∀ nq, OwnL (wr.drewN nq) 3 w.heap.size (some ⟨g, 0, none⟩) k k L) := Lib.hid fun nq => hO.out.drewN nq
                    clear hc1 hc2 g1 g2 hu hu' hv hv' hs hs' hskip hstep hO hM hll
                    by_cases hE : Store11.Edge l l' i j
                    · have hst2 : ∀ z, z = min s s' → Hid (Mid l l' k i (j + 1) (Lof L0) (Lof (L.set i z))) ∧ Hid (∀ j, j < k → 0 ≤ (L.set i z).getD j 0 ∧ (L.set i z).getD j 0 ≤ 100) ∧ Hid (∀ nq, OwnL ((wr.drewN nq).drew.setCell ⟨g, i, none⟩ (.int .i64 z)) 3 w.heap.size (some ⟨g, 0, none⟩) k k (L.set i z)) := fun z hz => HST.out hE z (by rw [HS.out, HS'.out]; exact hz)
                      have HST2 := Lib.hid hst2
                      have hor : u = u' ∨ (u ≠ u' ∧ v = v') := by
                        rcases hE with h1 | h1
                        · left; rw [← HU.out, ← HU'.out]; exact h1
                        · by_cases h2 : u = u'
                          · exact .inl h2
                          · exact .inr ⟨h2, by rw [← HV.out, ← HV'.out]; exact h1⟩
                      clear hst2 hE
                      rcases hor with rfl | ⟨hu1, rfl⟩
                      · have n1 : (u == u) = true := by simp
                        rcases (by omega : s < s' ∨ s = s' ∨ s' < s) with h1 | rfl | h1
                        · skip
                          obtain ⟨hM2, hP2, hO2⟩ := HST2.out s (by omega)
                          go_wp2_with fail
                          go_quiet (fail)
                          have z1 : (wr.drewN nq).cell? ⟨g, i, none⟩ = some (.int .i64 s) := y1
                          have z2 : (wr.drewN nq).cell? ⟨g, j, none⟩ = some (.int .i64 s') := y2
                          have z3 : (wr.drewN nq).frozen? ⟨g, i, none⟩ = false := f1
                          have hb3 := (belowN hb nq).drew.setCell (p := ⟨g, i, none⟩) hgB (.int .i64 s)
                          have hO3 := Lib.hid (hO2.out nq)
                          clear hO2 y1 y2 f1 hb HOD x1 x2 x3 x4
                          generalize wr.drewN nq = wq at *
                          go_wp2_with fail
                          go_still_tail 12, (by kernel_rfl)
                          change wpList _ _ _ _ _ (World.drew wq)
                          go_wp2
                          go_roundw
                          case rel => first | exact ⟨j + 1, L.set i s, by omega, by go_num, hO3, hM2, hP2, hb3⟩ | ((repeat apply Exists.intro); exact ⟨⟨j + 1, L.set i s, by omega, by go_num, hO3, hM2, hP2, hb3⟩, rfl⟩)
                          case measure => simp [intOf]; omega
                        · skip
                          obtain ⟨hM2, hP2, hO2⟩ := HST2.out s (by omega)
                          go_wp2_with fail
                          go_quiet (fail)
                          have z1 : (wr.drewN nq).cell? ⟨g, i, none⟩ = some (.int .i64 s) := y1
                          have z2 : (wr.drewN nq).cell? ⟨g, j, none⟩ = some (.int .i64 s) := y2
                          have z3 : (wr.drewN nq).frozen? ⟨g, i, none⟩ = false := f1
                          have hb3 := (belowN hb nq).drew.setCell (p := ⟨g, i, none⟩) hgB (.int .i64 s)
                          have hO3 := Lib.hid (hO2.out nq)
                          clear hO2 y1 y2 f1 hb HOD x1 x2 x3 x4
                          generalize wr.drewN nq = wq at *
                          go_wp2_with fail
                          go_still_tail 12, (by kernel_rfl)
                          change wpList _ _ _ _ _ (World.drew wq)
                          go_wp2
                          go_roundw
                          case rel => first | exact ⟨j + 1, L.set i s, by omega, by go_num, hO3, hM2, hP2, hb3⟩ | ((repeat apply Exists.intro); exact ⟨⟨j + 1, L.set i s, by omega, by go_num, hO3, hM2, hP2, hb3⟩, rfl⟩)
                          case measure => simp [intOf]; omega
                        · skip
                          obtain ⟨hM2, hP2, hO2⟩ := HST2.out s' (by omega)
                          go_wp2_with fail
                          go_quiet (fail)
                          have z1 : (wr.drewN nq).cell? ⟨g, i, none⟩ = some (.int .i64 s) := y1
                          have z2 : (wr.drewN nq).cell? ⟨g, j, none⟩ = some (.int .i64 s') := y2
                          have z3 : (wr.drewN nq).frozen? ⟨g, i, none⟩ = false := f1
                          have hb3 := (belowN hb nq).drew.setCell (p := ⟨g, i, none⟩) hgB (.int .i64 s')
                          have hO3 := Lib.hid (hO2.out nq)
                          clear hO2 y1 y2 f1 hb HOD x1 x2 x3 x4
                          generalize wr.drewN nq = wq at *
                          go_wp2_with fail
                          go_still_tail 12, (by kernel_rfl)
                          change wpList _ _ _ _ _ (World.drew wq)
                          go_wp2
                          go_roundw
                          case rel => first | exact ⟨j + 1, L.set i s', by omega, by go_num, hO3, hM2, hP2, hb3⟩ | ((repeat apply Exists.intro); exact ⟨⟨j + 1, L.set i s', by omega, by go_num, hO3, hM2, hP2, hb3⟩, rfl⟩)
                          case measure => simp [intOf]; omega
                      · have n1 : (u == u') = false := by simpa using hu1
                        have n2 : (v == v) = true := by simp
                        clear hu1
                        rcases (by omega : s < s' ∨ s = s' ∨ s' < s) with h1 | rfl | h1
                        · skip
                          obtain ⟨hM2, hP2, hO2⟩ := HST2.out s (by omega)
                          go_wp2_with fail
                          go_quiet (fail)
                          have z1 : (wr.drewN nq).cell? ⟨g, i, none⟩ = some (.int .i64 s) := y1
                          have z2 : (wr.drewN nq).cell? ⟨g, j, none⟩ = some (.int .i64 s') := y2
                          have z3 : (wr.drewN nq).frozen? ⟨g, i, none⟩ = false := f1
                          have hb3 := (belowN hb nq).drew.setCell (p := ⟨g, i, none⟩) hgB (.int .i64 s)
                          have hO3 := Lib.hid (hO2.out nq)
                          clear hO2 y1 y2 f1 hb HOD x1 x2 x3 x4
                          generalize wr.drewN nq = wq at *
                          go_wp2_with fail
                          go_still_tail 12, (by kernel_rfl)
                          change wpList _ _ _ _ _ (World.drew wq)
                          go_wp2
                          go_roundw
                          case rel => first | exact ⟨j + 1, L.set i s, by omega, by go_num, hO3, hM2, hP2, hb3⟩ | ((repeat apply Exists.intro); exact ⟨⟨j + 1, L.set i s, by omega, by go_num, hO3, hM2, hP2, hb3⟩, rfl⟩)
                          case measure => simp [intOf]; omega
                        · skip
                          obtain ⟨hM2, hP2, hO2⟩ := HST2.out s (by omega)
                          go_wp2_with fail
                          go_quiet (fail)
                          have z1 : (wr.drewN nq).cell? ⟨g, i, none⟩ = some (.int .i64 s) := y1
                          have z2 : (wr.drewN nq).cell? ⟨g, j, none⟩ = some (.int .i64 s) := y2
                          have z3 : (wr.drewN nq).frozen? ⟨g, i, none⟩ = false := f1
                          have hb3 := (belowN hb nq).drew.setCell (p := ⟨g, i, none⟩) hgB (.int .i64 s)
                          have hO3 := Lib.hid (hO2.out nq)
                          clear hO2 y1 y2 f1 hb HOD x1 x2 x3 x4
                          generalize wr.drewN nq = wq at *
                          go_wp2_with fail
                          go_still_tail 12, (by kernel_rfl)
                          change wpList _ _ _ _ _ (World.drew wq)
                          go_wp2
                          go_roundw
                          case rel => first | exact ⟨j + 1, L.set i s, by omega, by go_num, hO3, hM2, hP2, hb3⟩ | ((repeat apply Exists.intro); exact ⟨⟨j + 1, L.set i s, by omega, by go_num, hO3, hM2, hP2, hb3⟩, rfl⟩)
                          case measure => simp [intOf]; omega
                        · skip
                          obtain ⟨hM2, hP2, hO2⟩ := HST2.out s' (by omega)
                          go_wp2_with fail
                          go_quiet (fail)
                          have z1 : (wr.drewN nq).cell? ⟨g, i, none⟩ = some (.int .i64 s) := y1
                          have z2 : (wr.drewN nq).cell? ⟨g, j, none⟩ = some (.int .i64 s') := y2
                          have z3 : (wr.drewN nq).frozen? ⟨g, i, none⟩ = false := f1
                          have hb3 := (belowN hb nq).drew.setCell (p := ⟨g, i, none⟩) hgB (.int .i64 s')
                          have hO3 := Lib.hid (hO2.out nq)
                          clear hO2 y1 y2 f1 hb HOD x1 x2 x3 x4
                          generalize wr.drewN nq = wq at *
                          go_wp2_with fail
                          go_still_tail 12, (by kernel_rfl)
                          change wpList _ _ _ _ _ (World.drew wq)
                          go_wp2
                          go_roundw
                          case rel => first | exact ⟨j + 1, L.set i s', by omega, by go_num, hO3, hM2, hP2, hb3⟩ | ((repeat apply Exists.intro); exact ⟨⟨j + 1, L.set i s', by omega, by go_num, hO3, hM2, hP2, hb3⟩, rfl⟩)
                          case measure => simp [intOf]; omega
                    · have n1 : (u == u') = false := by
                        have : u ≠ u' := fun e => hE (.inl (by rw [HU.out, HU'.out]; exact e))
                        simpa using this
                      have n2 : (v == v') = false := by
                        have : v ≠ v' := fun e => hE (.inr (by rw [HV.out, HV'.out]; exact e))
                        simpa using this
                      have hM2 := HSK.out hE
                      clear hE
                      go_wp2_with fail
                      go_quiet (fail)
                      have hb3 := belowN hb nq
                      have hO3 := Lib.hid (HOD.out nq)
                      go_wp2
                      go_roundw
                      case rel => first | exact ⟨j + 1, L, by omega, by go_num, hO3, hM2, hpos, hb3⟩ | ((repeat apply Exists.intro); exact ⟨⟨j + 1, L, by omega, by go_num, hO3, hM2, hpos, hb3⟩, rfl⟩)
                      case measure => simp [intOf]; omega
                  · obtain rfl : j = k := by omega
                    have hM2 := Lib.hid hM.out.row
                    clear hM
                    go_wp2_with fail
                    go_roundw
                    case rel => first | exact ⟨i + 1, L, by omega, by go_num, hO, hM2, hpos, hb⟩ | ((repeat apply Exists.intro); exact ⟨⟨i + 1, L, by omega, by go_num, hO, hM2, hpos, hb⟩, rfl⟩)
                    case measure => simp [intOf]; omega
              · obtain rfl : i = k := by omega
                have hok2 : Hid (LabOk l l' i (Lof L1)) := Lib.hid hM.out.ok
                have hd2 : Hid (dif l l' i (Lof L1) ≤ i - (t + 1)) := Lib.hid (by
                  have := round_less H9.out hok.out hM.out
                  have := hdf.out
                  omega)
                clear hM
                go_wp2_with fail
                go_roundw
                case rel => first | exact ⟨t + 1, L1, by omega, by go_num, hO, hok2, hpos, hd2, hb⟩ | ((repeat apply Exists.intro); exact ⟨⟨t + 1, L1, by omega, by go_num, hO, hok2, hpos, hd2, hb⟩, rfl⟩)
                case measure => simp [intOf]; omega
          · obtain rfl : t = k := by omega
            have hf := hO.out.isL
            have hlen := hf.len
            have HJ2 : Hid (divL L0 = joinL l l') := Lib.hid (HJ.out L0 hlen (fun i hi => (hpos.out i hi).1) (by have := hdf.out; omega))
            clear hO hok hpos hdf hlen
            go_wp2_with (go_at_call 63; refine (rof_any (some ⟨g, 0, none⟩) t t L0 _ hf (by omega)).mono ?_; rintro e w4 ⟨a4, c4, rfl, h4, b4⟩)
            go_ret2
            exact ⟨a4, t, c4, ret_si HZ.out.symm, HJ2.out ▸ h4, hb.trans (b4.mono hb.size)⟩
  · have hq : (bothE l l' != 0) = true := by simpa using hz
    have HV : Hid ([] = joinL l l') := Lib.hid (by rw [joinL, if_neg hz])
    clear hz
    go_enter Try.func32, Try.ntmps32
    go_wp2_with (go_at_call 73; refine (rboth_any a b n c m d l l' _ h h').mono ?_; rintro e w1 ⟨rfl, b1⟩)
    go_ret2
    exact ⟨none, 0, 0, rfl, HV.out ▸ IsL.nilL _, b1⟩
end Go.Proofs.Ytjedmiegcbdedaa
