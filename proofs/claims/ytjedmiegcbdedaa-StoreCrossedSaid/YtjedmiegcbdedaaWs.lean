/- Walks of chapter 11: Gaps, Back. -/
import Derived.Test.YtjedmiegcbdedaaWq
namespace Go.Proofs.Ytjedmiegcbdedaa
open Go.RowKit Store11

theorem flatE_zero {l : List Int} (h : flatE l = 0) : chkL l = 0 := by
  unfold flatE at h
  split at h
  · assumption
  · exact h
theorem wf_list {L : List Int} (B : Int) (hB : B ≤ 1000000) (h : ∀ k, 0 ≤ L.getD k 0 ∧ L.getD k 0 ≤ B) : Wf L := by
  intro x hx
  obtain ⟨i, hi, rfl⟩ := List.mem_iff_getElem.1 hx
  have := h i
  simp only [List.getD, List.getElem?_eq_getElem hi, Option.getD_some] at this
  exact WalkArith.wf_i64 (by omega)
theorem now_ok (l N : List Int) (i : Nat) (hi : i ≤ 100) : enc9.ok (nowK l N i) :=
  ⟨nowK_len l N i, wf_list i (by omega) (nowK_bound l N i)⟩
theorem gapK_get (l : List Int) (i : Nat) (h : i < l.length) : (gapK l).getD i [] = nowK l (arcR l) (i + 1) := by
  simp [gapK, List.getD, h]
theorem backK_get (l : List Int) (i : Nat) (h : i < l.length) : (backK l).getD i [] = nowK l (arcR l) i := by
  simp [backK, List.getD, h]
theorem grown_below {w w1 w2 : World} {g B : Nat} (h : w.grownBy w1 (some g)) (h2 : Below B w1 w2) (hB : w.heap.size ≤ B) : w.grownBy w2 (some g) :=
  ⟨h2.os.trans h.os, h2.tape.trans h.tape, h2.output.trans h.output, Nat.le_trans h.size h2.size, fun k hk hn => (h2.block k (by omega)).trans (h.block k hk hn)⟩

set_option maxHeartbeats 2000000 in
set_option maxRecDepth 100000 in
theorem Gaps_any (a : Option Addr) (n c : Nat) (l : List Int) (w : World) (h : IsL w a n c l) (hw : Wf l) :
    Calls Try.prog 39 #[.slice a n c] w fun e w' => ∃ a' n' c', e = .returned (.tuple #[.slice a' n' c', .int .i64 (flatE l)]) ∧ IsL w' a' n' c' (gapL l) ∧ Below w.heap.size w w' := by
  obtain ⟨p, hp⟩ : ∃ p : Nat, p = w.heap.size := ⟨_, rfl⟩
  obtain ⟨w1, hw1⟩ : ∃ w1 : World, w1 = w.alloc (.cells #[.slice a n c] 22) := ⟨_, rfl⟩
  have hz1 : w1.heap.size = p + 1 := by rw [hw1, hp]; simp
  have hb1 : Below p w w1 := by rw [hw1, hp]; exact (Below.refl _ w).alloc (Nat.le_refl _) _
  have hcp : w1.cell? ⟨p, 0, none⟩ = some (.slice a n c) := by rw [hw1, hp]; simp
  have h1 : IsL w1 a n c l := h.below (by rw [← hp]; exact hb1)
  have hl := h.len
  by_cases hz : flatE l = 0
  · have hc0 := flatE_zero hz
    have h9 := chkL_zero hc0
    rw [hl] at h9
    have HR : Hid (∀ k, k < n → 0 ≤ l.getD k 0 ∧ l.getD k 0 < 9) := Lib.hid fun k hk => by have := chkL_bound hc0 k (by omega); omega
    have HZ := Lib.hid hz
    have HV : Hid (gapL l = divL (gapK l)) := Lib.hid (by rw [gapL, if_pos hz])
    have HL := Lib.hid hl
    have HP := Lib.hid hp
    have HZ1 := Lib.hid hz1
    have halt : ∀ x, a = some x → x.block < w.heap.size := h.lt (by omega)
    have HAL := Lib.hid halt
    clear hz hc0 hl hz1 halt h
    go_enter Try.func39, Try.ntmps39
    go_upto_region 1 with (fail)
    simp only [← hp, ← hw1]; clear hp hw1
    go_upto_region 4 with (go_at_call 79; refine (flat_any a n c l _ h1 hw).mono ?_; rintro e w2 ⟨rfl, hb2⟩; rw [HZ.out])
    have hcp2 := (hb2.cell (p := ⟨p, 0, none⟩) (by rw [HZ1.out]; simp)).trans hcp
    have h2 := h1.below hb2
    go_upto_region 6 with (go_at_call 76; refine (arcs_any a n c l _ h2 hw (by omega)).mono ?_; rintro e w3 ⟨a1, rfl, h3, hb3⟩)
    have h2' := h2.below hb3
    have hs2 := hb2.size
    have hs3 := hb3.size
    have hcp3 := (hb3.cell (p := ⟨p, 0, none⟩) (by show p < _; have := HZ1.out; omega)).trans hcp2
    have hlt1 : ∀ x, a1 = some x → x.block < w3.heap.size := h3.lt (by omega)
    generalize hq : w3.heap.size = q at *
    generalize hw5 : (w3.alloc (.cells #[.slice a1 n n] 22)).alloc (.cells #[.int .i64 0, .int .i64 0, .int .i64 0, .int .i64 0, .int .i64 0, .int .i64 0, .int .i64 0, .int .i64 0, .int .i64 0] 78) = w5
    have hz5 : w5.heap.size = q + 2 := by rw [← hw5, ← hq]; simp
    have hb5 : Below q w3 w5 := by rw [← hw5, ← hq]; exact ((Below.refl _ w3).alloc (Nat.le_refl _) _).alloc (by simp) _
    have tg : TabAt w5 (q + 1) 78 (nowK l (arcR l) 0) := by rw [← hw5, ← hq]; exact heap_alloc2_new w3 _ _
    have hcq : w5.cell? ⟨q, 0, none⟩ = some (.slice a1 n n) := by rw [← hw5, ← hq]; simp
    have hcp5 : w5.cell? ⟨p, 0, none⟩ = some (.slice a n c) := (hb5.cell (p := ⟨p, 0, none⟩) (by show p < _; have := HZ1.out; omega)).trans hcp3
    have h5 : IsL w5 a n c l := h2'.below (by rw [hq]; exact hb5)
    have h5' : IsL w5 a1 n n (arcR l) := h3.below (by rw [hq]; exact hb5)
    have hpq : p < q := by have := HZ1.out; omega
    have hbf : Below p w w5 := ((hb1.trans (hb2.mono (by have := HZ1.out; omega))).trans (hb3.mono (by have := HZ1.out; omega))).trans (hb5.mono (by omega))
    have hsa : Sep a (some ⟨q + 1, 0, none⟩) := by rintro x y hx hy; cases hy; have := HAL.out x hx; have := HP.out; simp; omega
    have hsa1 : Sep a1 (some ⟨q + 1, 0, none⟩) := by rintro x y hx hy; cases hy; have := hlt1 x hx; simp; omega
    have HQ := Lib.hid hq
    have HZ5 := Lib.hid hz5
    clear hq hw5 hz5 hcp3 hcp2 hcp h1 h2 h2' h3 hb1 hb2 hb3 hb5 hlt1 hs2 hs3
    go_wp2_with fail
    refine (divided_nine 81 (.pointer (some ⟨q + 1, 0, none⟩)) (.pointer (some ⟨p, 0, none⟩)) (.pointer (some ⟨q, 0, none⟩)) w5.heap.size n (gapK l) (fun i w' => TabAt w' (q + 1) 78 (nowK l (arcR l) i) ∧ w5.grownBy w' (some (q + 1))) w5 (fun _ _ => by simp [go_sem]) (by simp [gapK, HL.out]) (by omega) rfl ⟨tg, World.grownBy.refl _ _⟩ (Lib.hid fun i v1 v2 h1 h2 => ⟨h1.1.kept (h2.block _ (by rw [HZ5.out]; omega)), grown_below h1.2 h2 (Nat.le_refl _)⟩) ?_ (Lib.hid fun i v1 hi h1 hB => ?_)).mono ?_
    · intro x hx
      simp only [gapK, List.mem_map, List.mem_range] at hx
      obtain ⟨i, hi, rfl⟩ := hx
      exact now_ok l _ _ (by have := HL.out; omega)
    · have hnb := nowK_bound l (arcR l) i (l.getD i 0).toNat
      have cp : v1.cell? ⟨p, 0, none⟩ = some (.slice a n c) := (World.cell?_of_block (w := w5) (h1.2.block p (by rw [HZ5.out]; omega) (by simp; omega))).trans hcp5
      have cq : v1.cell? ⟨q, 0, none⟩ = some (.slice a1 n n) := (World.cell?_of_block (w := w5) (h1.2.block q (by rw [HZ5.out]; omega) (by simp))).trans hcq
      refine (gap1_any (q + 1) p q i a a1 n c n l (arcR l) (nowK l (arcR l) i) v1 h1.1 (nowK_len _ _ _) (h5.grownS h1.2 hsa) (h5'.grownS h1.2 hsa1) cp cq hi (HR.out i hi) ⟨hnb.1, by omega⟩ (by omega) (by omega) hsa hsa1).mono ?_
      rintro e v2 ⟨rfl, ht, hg⟩
      refine ⟨?_, ⟨ht, grown_trans h1.2 hg⟩, ⟨hg.size, fun k hk hk2 => hg.block k hk2 (by rw [HZ5.out] at hk; simp; omega)⟩⟩
      rw [gapK_get l i (by rw [HL.out]; exact hi)]; rfl
    · rintro e v2 ⟨a', c', rfl, ho, hI, _⟩
      have hg2 := hI.2
      go_wp2
      go_ret2
      refine ⟨a', n, c', ret_si HZ.out.symm, by rw [HV.out]; exact ho.isL, ?_⟩
      rw [← HP.out]
      exact hbf.trans ⟨hg2.os, hg2.tape, hg2.output, hg2.size, fun k hk => hg2.block k (by rw [HZ5.out]; omega) (by simp; omega)⟩
  · have hq : (flatE l != 0) = true := by simpa using hz
    have HV : Hid ([] = gapL l) := Lib.hid (by rw [gapL, if_neg hz])
    have HP := Lib.hid hp
    have HZ1 := Lib.hid hz1
    clear hz hl hz1
    go_enter Try.func39, Try.ntmps39
    go_upto_region 1 with (fail)
    simp only [← hp, ← hw1]; clear hp hw1
    go_wp2_with (go_at_call 79; refine (flat_any a n c l _ h1 hw).mono ?_; rintro e w2 ⟨rfl, hb2⟩)
    go_ret2
    exact ⟨none, 0, 0, rfl, HV.out ▸ IsL.nilL _, by rw [← HP.out]; exact hb1.trans (hb2.mono (by rw [HZ1.out]; omega))⟩

set_option maxHeartbeats 2000000 in
set_option maxRecDepth 100000 in
theorem Back_any (a : Option Addr) (n c : Nat) (l : List Int) (w : World) (h : IsL w a n c l) (hw : Wf l) :
    Calls Try.prog 41 #[.slice a n c] w fun e w' => ∃ a' n' c', e = .returned (.tuple #[.slice a' n' c', .int .i64 (flatE l)]) ∧ IsL w' a' n' c' (backL l) ∧ Below w.heap.size w w' := by
  obtain ⟨p, hp⟩ : ∃ p : Nat, p = w.heap.size := ⟨_, rfl⟩
  obtain ⟨w1, hw1⟩ : ∃ w1 : World, w1 = w.alloc (.cells #[.slice a n c] 22) := ⟨_, rfl⟩
  have hz1 : w1.heap.size = p + 1 := by rw [hw1, hp]; simp
  have hb1 : Below p w w1 := by rw [hw1, hp]; exact (Below.refl _ w).alloc (Nat.le_refl _) _
  have hcp : w1.cell? ⟨p, 0, none⟩ = some (.slice a n c) := by rw [hw1, hp]; simp
  have h1 : IsL w1 a n c l := h.below (by rw [← hp]; exact hb1)
  have hl := h.len
  by_cases hz : flatE l = 0
  · have hc0 := flatE_zero hz
    have h9 := chkL_zero hc0
    rw [hl] at h9
    have HR : Hid (∀ k, k < n → 0 ≤ l.getD k 0 ∧ l.getD k 0 < 9) := Lib.hid fun k hk => by have := chkL_bound hc0 k (by omega); omega
    have HZ := Lib.hid hz
    have HV : Hid (backL l = divL (backK l)) := Lib.hid (by rw [backL, if_pos hz])
    have HL := Lib.hid hl
    have HP := Lib.hid hp
    have HZ1 := Lib.hid hz1
    have halt : ∀ x, a = some x → x.block < w.heap.size := h.lt (by omega)
    have HAL := Lib.hid halt
    clear hz hc0 hl hz1 halt h
    go_enter Try.func41, Try.ntmps41
    go_upto_region 1 with (fail)
    simp only [← hp, ← hw1]; clear hp hw1
    go_upto_region 4 with (go_at_call 79; refine (flat_any a n c l _ h1 hw).mono ?_; rintro e w2 ⟨rfl, hb2⟩; rw [HZ.out])
    have hcp2 := (hb2.cell (p := ⟨p, 0, none⟩) (by rw [HZ1.out]; simp)).trans hcp
    have h2 := h1.below hb2
    go_upto_region 6 with (go_at_call 76; refine (arcs_any a n c l _ h2 hw (by omega)).mono ?_; rintro e w3 ⟨a1, rfl, h3, hb3⟩)
    have h2' := h2.below hb3
    have hs2 := hb2.size
    have hs3 := hb3.size
    have hcp3 := (hb3.cell (p := ⟨p, 0, none⟩) (by show p < _; have := HZ1.out; omega)).trans hcp2
    have hlt1 : ∀ x, a1 = some x → x.block < w3.heap.size := h3.lt (by omega)
    generalize hq : w3.heap.size = q at *
    generalize hw5 : (w3.alloc (.cells #[.slice a1 n n] 22)).alloc (.cells #[.int .i64 0, .int .i64 0, .int .i64 0, .int .i64 0, .int .i64 0, .int .i64 0, .int .i64 0, .int .i64 0, .int .i64 0] 78) = w5
    have hz5 : w5.heap.size = q + 2 := by rw [← hw5, ← hq]; simp
    have hb5 : Below q w3 w5 := by rw [← hw5, ← hq]; exact ((Below.refl _ w3).alloc (Nat.le_refl _) _).alloc (by simp) _
    have tg : TabAt w5 (q + 1) 78 (nowK l (arcR l) 0) := by rw [← hw5, ← hq]; exact heap_alloc2_new w3 _ _
    have hcq : w5.cell? ⟨q, 0, none⟩ = some (.slice a1 n n) := by rw [← hw5, ← hq]; simp
    have hcp5 : w5.cell? ⟨p, 0, none⟩ = some (.slice a n c) := (hb5.cell (p := ⟨p, 0, none⟩) (by show p < _; have := HZ1.out; omega)).trans hcp3
    have h5 : IsL w5 a n c l := h2'.below (by rw [hq]; exact hb5)
    have h5' : IsL w5 a1 n n (arcR l) := h3.below (by rw [hq]; exact hb5)
    have hpq : p < q := by have := HZ1.out; omega
    have hbf : Below p w w5 := ((hb1.trans (hb2.mono (by have := HZ1.out; omega))).trans (hb3.mono (by have := HZ1.out; omega))).trans (hb5.mono (by omega))
    have hsa : Sep a (some ⟨q + 1, 0, none⟩) := by rintro x y hx hy; cases hy; have := HAL.out x hx; have := HP.out; simp; omega
    have hsa1 : Sep a1 (some ⟨q + 1, 0, none⟩) := by rintro x y hx hy; cases hy; have := hlt1 x hx; simp; omega
    have HQ := Lib.hid hq
    have HZ5 := Lib.hid hz5
    clear hq hw5 hz5 hcp3 hcp2 hcp h1 h2 h2' h3 hb1 hb2 hb3 hb5 hlt1 hs2 hs3
    go_wp2_with fail
    refine (divided_nine 84 (.pointer (some ⟨q + 1, 0, none⟩)) (.pointer (some ⟨p, 0, none⟩)) (.pointer (some ⟨q, 0, none⟩)) w5.heap.size n (backK l) (fun i w' => TabAt w' (q + 1) 78 (nowK l (arcR l) i) ∧ w5.grownBy w' (some (q + 1))) w5 (fun _ _ => by simp [go_sem]) (by simp [backK, HL.out]) (by omega) rfl ⟨tg, World.grownBy.refl _ _⟩ (Lib.hid fun i v1 v2 h1 h2 => ⟨h1.1.kept (h2.block _ (by rw [HZ5.out]; omega)), grown_below h1.2 h2 (Nat.le_refl _)⟩) ?_ (Lib.hid fun i v1 hi h1 hB => ?_)).mono ?_
    · intro x hx
      simp only [backK, List.mem_map, List.mem_range] at hx
      obtain ⟨i, hi, rfl⟩ := hx
      exact now_ok l _ _ (by have := HL.out; omega)
    · have hnb := nowK_bound l (arcR l) i (l.getD i 0).toNat
      have cp : v1.cell? ⟨p, 0, none⟩ = some (.slice a n c) := (World.cell?_of_block (w := w5) (h1.2.block p (by rw [HZ5.out]; omega) (by simp; omega))).trans hcp5
      have cq : v1.cell? ⟨q, 0, none⟩ = some (.slice a1 n n) := (World.cell?_of_block (w := w5) (h1.2.block q (by rw [HZ5.out]; omega) (by simp))).trans hcq
      refine (back1_any (q + 1) p q i a a1 n c n l (arcR l) (nowK l (arcR l) i) v1 h1.1 (nowK_len _ _ _) (h5.grownS h1.2 hsa) (h5'.grownS h1.2 hsa1) cp cq hi (HR.out i hi) ⟨hnb.1, by omega⟩ (by omega) (by omega) hsa hsa1).mono ?_
      rintro e v2 ⟨rfl, ht, hg⟩
      refine ⟨?_, ⟨ht, grown_trans h1.2 hg⟩, ⟨hg.size, fun k hk hk2 => hg.block k hk2 (by rw [HZ5.out] at hk; simp; omega)⟩⟩
      rw [backK_get l i (by rw [HL.out]; exact hi)]; rfl
    · rintro e v2 ⟨a', c', rfl, ho, hI, _⟩
      have hg2 := hI.2
      go_wp2
      go_ret2
      refine ⟨a', n, c', ret_si HZ.out.symm, by rw [HV.out]; exact ho.isL, ?_⟩
      rw [← HP.out]
      exact hbf.trans ⟨hg2.os, hg2.tape, hg2.output, hg2.size, fun k hk => hg2.block k (by rw [HZ5.out]; omega) (by simp; omega)⟩
  · have hq : (flatE l != 0) = true := by simpa using hz
    have HV : Hid ([] = backL l) := Lib.hid (by rw [backL, if_neg hz])
    have HP := Lib.hid hp
    have HZ1 := Lib.hid hz1
    clear hz hl hz1
    go_enter Try.func41, Try.ntmps41
    go_upto_region 1 with (fail)
    simp only [← hp, ← hw1]; clear hp hw1
    go_wp2_with (go_at_call 79; refine (flat_any a n c l _ h1 hw).mono ?_; rintro e w2 ⟨rfl, hb2⟩)
    go_ret2
    exact ⟨none, 0, 0, rfl, HV.out ▸ IsL.nilL _, by rw [← HP.out]; exact hb1.trans (hb2.mono (by rw [HZ1.out]; omega))⟩
end Go.Proofs.Ytjedmiegcbdedaa
