/- Walks of chapter 3: checks and places. -/
import Derived.Test.YtmcckngodaeojaaRows
import Derived.Test.YtmcckngodaeojaaLib8
import Derived.Test.YtmcckngodaeojaaPa
import Derived.IntWalk
namespace Go.Proofs.Ytmcckngodaeojaa
open Go.RowKit Grade03

theorem elem3 : (Try.prog.info? 3).map (fun i => (i.zero, i.size, i.bytes)) = some (some (.int .i64 0), 1, 8) := by kernel_rfl
theorem list_any (a : Option Addr) (n c : Nat) (w : World) : Calls Try.prog 54 #[.slice a n c] w fun e w' => e = .returned (.slice a n c) ∧ w = w' := by
  go_enter Try.func54, Try.ntmps54
  go_wp2
  go_ret
  exact ⟨rfl, rfl⟩
set_option maxHeartbeats 400000 in
theorem same_yes (a b : Option Addr) (n c n' c' : Nat) (l l' : List Int) (w : World) (h : IsL w a n c l) (h' : IsL w b n' c' l') (he : l = l') :
    Calls Try.prog 22 #[.slice a n c, .slice b n' c'] w fun e w' => e = .returned (.bool true) ∧ Below w.heap.size w w' := by
  subst he
  obtain rfl : n' = n := by rw [← h.len, ← h'.len]
  have hcap := h.cap
  have hle := h.le
  have hcap' := h'.cap
  have hle' := h'.le
  have hr : ((n' : Int) != (n' : Int)) = false := by simp
  go_enter Try.func22, Try.ntmps22
  go_wp2
  go_loopw [5] (fun vi wr => ∃ k : Nat, k ≤ n' ∧ vi = .int .i64 k ∧ Below w.heap.size w wr) (fun vi _ => n' - (intOf vi).toNat)
  case atStart => exact ⟨0, by omega, rfl, Below.refl _ _⟩
  case round =>
    obtain ⟨k, hk, rfl, hb⟩ := hrel
    by_cases hlt : k < n'
    · obtain ⟨b1, o1, rfl, hb1, hc1⟩ := h.cells (by omega)
      obtain ⟨b2, o2, rfl, hb2, hc2⟩ := h'.cells (by omega)
      have x1 := (hb.cell (p := ⟨b1, o1 + k, none⟩) hb1).trans (hc1 k hlt)
      have x2 := (hb.cell (p := ⟨b2, o2 + k, none⟩) hb2).trans (hc2 k hlt)
      clear hc1 hc2
      generalize l.getD k 0 = x at *
      have q1 : (k : Int) < (n' : Int) := by omega
      have hx : (x != x) = false := by simp
      go_wp2
      go_quiet (fail)
      go_wp2
      go_roundw
      case rel => exact ⟨k + 1, by omega, by go_num, belowN hb _⟩
      case measure => simp [intOf]; omega
    · go_wp2
      go_ret
      exact ⟨rfl, hb⟩
theorem in_yes (n lo hi : Int) (w : World) (h0 : lo ≤ n) (h1 : n ≤ hi) : Calls Try.prog 72 #[.int .i64 n, .int .i64 lo, .int .i64 hi] w fun e w' => e = .returned (.bool true) ∧ w = w' := by
  have hd : decide (n ≤ hi) = true := by simpa using h1
  have hd2 : decide (lo ≤ n) = true := by simpa using h0
  go_enter Try.func72, Try.ntmps72
  go_wp2
  go_ret
  exact ⟨rfl, rfl⟩
theorem in_no (n lo hi : Int) (w : World) (h : ¬ (lo ≤ n ∧ n ≤ hi)) : Calls Try.prog 72 #[.int .i64 n, .int .i64 lo, .int .i64 hi] w fun e w' => e = .returned (.bool false) ∧ w = w' := by
  by_cases h1 : lo ≤ n
  · have hd2 : decide (lo ≤ n) = true := by simpa using h1
    have hd : decide (n ≤ hi) = false := by simp; omega
    clear h
    go_enter Try.func72, Try.ntmps72
    go_wp2
    go_ret
    exact ⟨rfl, rfl⟩
  · have hd2 : decide (lo ≤ n) = false := by simpa using h1
    clear h
    go_enter Try.func72, Try.ntmps72
    go_wp2
    go_ret
    exact ⟨rfl, rfl⟩
set_option maxHeartbeats 400000 in
theorem has_any (a : Option Addr) (n c : Nat) (l : List Int) (x : Int) (w : World) (h : IsL w a n c l) : Calls Try.prog 73 #[.slice a n c, .int .i64 x] w fun e w' => e = .returned (.bool (decide (x ∈ l))) ∧ w = w' := by
  have hcap := h.cap
  have hle := h.le
  have hl := h.len
  have HL := Lib.hid hl
  clear hl
  go_enter Try.func73, Try.ntmps73
  go_wp2_with fail
  go_loopw [5] (fun vi wr => ∃ i : Nat, i ≤ n ∧ vi = .int .i64 (i : Int) ∧ Hid (∀ j, j < i → l.getD j 0 ≠ x) ∧ w = wr) (fun vi _ => n - (intOf vi).toNat)
  case atStart => exact ⟨0, by omega, rfl, Lib.hid (fun j hj => by omega), rfl⟩
  case round =>
    obtain ⟨i, hi, rfl, hD, rfl⟩ := hrel
    by_cases hlt : i < n
    · obtain ⟨b, o, rfl, _, hc⟩ := h.cells (by omega)
      have y := hc i hlt
      have q1 : (i : Int) < (n : Int) := by omega
      obtain ⟨v, hv⟩ : ∃ v, l.getD i 0 = v := ⟨_, rfl⟩
      rw [hv] at y
      have HV := Lib.hid hv
      clear hc hv
      by_cases hx : v = x
      · subst hx
        have e1 : (v == v) = true := by simp
        have HR : Hid (true = decide (v ∈ l)) := Lib.hid (by rw [eq_comm, decide_eq_true_eq, ← HV.out]; exact mem_getD l i (by rw [HL.out]; exact hlt))
        go_wp2_with fail
        go_ret
        exact ⟨ret_b HR.out, rfl⟩
      · have e1 : (v == x) = false := by simpa using hx
        have hD2 : Hid (∀ j, j < i + 1 → l.getD j 0 ≠ x) := Lib.hid (fun j hj => by
          by_cases hj2 : j = i
          · rw [hj2, HV.out]; exact hx
          · exact hD.out j (by omega))
        clear hx
        go_wp2_with fail
        go_roundw
        case rel => first | exact ⟨i + 1, by omega, by go_num, hD2, by first | trivial | rfl⟩ | ((repeat apply Exists.intro); exact ⟨⟨i + 1, by omega, by go_num, hD2, by first | trivial | rfl⟩, rfl⟩)
        case measure => simp [intOf]; omega
    · obtain rfl : i = n := by omega
      have HR : Hid (false = decide (x ∈ l)) := Lib.hid (by
        rw [eq_comm, decide_eq_false_iff_not]
        intro hm
        obtain ⟨j, hj, e⟩ := getD_of_mem hm
        exact hD.out j (by rw [HL.out] at hj; exact hj) e)
      go_wp2_with fail
      go_ret
      exact ⟨ret_b HR.out, rfl⟩

set_option maxHeartbeats 4000000 in
set_option maxRecDepth 100000 in
theorem Check_any (a : Option Addr) (n c : Nat) (l : List Int) (w : World) (h : IsL w a n c l) : Calls Try.prog 25 #[.slice a n c] w fun e w' => e = .returned (.int .i64 (chkE l)) ∧ Below w.heap.size w w' := by
  have hcap := h.cap
  have hle := h.le
  have hl := h.len
  by_cases hs : sizeE n = 0
  · have hp := sizeE_pos hs
    obtain ⟨hn1, hn7⟩ := hp
    have HL := Lib.hid hl
    have HS : Hid (sizeE l.length = 0) := Lib.hid (by rw [hl]; exact hs)
    have e0 : ((n : Int) == 0) = false := by simp; omega
    have e7 : decide ((7 : Int) < (n : Int)) = false := by simp; omega
    clear hs hl
    go_enter Try.func25, Try.ntmps25
    go_wp2_with fail
    go_loopw [17] (fun vi wr => ∃ i : Nat, i ≤ n ∧ vi = .int .i64 (i : Int) ∧ Hid (∀ j, j < i → badI l j = 0) ∧ Hid (ArrV Value.bool wr w.heap.size 77 (metL l i)) ∧ Below w.heap.size w wr) (fun vi _ => n - (intOf vi).toNat)
    case atStart => exact ⟨0, by omega, rfl, Lib.hid (fun j hj => by omega), Lib.hid (ArrV.new w _ _ _ _ rfl (by rw [metL_zero]; rfl)), (Below.refl _ w).alloc (Nat.le_refl _) _⟩
    case round =>
      obtain ⟨i, hi, rfl, hD, hA, hb⟩ := hrel
      by_cases hlt : i < n
      · have g := h.below hb
        obtain ⟨b, o, rfl, _, hc⟩ := g.cells (by omega)
        have y := hc i hlt
        have q1 : (i : Int) < (n : Int) := by omega
        obtain ⟨v, hv⟩ : ∃ v, l.getD i 0 = v := ⟨_, rfl⟩
        rw [hv] at y
        have HV := Lib.hid hv
        have hsz := hb.size
        clear hc hv
        by_cases hlo : v < 0
        · have d1 : decide (v < 0) = true := by simpa using hlo
          have HB : Hid (badI l i = 2) := Lib.hid (by unfold badI; rw [HV.out, if_pos (.inl hlo)])
          have HR : Hid ((2 : Int) = chkE l) := Lib.hid (by rw [chkE_hit HS.out (by rw [HL.out]; exact hlt) hD.out (by rw [HB.out]; decide), HB.out])
          go_wp2_with fail
          go_ret
          exact ⟨ret_i HR.out, hb⟩
        · have d1 : decide (v < 0) = false := by simpa using hlo
          by_cases hhi : (n : Int) ≤ v
          · have d2 : decide ((n : Int) ≤ v) = true := by simpa using hhi
            have HB : Hid (badI l i = 2) := Lib.hid (by unfold badI; rw [HV.out, HL.out, if_pos (.inr hhi)])
            have HR : Hid ((2 : Int) = chkE l) := Lib.hid (by rw [chkE_hit HS.out (by rw [HL.out]; exact hlt) hD.out (by rw [HB.out]; decide), HB.out])
            go_wp2_with fail
            go_ret
            exact ⟨ret_i HR.out, hb⟩
          · have d2 : decide ((n : Int) ≤ v) = false := by simpa using hhi
            obtain ⟨x, rfl⟩ : ∃ x : Nat, v = (x : Int) := ⟨v.toNat, by omega⟩
            have hx7 : x < 7 := by omega
            have hxn : (x : Int) < 7 := by omega
            have m0 := hA.out.cell x false (by rw [metL_len]; exact hx7)
            have m1 := hA.out.frozen x
            have hset := metL_set l i x (by rw [HL.out]; exact hlt) HV.out
            rw [metL_get l i x hx7] at m0
            have HM : Hid (badI l i = if (x : Int) ∈ l.take i then 6 else 0) := Lib.hid (by unfold badI; rw [HV.out, HL.out, if_neg (by omega)])
            by_cases hm : (x : Int) ∈ l.take i
            · have d3 : decide ((x : Int) ∈ l.take i) = true := decide_eq_true hm
              rw [d3] at m0
              have HB : Hid (badI l i = 6) := Lib.hid (by rw [HM.out, if_pos hm])
              have HR : Hid ((6 : Int) = chkE l) := Lib.hid (by rw [chkE_hit HS.out (by rw [HL.out]; exact hlt) hD.out (by rw [HB.out]; decide), HB.out])
              clear d3 hm hset
              go_wp2_with fail
              go_ret
              exact ⟨ret_i HR.out, hb⟩
            · have d3 : decide ((x : Int) ∈ l.take i) = false := decide_eq_false hm
              rw [d3] at m0
              have HB : Hid (badI l i = 0) := Lib.hid (by rw [HM.out, if_neg hm])
              have hD2 : Hid (∀ j, j < i + 1 → badI l j = 0) := Lib.hid (fun j hj => by
                by_cases e : j = i
                · rw [e]; exact HB.out
                · exact hD.out j (by omega))
              have hs1 := hA.out.set x true
              rw [hset] at hs1
              have HA2 := Lib.hid hs1
              have hb2 : Below w.heap.size w _ := hb.setCell (p := ⟨w.heap.size, x, none⟩) (Nat.le_refl _) (.bool true)
              clear d3 hm hset hs1 hA
              go_wp2_with fail
              go_roundw
              case rel => first | exact ⟨i + 1, by omega, by go_num, hD2, HA2, hb2⟩ | ((repeat apply Exists.intro); exact ⟨⟨i + 1, by omega, by go_num, hD2, HA2, hb2⟩, rfl⟩)
              case measure => simp [intOf]; omega
      · obtain rfl : i = n := by omega
        have HR : Hid ((0 : Int) = chkE l) := Lib.hid (by rw [chkE_ok HS.out (by rw [HL.out]; exact hD.out)])
        go_wp2_with fail
        go_ret
        exact ⟨ret_i HR.out, hb⟩
  · obtain ⟨v, hv⟩ : ∃ v, sizeE n = v := ⟨_, rfl⟩
    have HR : Hid (v = chkE l) := Lib.hid (by rw [chkE_size (by rw [hl]; exact hs), hl, hv])
    have hv2 := hv
    have hs7 : n = 0 ∨ 7 < n := by
      unfold sizeE at hs
      by_cases h0 : n = 0
      · exact .inl h0
      · rw [if_neg h0] at hs
        by_cases h7 : 7 < n
        · exact .inr h7
        · rw [if_neg h7] at hs; exact absurd rfl hs
    unfold sizeE at hv2
    clear hs hl hv
    by_cases h0 : n = 0
    · rw [if_pos h0] at hv2
      subst hv2
      have e0 : ((n : Int) == 0) = true := by simp; exact h0
      clear h0
      go_enter Try.func25, Try.ntmps25
      go_wp2_with fail
      go_ret
      exact ⟨ret_i HR.out, Below.refl _ _⟩
    · rw [if_neg h0] at hv2
      by_cases h7 : 7 < n
      · rw [if_pos h7] at hv2
        subst hv2
        have e0 : ((n : Int) == 0) = false := by simp; exact h0
        have e7 : decide ((7 : Int) < (n : Int)) = true := by simp; omega
        clear h0 h7
        go_enter Try.func25, Try.ntmps25
        go_wp2_with fail
        go_ret
        exact ⟨ret_i HR.out, Below.refl _ _⟩
      · exfalso; omega
end Go.Proofs.Ytmcckngodaeojaa
namespace Go.Proofs.Ytmcckngodaeojaa
open Go.RowKit Grade03

abbrev I64 : Int → Value := Value.int .i64
set_option maxHeartbeats 4000000 in
set_option maxRecDepth 100000 in
theorem placed_any (a : Option Addr) (n c : Nat) (l : List Int) (w : World) (h : IsL w a n c l) (hO : IsO l) (h7 : n ≤ 7) : Calls Try.prog 65 #[.slice a n c] w fun e w' => e = .returned (.agg ((plL l).map I64).toArray) ∧ Below w.heap.size w w' := by
  have hcap := h.cap
  have hle := h.le
  have hl := h.len
  have HL := Lib.hid hl
  have HO := Lib.hid hO
  clear hl hO
  go_enter Try.func65, Try.ntmps65
  go_wp2_with fail
  go_loopw [8] (fun vi wr => ∃ i : Nat, i ≤ n ∧ vi = .int .i64 (i : Int) ∧ Hid (ArrV I64 wr (w.heap.size + 1) 69 (plK l i)) ∧ Below w.heap.size w wr ∧ w.heap.size + 1 < wr.heap.size ∧ wr.heap[w.heap.size]? = some (.cells ((List.replicate 7 0).map I64).toArray 69 (0, 0))) (fun vi _ => n - (intOf vi).toNat)
  case atStart => exact ⟨0, by omega, rfl, Lib.hid (ArrV.new _ _ _ _ _ (by simp) (by rfl)), ((Below.refl _ w).alloc (Nat.le_refl _) _).alloc (by simp) _, by simp, by rw [heap_alloc_old _ _ (by simp)]; exact heap_alloc_new _ _⟩
  case round =>
    obtain ⟨i, hi, rfl, hA, hb, hz, h0⟩ := hrel
    have H0 := Lib.hid h0
    clear h0
    by_cases hlt : i < n
    · have g := h.below hb
      obtain ⟨b, o, rfl, _, hc⟩ := g.cells (by omega)
      have y := hc i hlt
      have q1 : (i : Int) < (n : Int) := by omega
      have hlo := HO.out.lo i (by rw [HL.out]; exact hlt)
      rw [HL.out] at hlo
      obtain ⟨x, hx⟩ : ∃ x : Nat, l.getD i 0 = (x : Int) := ⟨(l.getD i 0).toNat, by omega⟩
      rw [hx] at y hlo
      have HS : Hid (plK l (i + 1) = (plK l i).set x (i : Int)) := Lib.hid (by rw [plK, hx, Int.toNat_natCast])
      have hx7 : (x : Int) < 7 := by omega
      have m0 := hA.out.cell x 0 (by rw [plK_len]; omega)
      have m1 := hA.out.frozen x
      have HA2 : Hid (ArrV I64 (wr.setCell ⟨w.heap.size + 1, x, none⟩ (.int .i64 (i : Int))) (w.heap.size + 1) 69 (plK l (i + 1))) := Lib.hid (by rw [HS.out]; exact hA.out.set x (i : Int))
      have hb2 : Below w.heap.size w _ := hb.setCell (p := ⟨w.heap.size + 1, x, none⟩) (Nat.le_succ _) (.int .i64 (i : Int))
      have h02 : (wr.setCell ⟨w.heap.size + 1, x, none⟩ (.int .i64 (i : Int))).heap[w.heap.size]? = some (.cells ((List.replicate 7 0).map I64).toArray 69 (0, 0)) := by
        rw [show (wr.setCell ⟨w.heap.size + 1, x, none⟩ (.int .i64 (i : Int))).heap[w.heap.size]? = wr.heap[w.heap.size]? by simp [World.setCell, Array.getElem?_modify]]
        exact H0.out
      have H02 := Lib.hid h02
      clear hc hx hA h02 hlo
      go_wp2_with fail
      go_roundw
      case rel => first | exact ⟨i + 1, by omega, by go_num, HA2, hb2, by simpa [World.setCell] using hz, H02.out⟩ | ((repeat apply Exists.intro); exact ⟨⟨i + 1, by omega, by go_num, HA2, hb2, by simpa [World.setCell] using hz, H02.out⟩, rfl⟩)
      case measure => simp [intOf]; omega
    · obtain rfl : i = n := by omega
      obtain ⟨p0, p1, p2, p3, p4, p5, p6, hp⟩ : ∃ p0 p1 p2 p3 p4 p5 p6 : Int, plK l i = [p0, p1, p2, p3, p4, p5, p6] := by
        have := plK_len l i
        match hh : plK l i, this with
        | [p0, p1, p2, p3, p4, p5, p6], _ => exact ⟨p0, p1, p2, p3, p4, p5, p6, rfl⟩
      have HP : Hid (plL l = [p0, p1, p2, p3, p4, p5, p6]) := Lib.hid (by rw [plL, HL.out, hp])
      have hA2 := hA.out
      rw [hp] at hA2
      have k0 := hA2.cell 0 0 (by simp)
      have k1 := hA2.cell 1 0 (by simp)
      have k2 := hA2.cell 2 0 (by simp)
      have k3 := hA2.cell 3 0 (by simp)
      have k4 := hA2.cell 4 0 (by simp)
      have k5 := hA2.cell 5 0 (by simp)
      have k6 := hA2.cell 6 0 (by simp)
      simp only [List.getD, List.getElem?_cons_zero, List.getElem?_cons_succ, Option.getD_some] at k0 k1 k2 k3 k4 k5 k6
      clear hA hA2 hp
      have hz0 : ArrV I64 wr w.heap.size 69 (List.replicate 7 0) := H0.out
      have z0 := hz0.cell 0 0 (by decide)
      have z1 := hz0.cell 1 0 (by decide)
      have z2 := hz0.cell 2 0 (by decide)
      have z3 := hz0.cell 3 0 (by decide)
      have z4 := hz0.cell 4 0 (by decide)
      have z5 := hz0.cell 5 0 (by decide)
      have z6 := hz0.cell 6 0 (by decide)
      have f0 := hz0.frozen 0
      have f1 := hz0.frozen 1
      have f2 := hz0.frozen 2
      have f3 := hz0.frozen 3
      have f4 := hz0.frozen 4
      have f5 := hz0.frozen 5
      have f6 := hz0.frozen 6
      clear hz0
      go_wp2_with fail
      refine bodyPost_ret (v := .agg #[I64 p0, I64 p1, I64 p2, I64 p3, I64 p4, I64 p5, I64 p6]) (by simp [results, Try.results65, go_sem, z0, z1, z2, z3, z4, z5, z6]) rfl ⟨by rw [HP.out]; rfl, ?_⟩
      exact (((((((hb.setCell (p := ⟨w.heap.size, 0, none⟩) (Nat.le_refl _) _).setCell (p := ⟨w.heap.size, 1, none⟩) (Nat.le_refl _) _).setCell (p := ⟨w.heap.size, 2, none⟩) (Nat.le_refl _) _).setCell (p := ⟨w.heap.size, 3, none⟩) (Nat.le_refl _) _).setCell (p := ⟨w.heap.size, 4, none⟩) (Nat.le_refl _) _).setCell (p := ⟨w.heap.size, 5, none⟩) (Nat.le_refl _) _).setCell (p := ⟨w.heap.size, 6, none⟩) (Nat.le_refl _) _)
end Go.Proofs.Ytmcckngodaeojaa
namespace Go.Proofs.Ytmcckngodaeojaa
open Go.RowKit Grade03

set_option maxHeartbeats 2000000 in
set_option maxRecDepth 100000 in
theorem first_any (g : Nat) (t : TypeId) (L : List Int) (x y : Nat) (w : World) (hA : ArrV I64 w g t L) (hL : L.length = 7) (hx : x < 7) (hy : y < 7) (B : Bool) (hB : decide (L.getD x 0 < L.getD y 0) = B) :
    Calls Try.prog 66 #[.pointer (some ⟨g, 0, none⟩), .int .i64 (x : Int), .int .i64 (y : Int)] w fun e w' => e = .returned (.bool B) ∧ Below w.heap.size w w' := by
  have y1 := hA.cell x 0 (by omega)
  have y2 := hA.cell y 0 (by omega)
  obtain ⟨u, hu⟩ : ∃ u, L.getD x 0 = u := ⟨_, rfl⟩
  obtain ⟨v, hv⟩ : ∃ v, L.getD y 0 = v := ⟨_, rfl⟩
  rw [hu, hv] at hB
  rw [hu] at y1
  rw [hv] at y2
  have q1 : (x : Int) < 7 := by omega
  have q2 : (y : Int) < 7 := by omega
  clear hu hv hA hL
  go_enter Try.func66, Try.ntmps66
  go_wp2_with fail
  go_quiet (fail)
  go_wp2
  go_ret
  exact ⟨rfl, belowN (Below.refl _ _) _⟩
set_option maxHeartbeats 2000000 in
set_option maxRecDepth 100000 in
/-- x is greater than y -/
theorem turned_any (g : Nat) (t : TypeId) (L : List Int) (x y : Nat) (w : World) (hA : ArrV I64 w g t L) (hL : L.length = 7) (hx : x < 7) (hyx : y < x) (B : Bool) (hB : decide (L.getD x 0 < L.getD y 0) = B) :
    Calls Try.prog 98 #[.pointer (some ⟨g, 0, none⟩), .int .i64 (x : Int), .int .i64 (y : Int)] w fun e w' => e = .returned (.bool B) ∧ Below w.heap.size w w' := by
  have q1 : ¬ (x : Int) < (y : Int) := by omega
  have q2 : (y : Int) < (x : Int) := by omega
  have HC := Lib.hid (first_any g t L x y w hA hL hx (by omega) B hB)
  go_enter Try.func98, Try.ntmps98
  go_wp2_with (go_at_call 66; refine HC.out.mono ?_; rintro e w2 ⟨rfl, hb⟩)
  go_ret
  exact ⟨rfl, hb⟩

set_option maxHeartbeats 4000000 in
set_option maxRecDepth 100000 in
theorem rCheck_any (a : Option Addr) (n c : Nat) (l : List Int) (w : World) (h : IsL w a n c l) : Calls Try.prog 26 #[.slice a n c] w fun e w' => e = .returned (.int .i64 (chkE l)) ∧ Below w.heap.size w w' := by
  have hcap := h.cap
  have hle := h.le
  have hl := h.len
  by_cases hs : sizeE n = 0
  · have hp := sizeE_pos hs
    obtain ⟨hn1, hn7⟩ := hp
    have HL := Lib.hid hl
    have HS : Hid (sizeE l.length = 0) := Lib.hid (by rw [hl]; exact hs)
    have e0 : ((n : Int) == 0) = false := by simp; omega
    have e7 : decide ((7 : Int) < (n : Int)) = false := by simp; omega
    have w0 : IntKind.i64.wrap ((n : Int) - 1) = (n : Int) - 1 := IntWalk.i64_in _ (by omega)
    clear hs hl
    go_enter Try.func26, Try.ntmps26
    go_wp2_with fail
    go_loopw [3] (fun vi wr => ∃ i : Nat, i ≤ n ∧ vi = .int .i64 (i : Int) ∧ Hid (∀ j, j < i → badI l j = 0) ∧ Below w.heap.size w wr) (fun vi _ => n - (intOf vi).toNat)
    case atStart => exact ⟨0, by omega, rfl, Lib.hid (fun j hj => by omega), Below.refl _ _⟩
    case round =>
      obtain ⟨i, hi, rfl, hD, hb⟩ := hrel
      by_cases hlt : i < n
      · have g := h.below hb
        have hpre := g.pre i c (by omega) (by omega) (Nat.le_refl _)
        have HPR := Lib.hid hpre
        obtain ⟨b, o, rfl, _, hc⟩ := g.cells (by omega)
        have y := hc i hlt
        have q1 : (i : Int) < (n : Int) := by omega
        have q2 : (i : Int) ≤ (c : Int) := by omega
        have q3 : (0 : Int) ≤ (i : Int) := by omega
        obtain ⟨v, hv⟩ : ∃ v, l.getD i 0 = v := ⟨_, rfl⟩
        rw [hv] at y
        have HV := Lib.hid hv
        have hsz := hb.size
        clear hc hv hpre
        by_cases hr : 0 ≤ v ∧ v ≤ (n : Int) - 1
        · have HM : Hid (badI l i = if v ∈ l.take i then 6 else 0) := Lib.hid (by unfold badI; rw [HV.out, HL.out, if_neg (by omega)])
          obtain ⟨m, hm⟩ : ∃ m, decide (v ∈ l.take i) = m := ⟨_, rfl⟩
          have HMM := Lib.hid hm
          clear hm
          go_wp2_with (go_at_call 72; refine (in_yes _ _ _ _ hr.1 hr.2).mono ?_; rintro e w9 ⟨rfl, rfl⟩)
          go_quiet ((go_at_call 73; exact Calls.quiet_of_same ((has_any _ i c (l.take i) v _ (HPR.out.drewN _)).mono fun _ _ h => ⟨by rw [h.1, HMM.out], h.2.symm⟩)))
          cases m with
          | true =>
            have HB : Hid (badI l i = 6) := Lib.hid (by rw [HM.out, if_pos (of_decide_eq_true HMM.out)])
            have HR : Hid ((6 : Int) = chkE l) := Lib.hid (by rw [chkE_hit HS.out (by rw [HL.out]; exact hlt) hD.out (by rw [HB.out]; decide), HB.out])
            go_wp2
            go_ret
            exact ⟨ret_i HR.out, belowN hb _⟩
          | false =>
            have HB : Hid (badI l i = 0) := Lib.hid (by rw [HM.out, if_neg (of_decide_eq_false HMM.out)])
            have hD2 : Hid (∀ j, j < i + 1 → badI l j = 0) := Lib.hid (fun j hj => by
              by_cases e : j = i
              · rw [e]; exact HB.out
              · exact hD.out j (by omega))
            go_wp2
            go_roundw
            case rel => first | exact ⟨i + 1, by omega, by go_num, hD2, belowN hb _⟩ | ((repeat apply Exists.intro); exact ⟨⟨i + 1, by omega, by go_num, hD2, belowN hb _⟩, rfl⟩)
            case measure => simp [intOf]; omega
        · have HB : Hid (badI l i = 2) := Lib.hid (by unfold badI; rw [HV.out, HL.out, if_pos (by omega)])
          have HR : Hid ((2 : Int) = chkE l) := Lib.hid (by rw [chkE_hit HS.out (by rw [HL.out]; exact hlt) hD.out (by rw [HB.out]; decide), HB.out])
          go_wp2_with (go_at_call 72; refine (in_no _ _ _ _ hr).mono ?_; rintro e w9 ⟨rfl, rfl⟩)
          go_ret
          exact ⟨ret_i HR.out, hb⟩
      · obtain rfl : i = n := by omega
        have HR : Hid ((0 : Int) = chkE l) := Lib.hid (by rw [chkE_ok HS.out (by rw [HL.out]; exact hD.out)])
        go_wp2_with fail
        go_ret
        exact ⟨ret_i HR.out, hb⟩
  · have hs7 : n = 0 ∨ 7 < n := by
      unfold sizeE at hs
      by_cases h0 : n = 0
      · exact .inl h0
      · rw [if_neg h0] at hs
        by_cases h7 : 7 < n
        · exact .inr h7
        · rw [if_neg h7] at hs; exact absurd rfl hs
    have HR0 : Hid (sizeE n = chkE l) := Lib.hid (by rw [chkE_size (by rw [hl]; exact hs), hl])
    clear hs hl
    rcases hs7 with h0 | h7
    · have HR : Hid ((4 : Int) = chkE l) := Lib.hid (by rw [← HR0.out, sizeE, if_pos h0])
      have e0 : ((n : Int) == 0) = true := by simp; exact h0
      clear h0
      go_enter Try.func26, Try.ntmps26
      go_wp2_with fail
      go_ret
      exact ⟨ret_i HR.out, Below.refl _ _⟩
    · have HR : Hid ((3 : Int) = chkE l) := Lib.hid (by rw [← HR0.out, sizeE, if_neg (by omega), if_pos h7])
      have e0 : ((n : Int) == 0) = false := by simp; omega
      have e7 : decide ((7 : Int) < (n : Int)) = true := by simp; omega
      clear h7
      go_enter Try.func26, Try.ntmps26
      go_wp2_with fail
      go_ret
      exact ⟨ret_i HR.out, Below.refl _ _⟩
end Go.Proofs.Ytmcckngodaeojaa
