/- Walks of chapter 3 at the top seat: checks and places. -/
import Derived.Test.YtpfaoagddgcmbaaDoorRows
import Derived.Test.YtpfaoagddgcmbaaDoorLib8
import Derived.Test.YtpfaoagddgcmbaaDoorPa
import Derived.IntWalk
namespace Go.Proofs.YtpfaoagddgcmbaaDoor
open Go.RowKit Grade03
theorem elem3 : (Tryd.prog.info? 3).map (fun i => (i.zero, i.size, i.bytes)) = some (some (.int .i64 0), 1, 8) := by kernel_rfl
theorem list_any (a : Option Addr) (n c : Nat) (w : World) : Calls Tryd.prog 57 #[.slice a n c] w fun e w' => e = .returned (.slice a n c) ∧ w = w' := by
  go_enter Tryd.func57, Tryd.ntmps57
  go_wp2
  go_ret
  exact ⟨rfl, rfl⟩
set_option maxHeartbeats 400000 in
theorem same_yes (a b : Option Addr) (n c n' c' : Nat) (l l' : List Int) (w : World) (h : IsL w a n c l) (h' : IsL w b n' c' l') (he : l = l') :
    Calls Tryd.prog 24 #[.slice a n c, .slice b n' c'] w fun e w' => e = .returned (.bool true) ∧ Below w.heap.size w w' := by
  subst he
  obtain rfl : n' = n := by rw [← h.len, ← h'.len]
  have hcap := h.cap
  have hle := h.le
  have hcap' := h'.cap
  have hle' := h'.le
  have hr : ((n' : Int) != (n' : Int)) = false := by simp
  go_enter Tryd.func24, Tryd.ntmps24
  go_wp2
  go_loopw [13] (fun vi wr => ∃ k : Nat, k ≤ n' ∧ vi = .int .i64 k ∧ Below w.heap.size w wr) (fun vi _ => n' - (intOf vi).toNat)
  case atStart => exact ⟨0, by omega, rfl, Below.refl _ _⟩
  case round =>
    obtain ⟨k, hk, rfl, hb⟩ := hrel
    by_cases hlt : k < n'
    · obtain ⟨b1, o1, rfl, hb1, hc1⟩ := h.cells (by omega)
      obtain ⟨b2, o2, rfl, hb2, hc2⟩ := h'.cells (by omega)
      have x1 := (hb.cell (p := ⟨b1, o1 + k, none⟩) hb1).trans (hc1 k hlt)
      have x2 := (hb.cell (p := ⟨b2, o2 + k, none⟩) hb2).trans (hc2 k hlt)
      clear hc1 hc2
      generalize l.getD k 0 = x at *
      have q1 : (k : Int) < (n' : Int) := by omega
      have hx : (x != x) = false := by simp
      go_wp2
      go_quiet (fail)
      go_wp2
      go_roundw
      case rel => exact ⟨k + 1, by omega, by go_num, belowN hb _⟩
      case measure => simp [intOf]; omega
    · go_wp2
      go_ret
      exact ⟨rfl, hb⟩
set_option maxHeartbeats 4000000 in
set_option maxRecDepth 100000 in
theorem Check_any (a : Option Addr) (n c : Nat) (l : List Int) (w : World) (h : IsL w a n c l) : Calls Tryd.prog 16 #[.slice a n c] w fun e w' => e = .returned (.int .i64 (chkE l)) ∧ Below w.heap.size w w' := by
  have hcap := h.cap
  have hle := h.le
  have hl := h.len
  by_cases hs : sizeE n = 0
  · have hp := sizeE_pos hs
    obtain ⟨hn1, hn7⟩ := hp
    have HL := Lib.hid hl
    have HS : Hid (sizeE l.length = 0) := Lib.hid (by rw [hl]; exact hs)
    have e0 : ((n : Int) == 0) = false := by simp; omega
    have e7 : decide ((7 : Int) < (n : Int)) = false := by simp; omega
    clear hs hl
    go_enter Tryd.func16, Tryd.ntmps16
    go_wp2_with fail
    go_loopw [17] (fun vi wr => ∃ i : Nat, i ≤ n ∧ vi = .int .i64 (i : Int) ∧ Hid (∀ j, j < i → badI l j = 0) ∧ Hid (ArrV Value.bool wr w.heap.size 84 (metL l i)) ∧ Below w.heap.size w wr) (fun vi _ => n - (intOf vi).toNat)
    case atStart => exact ⟨0, by omega, rfl, Lib.hid (fun j hj => by omega), Lib.hid (ArrV.new w _ _ _ _ rfl (by rw [metL_zero]; rfl)), (Below.refl _ w).alloc (Nat.le_refl _) _⟩
    case round =>
      obtain ⟨i, hi, rfl, hD, hA, hb⟩ := hrel
      by_cases hlt : i < n
      · have g := h.below hb
        obtain ⟨b, o, rfl, _, hc⟩ := g.cells (by omega)
        have y := hc i hlt
        have q1 : (i : Int) < (n : Int) := by omega
        obtain ⟨v, hv⟩ : ∃ v, l.getD i 0 = v := ⟨_, rfl⟩
        rw [hv] at y
        have HV := Lib.hid hv
        have hsz := hb.size
        clear hc hv
        by_cases hlo : v < 0
        · have d1 : decide (v < 0) = true := by simpa using hlo
          have HB : Hid (badI l i = 2) := Lib.hid (by unfold badI; rw [HV.out, if_pos (.inl hlo)])
          have HR : Hid ((2 : Int) = chkE l) := Lib.hid (by rw [chkE_hit HS.out (by rw [HL.out]; exact hlt) hD.out (by rw [HB.out]; decide), HB.out])
          go_wp2_with fail
          go_ret
          exact ⟨ret_i HR.out, hb⟩
        · have d1 : decide (v < 0) = false := by simpa using hlo
          by_cases hhi : (n : Int) ≤ v
          · have d2 : decide ((n : Int) ≤ v) = true := by simpa using hhi
            have HB : Hid (badI l i = 2) := Lib.hid (by unfold badI; rw [HV.out, HL.out, if_pos (.inr hhi)])
            have HR : Hid ((2 : Int) = chkE l) := Lib.hid (by rw [chkE_hit HS.out (by rw [HL.out]; exact hlt) hD.out (by rw [HB.out]; decide), HB.out])
            go_wp2_with fail
            go_ret
            exact ⟨ret_i HR.out, hb⟩
          · have d2 : decide ((n : Int) ≤ v) = false := by simpa using hhi
            obtain ⟨x, rfl⟩ : ∃ x : Nat, v = (x : Int) := ⟨v.toNat, by omega⟩
            have hx7 : x < 7 := by omega
            have hxn : (x : Int) < 7 := by omega
            have m0 := hA.out.cell x false (by rw [metL_len]; exact hx7)
            have m1 := hA.out.frozen x
            have hset := metL_set l i x (by rw [HL.out]; exact hlt) HV.out
            rw [metL_get l i x hx7] at m0
            have HM : Hid (badI l i = if (x : Int) ∈ l.take i then 6 else 0) := Lib.hid (by unfold badI; rw [HV.out, HL.out, if_neg (by omega)])
            by_cases hm : (x : Int) ∈ l.take i
            · have d3 : decide ((x : Int) ∈ l.take i) = true := decide_eq_true hm
              rw [d3] at m0
              have HB : Hid (badI l i = 6) := Lib.hid (by rw [HM.out, if_pos hm])
              have HR : Hid ((6 : Int) = chkE l) := Lib.hid (by rw [chkE_hit HS.out (by rw [HL.out]; exact hlt) hD.out (by rw [HB.out]; decide), HB.out])
              clear d3 hm hset
              go_wp2_with fail
              go_ret
              exact ⟨ret_i HR.out, hb⟩
            · have d3 : decide ((x : Int) ∈ l.take i) = false := decide_eq_false hm
              rw [d3] at m0
              have HB : Hid (badI l i = 0) := Lib.hid (by rw [HM.out, if_neg hm])
              have hD2 : Hid (∀ j, j < i + 1 → badI l j = 0) := Lib.hid (fun j hj => by
                by_cases e : j = i
                · rw [e]; exact HB.out
                · exact hD.out j (by omega))
              have hs1 := hA.out.set x true
              rw [hset] at hs1
              have HA2 := Lib.hid hs1
              have hb2 : Below w.heap.size w _ := hb.setCell (p := ⟨w.heap.size, x, none⟩) (Nat.le_refl _) (.bool true)
              clear d3 hm hset hs1 hA
              go_wp2_with fail
              go_roundw
              case rel => first | exact ⟨i + 1, by omega, by go_num, hD2, HA2, hb2⟩ | ((repeat apply Exists.intro); exact ⟨⟨i + 1, by omega, by go_num, hD2, HA2, hb2⟩, rfl⟩)
              case measure => simp [intOf]; omega
      · obtain rfl : i = n := by omega
        have HR : Hid ((0 : Int) = chkE l) := Lib.hid (by rw [chkE_ok HS.out (by rw [HL.out]; exact hD.out)])
        go_wp2_with fail
        go_ret
        exact ⟨ret_i HR.out, hb⟩
  · obtain ⟨v, hv⟩ : ∃ v, sizeE n = v := ⟨_, rfl⟩
    have HR : Hid (v = chkE l) := Lib.hid (by rw [chkE_size (by rw [hl]; exact hs), hl, hv])
    have hv2 := hv
    have hs7 : n = 0 ∨ 7 < n := by
      unfold sizeE at hs
      by_cases h0 : n = 0
      · exact .inl h0
      · rw [if_neg h0] at hs
        by_cases h7 : 7 < n
        · exact .inr h7
        · rw [if_neg h7] at hs; exact absurd rfl hs
    unfold sizeE at hv2
    clear hs hl hv
    by_cases h0 : n = 0
    · rw [if_pos h0] at hv2
      subst hv2
      have e0 : ((n : Int) == 0) = true := by simp; exact h0
      clear h0
      go_enter Tryd.func16, Tryd.ntmps16
      go_wp2_with fail
      go_ret
      exact ⟨ret_i HR.out, Below.refl _ _⟩
    · rw [if_neg h0] at hv2
      by_cases h7 : 7 < n
      · rw [if_pos h7] at hv2
        subst hv2
        have e0 : ((n : Int) == 0) = false := by simp; exact h0
        have e7 : decide ((7 : Int) < (n : Int)) = true := by simp; omega
        clear h0 h7
        go_enter Tryd.func16, Tryd.ntmps16
        go_wp2_with fail
        go_ret
        exact ⟨ret_i HR.out, Below.refl _ _⟩
      · exfalso; omega
end Go.Proofs.YtpfaoagddgcmbaaDoor
namespace Go.Proofs.YtpfaoagddgcmbaaDoor
open Go.RowKit Grade03
abbrev I64 : Int → Value := Value.int .i64
set_option maxHeartbeats 4000000 in
set_option maxRecDepth 100000 in
theorem placed_any (a : Option Addr) (n c : Nat) (l : List Int) (w : World) (h : IsL w a n c l) (hO : IsO l) (h7 : n ≤ 7) : Calls Tryd.prog 82 #[.slice a n c] w fun e w' => e = .returned (.agg ((plL l).map I64).toArray) ∧ Below w.heap.size w w' := by
  have hcap := h.cap
  have hle := h.le
  have hl := h.len
  have HL := Lib.hid hl
  have HO := Lib.hid hO
  clear hl hO
  go_enter Tryd.func82, Tryd.ntmps82
  go_wp2_with fail
  go_loopw [8] (fun vi wr => ∃ i : Nat, i ≤ n ∧ vi = .int .i64 (i : Int) ∧ Hid (ArrV I64 wr (w.heap.size + 1) 120 (plK l i)) ∧ Below w.heap.size w wr ∧ w.heap.size + 1 < wr.heap.size ∧ wr.heap[w.heap.size]? = some (.cells ((List.replicate 7 0).map I64).toArray 120 (0, 0))) (fun vi _ => n - (intOf vi).toNat)
  case atStart => exact ⟨0, by omega, rfl, Lib.hid (ArrV.new _ _ _ _ _ (by simp) (by rfl)), ((Below.refl _ w).alloc (Nat.le_refl _) _).alloc (by simp) _, by simp, by rw [heap_alloc_old _ _ (by simp)]; exact heap_alloc_new _ _⟩
  case round =>
    obtain ⟨i, hi, rfl, hA, hb, hz, h0⟩ := hrel
    have H0 := Lib.hid h0
    clear h0
    by_cases hlt : i < n
    · have g := h.below hb
      obtain ⟨b, o, rfl, _, hc⟩ := g.cells (by omega)
      have y := hc i hlt
      have q1 : (i : Int) < (n : Int) := by omega
      have hlo := HO.out.lo i (by rw [HL.out]; exact hlt)
      rw [HL.out] at hlo
      obtain ⟨x, hx⟩ : ∃ x : Nat, l.getD i 0 = (x : Int) := ⟨(l.getD i 0).toNat, by omega⟩
      rw [hx] at y hlo
      have HS : Hid (plK l (i + 1) = (plK l i).set x (i : Int)) := Lib.hid (by rw [plK, hx, Int.toNat_natCast])
      have hx7 : (x : Int) < 7 := by omega
      have m0 := hA.out.cell x 0 (by rw [plK_len]; omega)
      have m1 := hA.out.frozen x
      have HA2 : Hid (ArrV I64 (wr.setCell ⟨w.heap.size + 1, x, none⟩ (.int .i64 (i : Int))) (w.heap.size + 1) 120 (plK l (i + 1))) := Lib.hid (by rw [HS.out]; exact hA.out.set x (i : Int))
      have hb2 : Below w.heap.size w _ := hb.setCell (p := ⟨w.heap.size + 1, x, none⟩) (Nat.le_succ _) (.int .i64 (i : Int))
      have h02 : (wr.setCell ⟨w.heap.size + 1, x, none⟩ (.int .i64 (i : Int))).heap[w.heap.size]? = some (.cells ((List.replicate 7 0).map I64).toArray 120 (0, 0)) := by
        rw [show (wr.setCell ⟨w.heap.size + 1, x, none⟩ (.int .i64 (i : Int))).heap[w.heap.size]? = wr.heap[w.heap.size]? by simp [World.setCell, Array.getElem?_modify]]
        exact H0.out
      have H02 := Lib.hid h02
      clear hc hx hA h02 hlo
      go_wp2_with fail
      go_roundw
      case rel => first | exact ⟨i + 1, by omega, by go_num, HA2, hb2, by simpa [World.setCell] using hz, H02.out⟩ | ((repeat apply Exists.intro); exact ⟨⟨i + 1, by omega, by go_num, HA2, hb2, by simpa [World.setCell] using hz, H02.out⟩, rfl⟩)
      case measure => simp [intOf]; omega
    · obtain rfl : i = n := by omega
      obtain ⟨p0, p1, p2, p3, p4, p5, p6, hp⟩ : ∃ p0 p1 p2 p3 p4 p5 p6 : Int, plK l i = [p0, p1, p2, p3, p4, p5, p6] := by
        have := plK_len l i
        match hh : plK l i, this with
        | [p0, p1, p2, p3, p4, p5, p6], _ => exact ⟨p0, p1, p2, p3, p4, p5, p6, rfl⟩
      have HP : Hid (plL l = [p0, p1, p2, p3, p4, p5, p6]) := Lib.hid (by rw [plL, HL.out, hp])
      have hA2 := hA.out
      rw [hp] at hA2
      have k0 := hA2.cell 0 0 (by simp)
      have k1 := hA2.cell 1 0 (by simp)
      have k2 := hA2.cell 2 0 (by simp)
      have k3 := hA2.cell 3 0 (by simp)
      have k4 := hA2.cell 4 0 (by simp)
      have k5 := hA2.cell 5 0 (by simp)
      have k6 := hA2.cell 6 0 (by simp)
      simp only [List.getD, List.getElem?_cons_zero, List.getElem?_cons_succ, Option.getD_some] at k0 k1 k2 k3 k4 k5 k6
      clear hA hA2 hp
      have hz0 : ArrV I64 wr w.heap.size 120 (List.replicate 7 0) := H0.out
      have z0 := hz0.cell 0 0 (by decide)
      have z1 := hz0.cell 1 0 (by decide)
      have z2 := hz0.cell 2 0 (by decide)
      have z3 := hz0.cell 3 0 (by decide)
      have z4 := hz0.cell 4 0 (by decide)
      have z5 := hz0.cell 5 0 (by decide)
      have z6 := hz0.cell 6 0 (by decide)
      have f0 := hz0.frozen 0
      have f1 := hz0.frozen 1
      have f2 := hz0.frozen 2
      have f3 := hz0.frozen 3
      have f4 := hz0.frozen 4
      have f5 := hz0.frozen 5
      have f6 := hz0.frozen 6
      clear hz0
      go_wp2_with fail
      refine bodyPost_ret (v := .agg #[I64 p0, I64 p1, I64 p2, I64 p3, I64 p4, I64 p5, I64 p6]) (by simp [results, Tryd.results82, go_sem, z0, z1, z2, z3, z4, z5, z6]) rfl ⟨by rw [HP.out]; rfl, ?_⟩
      exact (((((((hb.setCell (p := ⟨w.heap.size, 0, none⟩) (Nat.le_refl _) _).setCell (p := ⟨w.heap.size, 1, none⟩) (Nat.le_refl _) _).setCell (p := ⟨w.heap.size, 2, none⟩) (Nat.le_refl _) _).setCell (p := ⟨w.heap.size, 3, none⟩) (Nat.le_refl _) _).setCell (p := ⟨w.heap.size, 4, none⟩) (Nat.le_refl _) _).setCell (p := ⟨w.heap.size, 5, none⟩) (Nat.le_refl _) _).setCell (p := ⟨w.heap.size, 6, none⟩) (Nat.le_refl _) _)
end Go.Proofs.YtpfaoagddgcmbaaDoor
namespace Go.Proofs.YtpfaoagddgcmbaaDoor
open Go.RowKit Grade03
set_option maxHeartbeats 2000000 in
set_option maxRecDepth 100000 in
theorem first_any (g : Nat) (t : TypeId) (L : List Int) (x y : Nat) (w : World) (hA : ArrV I64 w g t L) (hL : L.length = 7) (hx : x < 7) (hy : y < 7) (B : Bool) (hB : decide (L.getD x 0 < L.getD y 0) = B) :
    Calls Tryd.prog 83 #[.pointer (some ⟨g, 0, none⟩), .int .i64 (x : Int), .int .i64 (y : Int)] w fun e w' => e = .returned (.bool B) ∧ Below w.heap.size w w' := by
  have y1 := hA.cell x 0 (by omega)
  have y2 := hA.cell y 0 (by omega)
  obtain ⟨u, hu⟩ : ∃ u, L.getD x 0 = u := ⟨_, rfl⟩
  obtain ⟨v, hv⟩ : ∃ v, L.getD y 0 = v := ⟨_, rfl⟩
  rw [hu, hv] at hB
  rw [hu] at y1
  rw [hv] at y2
  have q1 : (x : Int) < 7 := by omega
  have q2 : (y : Int) < 7 := by omega
  clear hu hv hA hL
  go_enter Tryd.func83, Tryd.ntmps83
  go_wp2_with fail
  go_quiet (fail)
  go_wp2
  go_ret
  exact ⟨rfl, belowN (Below.refl _ _) _⟩
end Go.Proofs.YtpfaoagddgcmbaaDoor
namespace Go.Proofs.YtpfaoagddgcmbaaDoor
open Go.RowKit Grade03
/-- a slice, and what it reads as -/
structure Sl where
  a : Option Addr
  n : Nat
  c : Nat
  l : List Int
def Sl.v (s : Sl) : Value := .slice s.a s.n s.c
def sl0 : Sl := ⟨none, 0, 0, []⟩
/-- block g holds slices that read as lists -/
structure RowsL (w : World) (g : Nat) (L : List Sl) : Prop where
  arr : ArrV Sl.v w g 23 L
  is : ∀ i, i < L.length → IsL w (L.getD i sl0).a (L.getD i sl0).n (L.getD i sl0).c (L.getD i sl0).l
theorem RowsL.below {w w' : World} {g : Nat} {L : List Sl} (h : RowsL w g L) (hb : Below w.heap.size w w') : RowsL w' g L := ⟨h.arr.below hb, fun i hi => (h.is i hi).below hb⟩
/-- the first error -/
def chkA : List Sl → Int
  | [] => 0
  | s :: L => if chkE s.l ≠ 0 then chkE s.l else chkA L
def chkdE (L : List Sl) : Int := if chkA L ≠ 0 then chkA L else if L.any (fun s => s.n != (L.getD 0 sl0).n) then 5 else 0
theorem chkA_hit : ∀ (L : List Sl) (i : Nat), i < L.length → (∀ j, j < i → chkE (L.getD j sl0).l = 0) → chkE (L.getD i sl0).l ≠ 0 → chkA L = chkE (L.getD i sl0).l
  | s :: L, 0, _, _, h => by simp [List.getD] at h; simp [chkA, h, List.getD]
  | s :: L, i + 1, hi, h1, h2 => by
    have h0 := h1 0 (by omega)
    have ih := chkA_hit L i (by simpa using hi) (fun j hj => by have := h1 (j + 1) (by omega); simpa using this) (by simpa using h2)
    simp [List.getD] at h0
    rw [chkA, if_neg (by simp [h0]), ih]
    simp [List.getD]
theorem chkA_ok : ∀ (L : List Sl), (∀ j, j < L.length → chkE (L.getD j sl0).l = 0) → chkA L = 0
  | [], _ => rfl
  | s :: L, h => by
    have h0 := h 0 (by simp)
    simp [List.getD] at h0
    rw [chkA, if_neg (by simp [h0])]
    exact chkA_ok L fun j hj => by have := h (j + 1) (by simpa using hj); simpa using this
set_option maxHeartbeats 2000000 in
set_option maxRecDepth 100000 in
theorem len_any (p g m c0 n c : Nat) (a : Option Addr) (L : List Sl) (w : World) (hp : w.cell? ⟨p, 0, none⟩ = some (.slice (some ⟨g, 0, none⟩) m c0)) (hR : RowsL w g L) (hm : L.length = m) (hm1 : 1 ≤ m) (B : Bool) (hB : (n != (L.getD 0 sl0).n) = B) :
    Calls Tryd.prog 112 #[.slice a n c, .pointer (some ⟨p, 0, none⟩)] w fun e w' => e = .returned (.bool B) ∧ w = w' := by
  have y := hR.arr.cell 0 sl0 (by omega)
  obtain ⟨s, hs⟩ : ∃ s, L.getD 0 sl0 = s := ⟨_, rfl⟩
  rw [hs] at y hB
  obtain ⟨sa, sn, sc, sll⟩ := s
  rw [show Sl.v ⟨sa, sn, sc, sll⟩ = .slice sa sn sc from rfl] at y
  have e1 : ((n : Int) != (sn : Int)) = B := by
    rw [← hB]
    simp only [bne]
    congr 1
    rw [Bool.eq_iff_iff, beq_iff_eq, beq_iff_eq]
    constructor <;> intro h <;> omega
  have q1 : (0 : Int) < (m : Int) := by omega
  have q2 : 0 < m := hm1
  clear hR hs hB hm
  go_enter Tryd.func112, Tryd.ntmps112
  go_wp2_with fail
  go_ret
  exact ⟨rfl, rfl⟩
/-- the lengths are not all the first one's -/
def anyL (L : List Sl) : Bool := L.any fun s => s.n != (L.getD 0 sl0).n
theorem anyL_hit (L : List Sl) (i : Nat) (hi : i < L.length) (h : ((L.getD i sl0).n != (L.getD 0 sl0).n) = true) : anyL L = true :=
  List.any_eq_true.2 ⟨L.getD i sl0, by rw [List.getD, List.getElem?_eq_getElem hi]; exact List.getElem_mem hi, h⟩
theorem anyL_no (L : List Sl) (h : ∀ i, i < L.length → ((L.getD i sl0).n != (L.getD 0 sl0).n) = false) : anyL L = false := by
  rw [anyL, List.any_eq_false]
  intro s hs
  obtain ⟨i, hi, rfl⟩ := List.mem_iff_getElem.1 hs
  have := h i hi
  rw [List.getD, List.getElem?_eq_getElem hi] at this
  simpa using this
def IdxR (L : List Sl) (w : World) (e : Ending) (w' : World) : Prop := ∃ r : Int, e = .returned (.int .i64 r) ∧ decide (0 ≤ r) = anyL L ∧ w = w'
set_option maxHeartbeats 2000000 in
set_option maxRecDepth 100000 in
theorem IndexFunc_any (p g m c0 : Nat) (L : List Sl) (w : World) (hp : w.cell? ⟨p, 0, none⟩ = some (.slice (some ⟨g, 0, none⟩) m c0)) (hR : RowsL w g L) (hm : L.length = m) (hm1 : 1 ≤ m) (hm9 : m ≤ 9) :
    Calls Tryd.prog 125 #[.slice (some ⟨g, 0, none⟩) m c0, .func (.func 112) #[] #[.pointer (some ⟨p, 0, none⟩)]] w (IdxR L w) := by
  have HM := Lib.hid hm
  clear hm
  go_enter Tryd.func125, Tryd.ntmps125
  go_wp2_with fail
  go_loopw [8] (fun vi wr => ∃ i : Nat, i ≤ m ∧ vi = .int .i64 (i : Int) ∧ Hid (∀ j, j < i → ((L.getD j sl0).n != (L.getD 0 sl0).n) = false) ∧ w = wr) (fun vi _ => m - (intOf vi).toNat)
  case atStart => exact ⟨0, by omega, rfl, Lib.hid (fun j hj => by omega), rfl⟩
  case round =>
    obtain ⟨i, hi, rfl, hD, rfl⟩ := hrel
    by_cases hlt : i < m
    · have y := hR.arr.cell i sl0 (by rw [HM.out]; exact hlt)
      have q1 : (i : Int) < (m : Int) := by omega
      obtain ⟨B, hB⟩ : ∃ B, ((L.getD i sl0).n != (L.getD 0 sl0).n) = B := ⟨_, rfl⟩
      have HC : Hid (∀ a c, Calls Tryd.prog 112 #[.slice a (L.getD i sl0).n c, .pointer (some ⟨p, 0, none⟩)] w fun e w' => e = .returned (.bool B) ∧ w = w') := Lib.hid (fun a c => len_any p g m c0 _ c a L w hp hR HM.out hm1 B hB)
      have HB := Lib.hid hB
      obtain ⟨s, hs⟩ : ∃ s, L.getD i sl0 = s := ⟨_, rfl⟩
      rw [hs] at y HC
      obtain ⟨sa, sn, sc, sll⟩ := s
      rw [show Sl.v ⟨sa, sn, sc, sll⟩ = .slice sa sn sc from rfl] at y
      clear hs hB
      cases B with
      | true =>
        have HR : Hid (anyL L = true) := Lib.hid (anyL_hit L i (by rw [HM.out]; exact hlt) HB.out)
        go_wp2_with (go_at_call 112; refine (HC.out _ _).mono ?_; rintro e w9 ⟨rfl, rfl⟩)
        go_ret
        exact ⟨_, rfl, by rw [HR.out]; simp, rfl⟩
      | false =>
        have hD2 : Hid (∀ j, j < i + 1 → ((L.getD j sl0).n != (L.getD 0 sl0).n) = false) := Lib.hid (fun j hj => by
          by_cases e : j = i
          · rw [e]; exact HB.out
          · exact hD.out j (by omega))
        go_wp2_with (go_at_call 112; refine (HC.out _ _).mono ?_; rintro e w9 ⟨rfl, rfl⟩)
        go_roundw
        case rel => first | exact ⟨i + 1, by omega, by go_num, hD2, by first | trivial | rfl⟩ | ((repeat apply Exists.intro); exact ⟨⟨i + 1, by omega, by go_num, hD2, by first | trivial | rfl⟩, rfl⟩)
        case measure => simp [intOf]; omega
    · obtain rfl : i = m := by omega
      have HR : Hid (anyL L = false) := Lib.hid (anyL_no L (by rw [HM.out]; exact hD.out))
      go_wp2_with fail
      go_ret
      exact ⟨_, rfl, by rw [HR.out]; rfl, rfl⟩
theorem ContainsFunc_any (p g m c0 : Nat) (L : List Sl) (w : World) (hp : w.cell? ⟨p, 0, none⟩ = some (.slice (some ⟨g, 0, none⟩) m c0)) (hR : RowsL w g L) (hm : L.length = m) (hm1 : 1 ≤ m) (hm9 : m ≤ 9) :
    Calls Tryd.prog 111 #[.slice (some ⟨g, 0, none⟩) m c0, .func (.func 112) #[] #[.pointer (some ⟨p, 0, none⟩)]] w fun e w' => e = .returned (.bool (anyL L)) ∧ w = w' := by
  have HC := Lib.hid (IndexFunc_any p g m c0 L w hp hR hm hm1 hm9)
  obtain ⟨B, hB⟩ : ∃ B, anyL L = B := ⟨_, rfl⟩
  have HB := Lib.hid hB
  rw [hB]
  clear hp hR hB hm
  go_enter Tryd.func111, Tryd.ntmps111
  go_wp2_with (go_at_call 125; refine HC.out.mono ?_; rintro e w9 ⟨r, rfl, hr, rfl⟩; rw [HB.out] at hr)
  go_ret
  exact ⟨rfl, rfl⟩
set_option maxHeartbeats 4000000 in
set_option maxRecDepth 100000 in
theorem checked_any (g m c0 : Nat) (L : List Sl) (w : World) (hR : RowsL w g L) (hm : L.length = m) (hm1 : 1 ≤ m) (hm9 : m ≤ 9) :
    Calls Tryd.prog 81 #[.slice (some ⟨g, 0, none⟩) m c0] w fun e w' => e = .returned (.int .i64 (chkdE L)) ∧ Below w.heap.size w w' := by
  have HM := Lib.hid hm
  have hcell : (w.alloc (.cells #[.slice (some ⟨g, 0, none⟩) m c0] 156)).cell? ⟨w.heap.size, 0, none⟩ = some (.slice (some ⟨g, 0, none⟩) m c0) := by simp [go_sem]
  have HCE := Lib.hid hcell
  clear hm hcell
  go_enter Tryd.func81, Tryd.ntmps81
  go_wp2_with fail
  go_loopw [8] (fun vi wr => ∃ i : Nat, i ≤ m ∧ vi = .int .i64 (i : Int) ∧ Hid (∀ j, j < i → chkE (L.getD j sl0).l = 0) ∧ Below (w.heap.size + 1) (w.alloc (.cells #[.slice (some ⟨g, 0, none⟩) m c0] 156)) wr) (fun vi _ => m - (intOf vi).toNat)
  case atStart => exact ⟨0, by omega, rfl, Lib.hid (fun j hj => by omega), Below.refl _ _⟩
  case round =>
    obtain ⟨i, hi, rfl, hD, hb⟩ := hrel
    have hsz := hb.size
    simp only [World.size_alloc] at hsz
    have hb0 : Below w.heap.size w wr := ((Below.refl _ w).alloc (Nat.le_refl _) _).trans (hb.mono (Nat.le_succ _))
    have hR2 := hR.below hb0
    by_cases hlt : i < m
    · have y := hR2.arr.cell i sl0 (by rw [HM.out]; exact hlt)
      have hI := hR2.is i (by rw [HM.out]; exact hlt)
      have q1 : (i : Int) < (m : Int) := by omega
      obtain ⟨e0, he0⟩ : ∃ e0, chkE (L.getD i sl0).l = e0 := ⟨_, rfl⟩
      have HE := Lib.hid he0
      have HC : Hid (Calls Tryd.prog 16 #[(L.getD i sl0).v] wr fun e w' => e = .returned (.int .i64 e0) ∧ Below wr.heap.size wr w') := Lib.hid (by
        have := Check_any _ _ _ _ wr hI
        rw [he0] at this
        exact this)
      obtain ⟨s, hs⟩ : ∃ s, L.getD i sl0 = s := ⟨_, rfl⟩
      rw [hs] at y HC
      obtain ⟨sa, sn, sc, sll⟩ := s
      rw [show Sl.v ⟨sa, sn, sc, sll⟩ = .slice sa sn sc from rfl] at y HC
      clear hs he0 hI
      by_cases hz : e0 = 0
      · have hD2 : Hid (∀ j, j < i + 1 → chkE (L.getD j sl0).l = 0) := Lib.hid (fun j hj => by
          by_cases e : j = i
          · rw [e, HE.out, hz]
          · exact hD.out j (by omega))
        subst hz
        go_wp2_with (go_at_call 16; refine HC.out.mono ?_; rintro e w9 ⟨rfl, b9⟩)
        have hb2 := hb.trans (b9.mono (by omega))
        clear b9
        go_roundw
        case rel => first | exact ⟨i + 1, by omega, by go_num, hD2, hb2⟩ | ((repeat apply Exists.intro); exact ⟨⟨i + 1, by omega, by go_num, hD2, hb2⟩, rfl⟩)
        case measure => simp [intOf]; omega
      · have e1 : (e0 != 0) = true := by simpa using hz
        have e2 : (e0 == 0) = false := by simpa using hz
        have HR : Hid (e0 = chkdE L) := Lib.hid (by
          have := chkA_hit L i (by rw [HM.out]; exact hlt) hD.out (by rw [HE.out]; exact hz)
          rw [chkdE, if_pos (by rw [this, HE.out]; exact hz), this, HE.out])
        clear hz
        go_wp2_with (go_at_call 16; refine HC.out.mono ?_; rintro e w9 ⟨rfl, b9⟩)
        go_ret
        exact ⟨ret_i HR.out, hb0.trans (b9.mono (by omega))⟩
    · obtain rfl : i = m := by omega
      have hc2 := (hb.cell (p := ⟨w.heap.size, 0, none⟩) (Nat.lt_succ_self _)).trans HCE.out
      have HC := Lib.hid (ContainsFunc_any w.heap.size g i c0 L wr hc2 hR2 HM.out hm1 hm9)
      obtain ⟨B, hB⟩ : ∃ B, anyL L = B := ⟨_, rfl⟩
      have HR : Hid (chkdE L = if B then 5 else 0) := Lib.hid (by
        rw [chkdE, if_neg (fun h => h (chkA_ok L (by rw [HM.out]; exact hD.out))), ← hB]; rfl)
      rw [hB] at HC
      clear hB hR2
      cases B with
      | true =>
        have HR2 : Hid ((5 : Int) = chkdE L) := Lib.hid (by rw [HR.out]; rfl)
        go_wp2_with (go_at_call 111; refine HC.out.mono ?_; rintro e w9 ⟨rfl, rfl⟩)
        go_ret
        exact ⟨ret_i HR2.out, hb0⟩
      | false =>
        have HR2 : Hid ((0 : Int) = chkdE L) := Lib.hid (by rw [HR.out]; rfl)
        go_wp2_with (go_at_call 111; refine HC.out.mono ?_; rintro e w9 ⟨rfl, rfl⟩)
        go_ret
        exact ⟨ret_i HR2.out, hb0⟩
end Go.Proofs.YtpfaoagddgcmbaaDoor
namespace Go.Proofs.YtpfaoagddgcmbaaDoor
open Go.RowKit Grade03
/-- the error of two orders -/
def bothE (a b : List Int) : Int := if chkE a ≠ 0 then chkE a else if chkE b ≠ 0 then chkE b else if a.length ≠ b.length then 5 else 0
theorem bothE_zero {a b : List Int} : bothE a b = 0 ↔ chkE a = 0 ∧ chkE b = 0 ∧ b.length = a.length := by
  unfold bothE
  by_cases h1 : chkE a = 0
  · by_cases h2 : chkE b = 0
    · rw [if_neg (fun h => h h1), if_neg (fun h => h h2)]
      by_cases h3 : a.length = b.length
      · rw [if_neg (fun h => h h3)]; exact ⟨fun _ => ⟨h1, h2, h3.symm⟩, fun _ => rfl⟩
      · rw [if_pos h3]; exact ⟨(fun h => by cases h), fun h => absurd h.2.2.symm h3⟩
    · rw [if_neg (fun h => h h1), if_pos h2]; exact ⟨fun h => absurd h h2, fun h => absurd h.2.1 h2⟩
  · rw [if_pos h1]; exact ⟨fun h => absurd h h1, fun h => absurd h.1 h1⟩
variable (a b x : Option Addr) (n m k c d f : Nat) (la lb lx : List Int) (w : World)
theorem rows2 (h : IsL w a n c la) (h' : IsL w b m d lb) : RowsL (w.alloc (.cells #[.slice a n c, .slice b m d] 23)) w.heap.size [⟨a, n, c, la⟩, ⟨b, m, d, lb⟩] := by
  refine ⟨ArrV.new w _ _ _ _ rfl rfl, fun i hi => ?_⟩
  match i, hi with
  | 0, _ => exact h.alloc _
  | 1, _ => exact h'.alloc _
theorem chkd2 (hl : la.length = n) (hl' : lb.length = m) : chkdE [⟨a, n, c, la⟩, ⟨b, m, d, lb⟩] = bothE la lb := by
  unfold chkdE bothE chkA chkA chkA
  simp only [hl, hl']
  by_cases h1 : chkE la = 0
  · by_cases h2 : chkE lb = 0
    · by_cases e : n = m
      · subst e; simp [h1, h2, List.getD]
      · have e2 : ¬ m = n := fun h => e h.symm
        simp [h1, h2, List.getD, e, e2]
    · simp [h1, h2]
  · simp [h1]
theorem checked2 (h : IsL w a n c la) (h' : IsL w b m d lb) : Calls Tryd.prog 81 #[.slice (some ⟨w.heap.size, 0, none⟩) 2 2] (w.alloc (.cells #[.slice a n c, .slice b m d] 23)) fun e w' => e = .returned (.int .i64 (bothE la lb)) ∧ Below w.heap.size w w' := by
  have := checked_any w.heap.size 2 2 _ _ (rows2 a b n m c d la lb w h h') rfl (by omega) (by omega)
  rw [chkd2 a b n m c d la lb h.len h'.len] at this
  exact this.mono fun e w' ⟨h1, h2⟩ => ⟨h1, ((Below.refl _ w).alloc (Nat.le_refl _) _).trans (h2.mono (by simp))⟩
end Go.Proofs.YtpfaoagddgcmbaaDoor
namespace Go.Proofs.YtpfaoagddgcmbaaDoor
open Go.RowKit Grade03
theorem info65 : (Tryd.prog.info? 123).map (fun i => (i.zero, i.size, i.bytes)) = some (some (.agg #[.int .i64 0, .int .i64 0]), 2, 16) := by kernel_rfl
end Go.Proofs.YtpfaoagddgcmbaaDoor
