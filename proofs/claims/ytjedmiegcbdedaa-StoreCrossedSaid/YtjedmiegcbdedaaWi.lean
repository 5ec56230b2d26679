/- Walks of chapter 11: Join. -/
import Derived.Test.YtjedmiegcbdedaaWh
import Derived.Test.YtjedmiegcbdedaaPa
import Derived.Laws.EntriesVeiled
import Derived.IntWalk
namespace Go.Proofs.Ytjedmiegcbdedaa
open Go.RowKit Store11

/-- The array at block g holds the parents P. -/
def ParAt (w : World) (g : Nat) (P : Nat → Nat) : Prop := ∃ cur : Array Value, w.heap[g]? = some (.cells cur 75 (0, 0)) ∧ cur.size = 18 ∧ ∀ j, j < 18 → cur[j]? = some (.int .i64 ((P j : Nat) : Int))
theorem ParAt.cell {w : World} {g : Nat} {P : Nat → Nat} (h : ParAt w g P) (j : Nat) (hj : j < 18) : w.cell? ⟨g, j, none⟩ = some (.int .i64 ((P j : Nat) : Int)) ∧ w.frozen? ⟨g, j, none⟩ = false := by
  obtain ⟨cur, hh, hs, hc⟩ := h
  exact ⟨by rw [World.cell?]; simp [hh, hc j hj], by simp [World.frozen?, hh]⟩
theorem ParAt.set {w : World} {g : Nat} {P : Nat → Nat} (h : ParAt w g P) (j v : Nat) (Q : Nat → Nat) (hq : ∀ i, i < 18 → Q i = if i = j then v else P i) : ParAt (w.setCell ⟨g, j, none⟩ (.int .i64 ((v : Nat) : Int))) g Q := by
  obtain ⟨cur, hh, hs, hc⟩ := h
  refine ⟨_, setCell_own hh j _, by simpa using hs, fun i hi => ?_⟩
  rw [hq i hi, Array.getElem?_setIfInBounds]
  by_cases hij : j = i
  · subst hij; rw [if_pos rfl, if_pos rfl, if_pos (by omega)]
  · rw [if_neg hij, if_neg (fun e => hij e.symm)]; exact hc i hi
theorem ParAt.kept {w w' : World} {g : Nat} {P : Nat → Nat} (h : ParAt w g P) (hb : w'.heap[g]? = w.heap[g]?) : ParAt w' g P := by
  obtain ⟨cur, hh, r⟩ := h; exact ⟨cur, hb.trans hh, r⟩
theorem ParAt.drewN {w : World} {g : Nat} {P : Nat → Nat} (h : ParAt w g P) (n : Nat) : ParAt (w.drewN n) g P := h.kept rfl
theorem ParAt.drew {w : World} {g : Nat} {P : Nat → Nat} (h : ParAt w g P) : ParAt w.drew g P := h.kept rfl
theorem ParAt.lt {w : World} {g : Nat} {P : Nat → Nat} (h : ParAt w g P) : g < w.heap.size := by
  obtain ⟨cur, hh, r⟩ := h; exact (Array.getElem?_eq_some_iff.1 hh).1

set_option maxHeartbeats 400000 in
theorem top_any (g x : Nat) (P rt : Nat → Nat) (w : World) (hP : ParAt w g P) (hF : Forest P rt) (hx : x < 18) :
    Calls Try.prog 74 #[.int .i64 x, .pointer (some ⟨g, 0, none⟩)] w fun e w' => e = .returned (.int .i64 ((rt x : Nat) : Int)) ∧ w = w' := by
  obtain ⟨d, hd⟩ := hF.dep
  have HD := Lib.hid hd
  have HF := Lib.hid hF
  have HP := Lib.hid hP
  clear hd hF hP
  go_enter Try.func74, Try.ntmps74
  go_wp2
  go_loop [0] (fun v => ∃ y : Nat, y < 18 ∧ v = .int .i64 y ∧ Hid (rt y = rt x)) (fun v => d (intOf v).toNat)
  case atStart => exact ⟨x, hx, rfl, Lib.hid rfl⟩
  case round =>
    obtain ⟨y, hy, rfl, hr⟩ := hrel
    have c := (HP.out.cell y hy).1
    have q1 : (y : Int) < 18 := by omega
    by_cases hpy : P y = y
    · have HR : Hid (((y : Nat) : Int) = ((rt x : Nat) : Int)) := Lib.hid (by rw [← hr.out, HF.out.root y hy hpy])
      rw [hpy] at c
      have hz : (((y : Nat) : Int) != ((y : Nat) : Int)) = false := by simp
      clear hpy
      go_wp2
      go_ret
      exact ⟨ret_i HR.out, rfl⟩
    · have hz : (((P y : Nat) : Int) != ((y : Nat) : Int)) = true := by simp; omega
      have h2 : P y < 18 := HF.out.plt y hy
      have HR : Hid (rt (P y) = rt x) := Lib.hid (by rw [HF.out.par y hy, hr.out])
      have HM : Hid (d (P y) < d y) := Lib.hid (HD.out y hy hpy)
      clear hpy hr
      generalize P y = z at *
      go_wp2
      go_round
      case rel => exact ⟨z, h2, rfl, HR⟩
      case measure => have := HM.out; simpa [intOf] using this

set_option maxHeartbeats 400000 in
set_option maxRecDepth 100000 in
theorem join2_any (g p q k : Nat) (a : Option Addr) (n c : Nat) (l : List Int) (P rt : Nat → Nat) (w : World) (h : IsL w a n c l) (hP : ParAt w g P) (hF : Forest P rt) (hp : w.cell? ⟨p, 0, none⟩ = some (.func (.func 74) #[] #[.pointer (some ⟨g, 0, none⟩)])) (hq : w.cell? ⟨q, 0, none⟩ = some (.slice a n c))
    (hk : k < n) (h0 : 0 ≤ l.getD k 0) (h1 : l.getD k 0 < 18) :
    Calls Try.prog 75 #[.int .i64 k, .pointer (some ⟨p, 0, none⟩), .pointer (some ⟨q, 0, none⟩)] w fun e w' => e = .returned (.int .i64 ((rt (l.getD k 0).toNat : Nat) : Int)) ∧ ∃ m, w' = w.drewN m := by
  obtain ⟨x, hx⟩ : ∃ x : Nat, l.getD k 0 = x := ⟨(l.getD k 0).toNat, by omega⟩
  obtain ⟨b1, o1, rfl, hb1, hc1⟩ := h.cells (by omega)
  have x1 := hc1 k hk
  have hcap := h.cap
  have hle := h.le
  rw [hx] at h1 x1 ⊢
  have hx18 : x < 18 := by omega
  have q1 : (k : Int) < (n : Int) := by omega
  rw [show ((x : Int)).toNat = x by omega]
  have HP := Lib.hid hP
  have HF := Lib.hid hF
  clear hc1 h hx h0 h1 hP hF
  go_enter Try.func75, Try.ntmps75
  go_wp2_with fail
  go_quiet ((go_at_call 74; exact Calls.quiet_of_same ((top_any g x P rt _ (HP.out.drewN _) HF.out hx18).mono fun _ _ h => ⟨h.1, h.2.symm⟩)))
  go_wp2
  go_ret
  exact ⟨rfl, nq, rfl⟩

theorem ParAt.more {w : World} {g k : Nat} (h : ParAt w g (fun j => if j < k then j else 0)) : ParAt (w.setCell ⟨g, k, none⟩ (.int .i64 ((k : Nat) : Int))) g (fun j => if j < k + 1 then j else 0) := by
  refine h.set k k _ fun i hi => ?_
  show (if i < k + 1 then i else 0) = if i = k then k else (if i < k then i else 0)
  by_cases h1 : i = k
  · subst h1; simp
  · rw [if_neg h1]
    by_cases h2 : i < k
    · rw [if_pos h2, if_pos (by omega)]
    · rw [if_neg h2, if_neg (by omega)]
theorem keepN {w w' : World} {r : Option Nat} {x : Obj} {q : Nat} (hh : w.heap[q]? = some x) (hg : w.grownBy w' r) (hne : some q ≠ r) : w'.heap[q]? = some x :=
  (hg.block q (Array.getElem?_eq_some_iff.1 hh).1 hne).trans hh

set_option maxHeartbeats 2000000 in
set_option maxRecDepth 100000 in
theorem Join_any (a b : Option Addr) (n c m d : Nat) (l l' : List Int) (w : World) (h : IsL w a n c l) (h' : IsL w b m d l') (hw : Wf l) :
    Calls Try.prog 31 #[.slice a n c, .slice b m d] w fun e w' => ∃ a' n' c', e = .returned (.tuple #[.slice a' n' c', .int .i64 (bothE l l')]) ∧ IsL w' a' n' c' (joinL l l') ∧ Below w.heap.size w w' := by
  by_cases hz : bothE l l' = 0
  · have ⟨hc1, hc2, hl12⟩ := bothE_zero hz
    have hl9 := (chkL_zero hc1).2
    obtain rfl : m = n := by rw [← h.len, ← h'.len, hl12]
    have hl := h.len
    have hl' := h'.len
    rw [hl] at hl9
    have A1 : Hid (∀ k, k < m → 0 ≤ l.getD k 0 ∧ l.getD k 0 < 9) := Lib.hid fun k hk => by have := chkL_bound hc1 k (by omega); omega
    have A2 : Hid (∀ k, k < m → 0 ≤ l'.getD k 0 ∧ l'.getD k 0 < 9) := Lib.hid fun k hk => by have := chkL_bound hc2 k (by omega); omega
    have HZ := Lib.hid hz
    have HL := Lib.hid hl
    have HV : Hid (joinR l l' = joinL l l') := Lib.hid (by rw [joinL, if_pos hz])
    -- the boxed list
    obtain ⟨p, hp⟩ : ∃ p, p = w.heap.size := ⟨_, rfl⟩
    obtain ⟨w1, hw1⟩ : ∃ w1, w1 = w.alloc (.cells #[.slice a m c] 22) := ⟨_, rfl⟩
    have hb1 : Below w.heap.size w w1 := by rw [hw1]; exact (Below.refl _ _).alloc (Nat.le_refl _) _
    have hz1 : w1.heap.size = p + 1 := by rw [hw1, hp]; simp
    have hk1 : w1.heap[p]? = some (.cells #[.slice a m c] 22 (0, 0)) := by rw [hw1, hp]; exact heap_alloc_new w _
    have hcp : w1.cell? ⟨p, 0, none⟩ = some (.slice a m c) := by rw [World.cell?]; simp [hk1]
    have I1 := h.below hb1
    have I1' := h'.below hb1
    have HB1 := Lib.hid hb1
    have HP := Lib.hid hp
    have HZ1 := Lib.hid hz1
    clear hz hc1 hc2 hl12 hl hl' hk1 hb1 h h'
    go_enter Try.func31, Try.ntmps31
    go_upto_region 1 with (fail)
    simp only [← hp, ← hw1]; clear hp hw1 hz1
    go_upto_region 5 with (go_at_call 70; refine (both_any a b m c m d l l' _ I1 I1').mono ?_; rintro e w' ⟨rfl, rfl⟩; rw [HZ.out])
    generalize hg : w1.heap.size = g
    generalize hw2 : w1.alloc (Obj.cells #[Value.int IntKind.i64 0, Value.int IntKind.i64 0, Value.int IntKind.i64 0, Value.int IntKind.i64 0, Value.int IntKind.i64 0, Value.int IntKind.i64 0, Value.int IntKind.i64 0, Value.int IntKind.i64 0, Value.int IntKind.i64 0, Value.int IntKind.i64 0, Value.int IntKind.i64 0, Value.int IntKind.i64 0, Value.int IntKind.i64 0, Value.int IntKind.i64 0, Value.int IntKind.i64 0, Value.int IntKind.i64 0, Value.int IntKind.i64 0, Value.int IntKind.i64 0] 75) = w2
    have P0 : ParAt w2 g (fun j => if j < 0 then j else 0) := by
      rw [← hw2, ← hg]
      refine ⟨_, heap_alloc_new w1 _, rfl, fun j hj => ?_⟩
      rcases (by omega : j = 0 ∨ j = 1 ∨ j = 2 ∨ j = 3 ∨ j = 4 ∨ j = 5 ∨ j = 6 ∨ j = 7 ∨ j = 8 ∨ j = 9 ∨ j = 10 ∨ j = 11 ∨ j = 12 ∨ j = 13 ∨ j = 14 ∨ j = 15 ∨ j = 16 ∨ j = 17) with rfl | rfl | rfl | rfl | rfl | rfl | rfl | rfl | rfl | rfl | rfl | rfl | rfl | rfl | rfl | rfl | rfl | rfl <;> rfl
    have b2 : Below g w1 w2 := by rw [← hw2, ← hg]; exact (Below.refl _ _).alloc (Nat.le_refl _) _
    have hpg : p < g := by rw [← hg, HZ1.out]; omega
    have HG := Lib.hid hg
    clear hg hw2
    go_wp2_with fail
    go_loopw [17] (fun vi wr => ∃ k : Nat, k ≤ 18 ∧ vi = .int .i64 k ∧ Hid (ParAt wr g (fun j => if j < k then j else 0)) ∧ Below g w1 wr) (fun vi _ => 18 - (intOf vi).toNat)
    case atStart => exact ⟨0, by omega, rfl, Lib.hid P0, b2⟩
    case round =>
      obtain ⟨k, hk, rfl, hP, hb⟩ := hrel
      by_cases hlt : k < 18
      · obtain ⟨c0, f0⟩ := hP.out.cell k hlt
        rw [if_neg (by omega)] at c0
        have q1 : (k : Int) < 18 := by omega
        have hP2 := Lib.hid hP.out.more
        have hb2 := hb.setCell (p := ⟨g, k, none⟩) (Nat.le_refl _) (.int .i64 ((k : Nat) : Int))
        clear hP
        go_wp2
        go_roundw
        case rel => exact ⟨k + 1, by omega, by go_num, hP2, hb2⟩
        case measure => simp [intOf]; omega
      · obtain rfl : k = 18 := by omega
        have hP9 : ParAt wr g (pK l l' 0) := by
          obtain ⟨cur, hh, hs, hc⟩ := hP.out
          exact ⟨cur, hh, hs, fun j hj => (hc j hj).trans (by simp [hj, pK])⟩
        clear hP P0 b2
        go_upto_region 11 with (fail)
        generalize hf : wr.heap.size = f
        generalize hw3 : wr.alloc (Obj.cells #[Value.func (Fn.func 74) #[] #[Value.pointer (some { block := g, off := 0 })]] 63) = w3
        have hgf : g < f := by rw [← hf]; exact hP9.lt
        have hP3 : ParAt w3 g (pK l l' 0) := by rw [← hw3]; exact hP9.kept ((World.grownBy_alloc wr _ none).block g hP9.lt (by simp))
        have b3 : Below g w1 w3 := by rw [← hw3]; exact hb.alloc (by rw [hf]; omega) _
        have c3 : w3.heap[f]? = some (.cells #[Value.func (Fn.func 74) #[] #[Value.pointer (some { block := g, off := 0 })]] 63 (0, 0)) := by rw [← hw3, ← hf]; exact heap_alloc_new wr _
        have C3 := Lib.hid c3
        have HP3 := Lib.hid hP3
        have hgw : g ≤ w1.heap.size := by rw [HG.out]; omega
        clear hf hw3 hP9 hb c3 hP3
        have hcp3 := (b3.cell (p := ⟨p, 0, none⟩) hpg).trans hcp
        go_wp2_with fail
        go_loopw [27] (fun vi wr => ∃ k : Nat, k ≤ m ∧ vi = .int .i64 k ∧ Hid (ParAt wr g (pK l l' k)) ∧ Below g w1 wr ∧ Hid (wr.heap[f]? = some (.cells #[Value.func (Fn.func 74) #[] #[Value.pointer (some { block := g, off := 0 })]] 63 (0, 0)))) (fun vi _ => m - (intOf vi).toNat)
        case atStart => exact ⟨0, by omega, rfl, HP3, b3, C3⟩
        case round =>
          clear hcp3 b3 HP3 C3
          obtain ⟨k, hk, rfl, hP, hb, hC⟩ := hrel
          have hgs := hP.out.lt
          have hfs := (Array.getElem?_eq_some_iff.1 hC.out).1
          have cp := (hb.cell (p := ⟨p, 0, none⟩) hpg).trans hcp
          have cf : wr.cell? ⟨f, 0, none⟩ = some (Value.func (Fn.func 74) #[] #[Value.pointer (some { block := g, off := 0 })]) := by rw [World.cell?]; simp [hC.out]
          have J1 : IsL wr a m c l := I1.below (by rw [HG.out]; exact hb)
          have J2 : IsL wr b m d l' := I1'.below (by rw [HG.out]; exact hb)
          have HF : Hid (Forest (pK l l' k) (rtK l l' k)) := Lib.hid (forest_K l l' m A1.out A2.out k hk)
          by_cases hlt : k < m
          · obtain ⟨X, hX⟩ : ∃ X : Nat, l.getD k 0 = X := ⟨(l.getD k 0).toNat, by have := A1.out k hlt; omega⟩
            obtain ⟨Y, hY⟩ : ∃ Y : Nat, l'.getD k 0 = Y := ⟨(l'.getD k 0).toNat, by have := A2.out k hlt; omega⟩
            have hX9 : X < 9 := by have := A1.out k hlt; omega
            have hY9 : Y < 9 := by have := A2.out k hlt; omega
            obtain ⟨Z, hZ⟩ : ∃ Z : Nat, Z = 9 + Y := ⟨_, rfl⟩
            have hZ18 : Z < 18 := by omega
            obtain ⟨b1, o1, rfl, _, hc1⟩ := J1.cells (by omega)
            obtain ⟨b2, o2, rfl, _, hc2⟩ := J2.cells (by omega)
            have x1 := hc1 k hlt
            have x2 := hc2 k hlt
            rw [hX] at x1
            rw [hY] at x2
            have q1 : (k : Int) < (m : Int) := by omega
            have hcap := J1.cap
            have hle := J1.le
            have hcap' := J2.cap
            have hle' := J2.le
            have hrx := HF.out.lt X (by omega)
            have hry := HF.out.lt Z hZ18
            have hPn : Hid (∀ (V : World), V.heap[g]? = wr.heap[g]? → ParAt (V.setCell ⟨g, rtK l l' k X, none⟩ (.int .i64 ((rtK l l' k Z : Nat) : Int))) g (pK l l' (k + 1))) := Lib.hid fun V hV => (hP.out.kept hV).set _ _ _ (fun i hi => by
              have e1 : (l.getD k 0).toNat = X := by omega
              have e2 : (l'.getD k 0).toNat = Y := by omega
              show linkP (pK l l' k) (rtK l l' k) (l.getD k 0).toNat (9 + (l'.getD k 0).toNat) i = _
              rw [e1, e2, ← hZ]; rfl)
            have hbn := hb.drew.setCell (p := ⟨g, rtK l l' k X, none⟩) (Nat.le_refl _) (.int .i64 ((rtK l l' k Z : Nat) : Int))
            have hCn : Hid ((wr.drew.setCell ⟨g, rtK l l' k X, none⟩ (.int .i64 ((rtK l l' k Z : Nat) : Int))).heap[f]? = some (.cells #[Value.func (Fn.func 74) #[] #[Value.pointer (some { block := g, off := 0 })]] 63 (0, 0))) := Lib.hid (keepN (w := wr.drew) hC.out (grown_setCell _ _ _ _) (by simp; omega))
            obtain ⟨ct, ft⟩ := hP.out.cell _ hrx
            have HPD : Hid (ParAt wr.drew g (pK l l' k)) := Lib.hid hP.out.drew
            have hPn2 := hPn.out wr.drew rfl
            have HPN := Lib.hid hPn2
            have hW9 : IntKind.i64.wrap (9 + ((Y : Nat) : Int)) = ((Z : Nat) : Int) := by rw [IntWalk.i64_in _ (by omega)]; omega
            clear hZ hX hY hc1 hc2 J1 J2 hP hC hPn hPn2 I1 I1' hb hcp
            have qx : ((rtK l l' k X : Nat) : Int) < 18 := by omega
            go_wp2_with fail
            go_still_tail 14, (by kernel_rfl)
            still_call ((top_any g X (pK l l' k) (rtK l l' k) _ HPD.out HF.out (by omega)).mono fun _ _ h => ⟨h.1, h.2.symm⟩)
            repeat still_step
            still_call ((top_any g Z (pK l l' k) (rtK l l' k) _ HPD.out HF.out hZ18).mono fun _ _ h => ⟨h.1, h.2.symm⟩)
            repeat still_step
            refine wpStill_nil ?_
            change wpList _ _ _ _ _ (World.drew wr)
            clear hW9 HPD HF
            generalize rtK l l' k X = rx at *
            generalize rtK l l' k Z = ry at *
            generalize pK l l' k rx = px at *
            go_wp2
            go_roundw
            case rel => first | exact ⟨k + 1, by omega, by go_num, HPN, hbn, hCn⟩ | ((repeat apply Exists.intro); exact ⟨⟨k + 1, by omega, by go_num, HPN, hbn, hCn⟩, rfl⟩)
            case measure => simp [intOf]; omega
          · obtain rfl : k = m := by omega
            have HLL := HL.out
            go_wp2_with fail
            refine (divided_int2 75 (.pointer (some ⟨f, 0, none⟩)) (.pointer (some ⟨p, 0, none⟩)) wr.heap.size k (joinK l l') (fun _ w' => Below wr.heap.size wr w') wr (fun _ _ => by simp [go_sem]) (by simp [joinK, HL.out]) (by omega) rfl (Below.refl _ _) (Lib.hid fun i w1 w2 h1 h2 => h1.trans h2) ?_ (Lib.hid fun i w1 hi h1 hB => ?_)).mono ?_
            · intro x hx
              simp only [joinK, List.mem_map] at hx
              obtain ⟨y, hy, rfl⟩ := hx
              obtain ⟨j, hj, he⟩ := List.mem_iff_getElem.1 hy
              have := A1.out j (by rw [← HL.out]; exact hj)
              have e : l.getD j 0 = y := by simp [List.getD, hj, he]
              rw [HL.out]
              have h18 := HF.out.lt y.toNat (by omega)
              exact WalkArith.wf_i64 (by omega)
            · have hx := A1.out i hi
              have hP1 : ParAt w1 g (pK l l' k) := hP.out.kept (h1.block g hgs)
              refine (join2_any g f p i a k c l _ _ w1 (J1.below h1) hP1 HF.out ((h1.cell (p := ⟨f, 0, none⟩) hfs).trans cf) ((h1.cell (p := ⟨p, 0, none⟩) (by show p < _; omega)).trans cp) hi hx.1 (by omega)).mono ?_
              rintro e w2 ⟨rfl, mm, rfl⟩
              refine ⟨?_, belowN h1 mm, ⟨Nat.le_refl _, fun _ _ _ => rfl⟩⟩
              have e : (joinK l l').getD i 0 = ((rtK l l' k (l.getD i 0).toNat : Nat) : Int) := by
                have hil : i < l.length := by rw [HL.out]; exact hi
                simp only [joinK, List.getD, List.getElem?_map, List.getElem?_eq_getElem hil, Option.map_some, Option.getD_some, HL.out]
              rw [e]; rfl
            · rintro e w2 ⟨a', c', rfl, ho, hI, _⟩
              have hbf : Below w.heap.size w w2 := HB1.out.trans ((hb.trans (hI.mono (by omega))).mono (by rw [← HP.out]; omega))
              go_wp2
              go_ret2
              exact ⟨a', k, c', ret_si HZ.out.symm, HV.out ▸ ho.isL, hbf⟩
  · have hq : (bothE l l' != 0) = true := by simpa using hz
    have HV : Hid ([] = joinL l l') := Lib.hid (by rw [joinL, if_neg hz])
    clear hz
    have I1 := h.alloc (.cells #[.slice a n c] 22)
    have I1' := h'.alloc (.cells #[.slice a n c] 22)
    go_enter Try.func31, Try.ntmps31
    go_wp2_with (go_at_call 70; refine (both_any a b n c m d l l' _ I1 I1').mono ?_; rintro e w' ⟨rfl, rfl⟩)
    go_ret2
    exact ⟨none, 0, 0, rfl, HV.out ▸ IsL.nilL _, (Below.refl _ _).alloc (Nat.le_refl _) _⟩
end Go.Proofs.Ytjedmiegcbdedaa
