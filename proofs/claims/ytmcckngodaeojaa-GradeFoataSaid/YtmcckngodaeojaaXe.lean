/- Walks of chapter 3: all orders, by a function that calls itself. -/
import Derived.Test.YtmcckngodaeojaaXd
import Derived.Laws.EntriesVeiled
import Derived.Deep.RegionHeld3
namespace Grade03
theorem allX_pre {n m : Nat} {pre : List Int} {x : Nat} : ∀ y, x ≤ y → ∃ r, allX n m pre y = allX n m pre x ++ r
  | 0, h => ⟨[], by rw [show x = 0 by omega]; simp⟩
  | y + 1, h => by
    by_cases e : x = y + 1
    · exact ⟨[], by rw [e]; simp⟩
    · obtain ⟨r, hr⟩ := allX_pre (n := n) (m := m) (pre := pre) (x := x) y (by omega)
      by_cases hm : (y : Int) ∈ pre
      · exact ⟨r, by rw [allX_in hm, hr]⟩
      · exact ⟨r ++ allO n m (pre ++ [(y : Int)]), by rw [allX_out hm, hr, List.append_assoc]⟩
theorem allX_get {n m : Nat} {pre : List Int} {x : Nat} (hx : x < n) (hm : (x : Int) ∉ pre) {t : Nat} (ht : t < (allO n m (pre ++ [(x : Int)])).length) : (allO n (m + 1) pre)[(allX n m pre x).length + t]? = (allO n m (pre ++ [(x : Int)]))[t]? := by
  obtain ⟨r, hr⟩ := allX_pre (n := n) (m := m) (pre := pre) (x := x + 1) n hx
  rw [allO_step, hr, allX_out hm, List.append_assoc, List.getElem?_append_right (by omega), Nat.add_sub_cancel_left, List.getElem?_append_left ht]
end Grade03
namespace Go.Proofs.Ytmcckngodaeojaa
open Go.RowKit Grade03

theorem Clip_any (a : Option Addr) (n c : Nat) (w : World) (hn : n ≤ c) (hc : c ≤ 9223372036854775807) : Calls Try.prog 91 #[.slice a n c] w fun e w' => e = .returned (.slice a n n) ∧ w = w' := by
  have h1 : (n : Int) ≤ (c : Int) := by omega
  go_enter Try.func91, Try.ntmps91
  go_wp2
  go_ret
  exact ⟨rfl, rfl⟩
set_option maxHeartbeats 2000000 in
set_option maxRecDepth 100000 in
theorem Index_gen (a : Option Addr) (n c : Nat) (l : List Int) (x : Int) (w : World) (h : IsL w a n c l) :
    Calls Try.prog 57 #[.slice a n c, .int .i64 x] w fun e w' => ∃ r : Int, e = .returned (.int .i64 r) ∧ decide (0 ≤ r) = decide (x ∈ l) ∧ w = w' := by
  have hcap := h.cap
  have hle := h.le
  have HL := Lib.hid h.len
  go_enter Try.func57, Try.ntmps57
  go_wp2_with fail
  go_loopw [8] (fun vi wr => ∃ i : Nat, i ≤ n ∧ vi = .int .i64 (i : Int) ∧ Hid (∀ j, j < i → l.getD j 0 ≠ x) ∧ w = wr) (fun vi _ => n - (intOf vi).toNat)
  case atStart => exact ⟨0, by omega, rfl, Lib.hid (fun j hj => by omega), rfl⟩
  case round =>
    obtain ⟨i, hi, rfl, hD, rfl⟩ := hrel
    by_cases hlt : i < n
    · have q0 : (i : Int) < (n : Int) := by omega
      obtain ⟨b, o, rfl, _, hc⟩ := h.cells (by omega)
      have y := hc i hlt
      obtain ⟨v, hv⟩ : ∃ v, l.getD i 0 = v := ⟨_, rfl⟩
      rw [hv] at y
      have HV := Lib.hid hv
      clear hv hc
      by_cases hx : x = v
      · subst hx
        have e1 : (x == x) = true := by simp
        have F : Hid (decide (0 ≤ (i : Int)) = decide (x ∈ l)) := Lib.hid (by
          have hm : x ∈ l := by rw [← HV.out]; exact mem_getD l i (by rw [HL.out]; exact hlt)
          simp [hm])
        go_wp2_with fail
        go_ret
        exact ⟨_, rfl, F.out, rfl⟩
      · have e1 : (x == v) = false := by simpa using hx
        have hD2 : Hid (∀ j, j < i + 1 → l.getD j 0 ≠ x) := Lib.hid (fun j hj => by
          by_cases e : j = i
          · rw [e, HV.out]; exact fun h => hx h.symm
          · exact hD.out j (by omega))
        clear hx
        go_wp2_with fail
        go_roundw
        case rel => first | exact ⟨i + 1, by omega, by go_num, hD2, by trivial⟩ | ((repeat apply Exists.intro); exact ⟨⟨i + 1, by omega, by go_num, hD2, by trivial⟩, rfl⟩)
        case measure => (simp [intOf] <;> omega)
    · obtain rfl : i = n := by omega
      have F : Hid (decide (0 ≤ (-1 : Int)) = decide (x ∈ l)) := Lib.hid (by
        have hm : x ∉ l := fun hm => by
          obtain ⟨j, hj, e⟩ := getD_of_mem hm
          exact hD.out j (by rw [HL.out] at hj; exact hj) e
        simp [hm])
      go_wp2_with fail
      go_ret
      exact ⟨_, rfl, F.out, rfl⟩
theorem Contains_any (a : Option Addr) (n c : Nat) (l : List Int) (x : Int) (w : World) (h : IsL w a n c l) (B : Bool) (hB : decide (x ∈ l) = B) :
    Calls Try.prog 90 #[.slice a n c, .int .i64 x] w fun e w' => e = .returned (.bool B) ∧ w = w' := by
  have HC := Lib.hid (Index_gen a n c l x w h)
  have HB := Lib.hid hB
  clear h hB
  go_enter Try.func90, Try.ntmps90
  go_wp2_with (go_at_call 57; refine HC.out.mono ?_; rintro e w9 ⟨r, rfl, hr, rfl⟩; rw [HB.out] at hr)
  go_ret
  exact ⟨rfl, rfl⟩
/-- Blocks from B on are as they were. -/
structure Above (B : Nat) (w w' : World) : Prop where
  size : w.heap.size ≤ w'.heap.size
  block : ∀ k, B ≤ k → k < w.heap.size → w'.heap[k]? = w.heap[k]?
theorem Above.refl (B : Nat) (w : World) : Above B w w := ⟨Nat.le_refl _, fun _ _ _ => rfl⟩
theorem Above.of_below {B : Nat} {w w' : World} (h : Below w.heap.size w w') : Above B w w' := ⟨h.size, fun k _ hk => h.block k hk⟩
theorem Above.trans {B : Nat} {w w1 w2 : World} (h : Above B w w1) (h' : Above B w1 w2) : Above B w w2 :=
  ⟨Nat.le_trans h.size h'.size, fun k hk hk2 => (h'.block k hk (Nat.lt_of_lt_of_le hk2 h.size)).trans (h.block k hk hk2)⟩
theorem setCell_other (w : World) (p : Addr) (v : Value) (k : Nat) (h : p.block ≠ k) : (w.setCell p v).heap[k]? = w.heap[k]? := by
  simp [World.setCell, Array.getElem?_modify, h]
theorem Above.setCell {B : Nat} {w w' : World} (h : Above B w w') {p : Addr} (hp : p.block < B) (v : Value) : Above B w (w'.setCell p v) where
  size := by rw [setCell_size]; exact h.size
  block := fun k hk hk2 => (setCell_other _ _ _ _ (by omega)).trans (h.block k hk hk2)
theorem Above.more {B : Nat} {w w' w2 : World} (h : Above B w w') (hb : Below w'.heap.size w' w2) : Above B w w2 := h.trans (Above.of_below hb)
theorem IsL.above {w w' : World} {a : Option Addr} {n c B : Nat} {l : List Int} (h : IsL w a n c l) (hA : Above B w w') (hB : ∀ x, a = some x → B ≤ x.block) : IsL w' a n c l := by
  refine ⟨h.len, h.le, h.cap, h.nil, fun hp => ?_⟩
  obtain ⟨b, o, ha, hb, hc⟩ := h.cells hp
  refine ⟨b, o, ha, Nat.lt_of_lt_of_le hb hA.size, fun i hi => ?_⟩
  rw [World.cell?_of_block (w := w) (hA.block b (hB _ ha) hb)]
  exact hc i hi
theorem Above.cell {w w' : World} {B : Nat} (hA : Above B w w') {p : Addr} (hB : B ≤ p.block) {v : Value} (h : w.cell? p = some v) : w'.cell? p = some v := by
  rw [World.cell?_of_block (w := w) (hA.block _ hB (World.block_lt_of_cell? w _ h))]; exact h
theorem IsL.clip {w : World} {a : Option Addr} {n c : Nat} {l : List Int} (h : IsL w a n c l) : IsL w a n n l :=
  ⟨h.len, Nat.le_refl _, Nat.le_trans h.le h.cap, fun ha => by have := h.nil ha; have := h.le; omega, h.cells⟩

set_option maxHeartbeats 8000000 in
set_option maxRecDepth 100000 in
theorem put_all (n B np ep pp : Nat) (F : Nat) (caps : Array Value) (total : List (List Int)) (Inv : Nat → World → Prop) (hn : n ≤ 7) (hBn : B ≤ np) (hBe : B ≤ ep) (hBp : B ≤ pp)
    (hcf : ∀ (args : Array Value) (w : World), (callFunc F args).run Try.prog w = .ok (.enter F args) w)
    (stab : Hid (∀ i w1 w2, Inv i w1 → Below w1.heap.size w1 w2 → Inv i w2))
    (heach : Hid (∀ (i : Nat) (l : List Int) w1 a m c, total[i]? = some l → Inv i w1 → IsL w1 a m c l → (∀ x, a = some x → B ≤ x.block) → B ≤ w1.heap.size → Calls Try.prog F (#[.slice a m c] ++ caps) w1 fun e w2 => e = .returned (.tuple #[]) ∧ Inv (i + 1) w2 ∧ Above B w1 w2)) :
    ∀ (m : Nat) (pre : List Int) (i : Nat) (a : Option Addr) (c : Nat) (w : World), m + pre.length = n → (∀ t, t < (allO n m pre).length → total[i + t]? = (allO n m pre)[t]?) → Inv i w → IsL w a pre.length c pre → (∀ x, a = some x → B ≤ x.block) → B ≤ w.heap.size →
      w.cell? ⟨np, 0, none⟩ = some (.int .i64 n) → w.cell? ⟨ep, 0, none⟩ = some (.func (.func F) #[] caps) → w.cell? ⟨pp, 0, none⟩ = some (.func (.func 89) #[] #[.pointer (some ⟨np, 0, none⟩), .pointer (some ⟨ep, 0, none⟩), .pointer (some ⟨pp, 0, none⟩)]) →
      Calls Try.prog 89 #[.slice a pre.length c, .pointer (some ⟨np, 0, none⟩), .pointer (some ⟨ep, 0, none⟩), .pointer (some ⟨pp, 0, none⟩)] w fun e w' => e = .returned (.tuple #[]) ∧ Inv (i + (allO n m pre).length) w' ∧ Above B w w' := by
  intro m
  induction m with
  | zero =>
    intro pre i a c w hmp ht hI hL hA hBw c1 c2 c3
    have hcl := heach.out i pre w a pre.length c (by have := ht 0 (by simp [allO]); simpa [allO] using this) hI hL hA hBw
    have HC := Lib.hid hcl
    have hpn : pre.length = n := by omega
    have HT : Hid (i + (allO n 0 pre).length = i + 1) := Lib.hid (by simp [allO])
    rw [hpn] at HC ⊢
    have e1 : ((n : Int) == (n : Int)) = true := by simp
    clear hcl hmp hpn ht heach stab hL
    go_enter Try.func89, Try.ntmps89
    go_wp2_with fail
    refine HC.out.mono ?_
    rintro e w2 ⟨rfl, hI2, hA2⟩
    go_wp2
    (try simp only [Exit.inBlock, Exit.then])
    refine bodyPost_ret (results_none rfl _ _ _) rfl ?_
    exact ⟨rfl, by rw [HT.out]; exact hI2, hA2⟩
  | succ m ih =>
    intro pre i a c w hmp ht hI hL hA hBw c1 c2 c3
    have hcap := hL.cap
    have hle := hL.le
    have e1 : ((pre.length : Int) == (n : Int)) = false := by simp; omega
    have HL := Lib.hid hL
    have HA := Lib.hid hA
    have HIH := Lib.hid ih
    have HT := Lib.hid ht
    have H0 : Hid ((allX n m pre 0).length = 0) := Lib.hid (by simp [allX])
    obtain ⟨j, hj⟩ : ∃ j, pre.length = j := ⟨_, rfl⟩
    have HJ := Lib.hid hj
    rw [hj] at hmp hle e1 ⊢
    clear ih ht hL hA hj heach
    go_enter Try.func89, Try.ntmps89
    go_wp2_with fail
    go_loopw [14] (fun vr wr => ∃ r : Nat, r ≤ n ∧ vr = .int .i64 (r : Int) ∧ Inv (i + (allX n m pre r).length) wr ∧ Above B w wr) (fun vr _ => 50 - (intOf vr).toNat)
    case atStart => exact ⟨0, by omega, rfl, by rw [H0.out]; exact hI, Above.refl _ _⟩
    case round =>
      clear hI
      obtain ⟨r, hr, rfl, hI, hAb⟩ := hrel
      have hBr : B ≤ wr.heap.size := Nat.le_trans hBw hAb.size
      have z1 := hAb.cell hBn c1
      have z2 := hAb.cell hBe c2
      have z3 := hAb.cell hBp c3
      by_cases hrk : r < n
      · have q0 : (r : Int) < (n : Int) := by omega
        have hI0 := HL.out.above hAb HA.out
        rw [HJ.out] at hI0
        obtain ⟨Bm, hBm⟩ : ∃ b, decide ((r : Int) ∈ pre) = b := ⟨_, rfl⟩
        have HCN := Lib.hid (Contains_any a j c pre (r : Int) wr hI0 Bm hBm)
        have HBM := Lib.hid hBm
        clear hBm
        cases Bm with
        | true =>
          have hI2 : Inv (i + (allX n m pre (r + 1)).length) wr := by rw [allX_in (of_decide_eq_true HBM.out)]; exact hI
          clear hI hI0
          go_wp2_with fail
          refine HCN.out.mono ?_
          rintro e w9 ⟨rfl, rfl⟩
          go_wp2_with fail
          go_roundw
          all_goals first | exact ⟨r + 1, by omega, by go_num, hI2, hAb⟩ | ((repeat apply Exists.intro); exact ⟨⟨r + 1, by omega, by go_num, hI2, hAb⟩, rfl⟩) | (simp [intOf]; omega)
        | false =>
          have HI0 := Lib.hid hI0
          have HNM : Hid ((r : Int) ∉ pre) := Lib.hid (of_decide_eq_false HBM.out)
          have HS : Hid (∀ a2 c2 w2, Below wr.heap.size wr w2 → IsL w2 a2 (j + 1) c2 (pre ++ [(r : Int)]) → (∀ x, a2 = some x → B ≤ x.block) →
              Calls Try.prog 89 #[.slice a2 (j + 1) c2, .pointer (some ⟨np, 0, none⟩), .pointer (some ⟨ep, 0, none⟩), .pointer (some ⟨pp, 0, none⟩)] w2 fun e w' => e = .returned (.tuple #[]) ∧ Inv (i + (allX n m pre (r + 1)).length) w' ∧ Above B wr w') := Lib.hid (by
            intro a2 c2 w2 hb hi ha2
            have hlen : (pre ++ [(r : Int)]).length = j + 1 := by simp [HJ.out]
            have hlp : ∀ (p : Nat) v, wr.cell? ⟨p, 0, none⟩ = some v → w2.cell? ⟨p, 0, none⟩ = some v := fun p v hv => by
              rw [hb.cell (p := ⟨p, 0, none⟩) (World.block_lt_of_cell? wr _ hv)]; exact hv
            have := HIH.out (pre ++ [(r : Int)]) (i + (allX n m pre r).length) a2 c2 w2 (by rw [hlen]; omega) (fun t ht' => by
              have h1 := allX_get hrk HNM.out ht'
              have h2 := HT.out ((allX n m pre r).length + t) (by
                rw [List.getElem?_eq_getElem ht'] at h1
                exact (List.getElem?_eq_some_iff.1 h1).1)
              rw [h1] at h2
              rw [← h2, Nat.add_assoc]) (stab.out _ _ _ hI hb) (by rw [hlen]; exact hi) ha2 (Nat.le_trans hBr hb.size) (hlp _ _ z1) (hlp _ _ z2) (hlp _ _ z3)
            rw [hlen] at this
            refine this.mono ?_
            rintro e w' ⟨h1, h2, h3⟩
            refine ⟨h1, ?_, (Above.of_below hb).trans h3⟩
            rw [allX_out HNM.out, List.length_append, ← Nat.add_assoc]; exact h2)
          have hal : Below wr.heap.size wr (wr.alloc (.cells #[.int .i64 (r : Int)] 3)).drew := (((Below.refl _ wr)).alloc (Nat.le_refl _) _).drew
          have HO : Hid (IsL (wr.alloc (.cells #[.int .i64 (r : Int)] 3)).drew (some ⟨wr.heap.size, 0, none⟩) 1 1 [(r : Int)]) := Lib.hid (isL_oneAt wr (r : Int) 3 wr.heap.size rfl).drew
          have HAL := Lib.hid hal
          have hzz := World.block_lt_of_cell? wr _ z3
          have z4 : (wr.alloc (.cells #[.int .i64 (r : Int)] 3)).drew.cell? ⟨pp, 0, none⟩ = some (.func (.func 89) #[] #[.pointer (some ⟨np, 0, none⟩), .pointer (some ⟨ep, 0, none⟩), .pointer (some ⟨pp, 0, none⟩)]) := (hal.cell (p := ⟨pp, 0, none⟩) hzz).trans z3
          have hzz4 : pp < (wr.alloc (.cells #[.int .i64 (r : Int)] 3)).drew.heap.size := World.block_lt_of_cell? _ _ z4
          have HI1 := Lib.hid hI0.clip
          have HV : Hid (∀ x : Addr, ((∃ y, a = some y ∧ y.block = x.block) ∨ (wr.alloc (.cells #[.int .i64 (r : Int)] 3)).drew.heap.size ≤ x.block) → B ≤ x.block) := Lib.hid fun x hx => by
            rcases hx with ⟨y, hy, he⟩ | hx
            · rw [← he]; exact HA.out y hy
            · exact Nat.le_trans hBr (Nat.le_trans hal.size hx)
          have hsm : j + 1 ≤ 17592186044416 := by omega
          clear hI0 hal c1 c2 c3 z1 z2 hI
          go_wp2_with fail
          refine HCN.out.mono ?_
          rintro e w9 ⟨rfl, rfl⟩
          clear HCN
          go_wp2_with fail
          go_region_held3 (fun w' => w'.cell? ⟨pp, 0, none⟩ = some (.func (.func 89) #[] #[.pointer (some ⟨np, 0, none⟩), .pointer (some ⟨ep, 0, none⟩), .pointer (some ⟨pp, 0, none⟩)])) (first | go_keep | exact hb3.cell (p := ⟨pp, 0, none⟩) hzz4 |>.trans z4 | exact hA4.cell hBp z3)
            (first
              | (go_at_call 91; refine (Clip_any a j c _ hle hcap).mono ?_; rintro e w9 ⟨rfl, rfl⟩)
              | (go_at_call 89; refine (HS.out a3 c3 w3 (HAL.out.trans (hb3.mono HAL.out.size)) o3 (fun x hx => HV.out x (hv3 x hx))).mono ?_; rintro e w4 ⟨rfl, hI4, hA4⟩)
              | (refine step_app_full Try.underlying22 elem3 (.tmp 23) (.tmp 25) ?_ ?_ ?_ ?_ (HI1.out.below HAL.out) HO.out hsm ?_; rfl; rfl; rfl; rfl; intro a3 c3 w3 o3 hb3 hv3))
          all_goals (
            clear hb3 hv3 o3 z3 z4
            have hA5 := hAb.trans hA4
            clear hA4 hAb
            go_wp2
            go_roundw
            all_goals first | exact ⟨r + 1, by omega, by go_num, hI4, hA5⟩ | ((repeat apply Exists.intro); exact ⟨⟨r + 1, by omega, by go_num, hI4, hA5⟩, rfl⟩) | exact ⟨⟨r + 1, by omega, by go_num, hI4, hA5⟩, by simp [intOf]; omega⟩ | (simp [intOf]; omega))
      · obtain rfl : r = n := by omega
        have HG : Hid ((allX r m pre r).length = (allO r (m + 1) pre).length) := Lib.hid (by rw [allO_step])
        go_wp2
        go_end0
        exact ⟨rfl, by rw [← HG.out]; exact hI, hAb⟩
set_option maxHeartbeats 4000000 in
set_option maxRecDepth 100000 in
theorem all_walk (n B F : Nat) (caps : Array Value) (Inv : Nat → World → Prop) (hn : n ≤ 7)
    (hcf : ∀ (args : Array Value) (w : World), (callFunc F args).run Try.prog w = .ok (.enter F args) w)
    (stab : Hid (∀ i w1 w2, Inv i w1 → Below w1.heap.size w1 w2 → Inv i w2))
    (heach : Hid (∀ (i : Nat) (l : List Int) w1 a m c, (allO n n [])[i]? = some l → Inv i w1 → IsL w1 a m c l → (∀ x, a = some x → B ≤ x.block) → B ≤ w1.heap.size → Calls Try.prog F (#[.slice a m c] ++ caps) w1 fun e w2 => e = .returned (.tuple #[]) ∧ Inv (i + 1) w2 ∧ Above B w1 w2))
    (w : World) (hB : B ≤ w.heap.size) (hI : Inv 0 w) :
    Calls Try.prog 58 #[.int .i64 n, .func (.func F) #[] caps] w fun e w' => e = .returned (.tuple #[]) ∧ Inv (allO n n []).length w' ∧ Above B w w' := by
  have HI := Lib.hid hI
  clear hI
  go_enter Try.func58, Try.ntmps58
  go_wp2_with fail
  have hb : Below w.heap.size w (((w.alloc (.cells #[.int .i64 (n : Int)] 3)).alloc (.cells #[.func (.func F) #[] caps] 58)).alloc (.cells #[.func (.func 89) #[] #[.pointer (some ⟨w.heap.size, 0, none⟩), .pointer (some ⟨w.heap.size + 1, 0, none⟩), .pointer (some ⟨w.heap.size + 1 + 1, 0, none⟩)]] 58)) := (((Below.refl _ w).alloc (Nat.le_refl _) _).alloc (by simp) _).alloc (by simp; omega) _
  refine (put_all n B w.heap.size (w.heap.size + 1) (w.heap.size + 1 + 1) F caps (allO n n []) Inv hn hB (by omega) (by omega) hcf stab heach n [] 0 none 0 _ (by simp) (fun t _ => by simp) (stab.out _ _ _ HI.out hb) (IsL.nilL _) (by simp) (Nat.le_trans hB hb.size) (by simp [go_sem]) (by simp [go_sem]) (by simp [go_sem])).mono ?_
  rintro e w2 ⟨rfl, hI2, hA2⟩
  have hA3 := (Above.of_below hb).trans hA2
  clear hA2 hb
  go_wp2
  go_end0
  exact ⟨rfl, by simpa using hI2, hA3⟩
end Go.Proofs.Ytmcckngodaeojaa
