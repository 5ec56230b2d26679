/- Walks of chapter 9: arrays of days. -/
import Derived.Test.YtbhjphcomppjgaaDoorWf
import Derived.Test.YtbhjphcomppjgaaDoorPg
import Derived.Laws.Rows
import Derived.Deep.MidRow
import Derived.ChangeKeysEq
namespace Go.Proofs.YtbhjphcomppjgaaDoor
open Go.RowKit Beetle09

abbrev I64 : Int → Value := fun v => .int .i64 v
section
variable {α : Type} {f : α → Value} {w w' : World} {g : Nat} {t : TypeId} {l : List α}
theorem ArrV.there (h : ArrV f w g t l) : w.there g 0 l.length := fun j hj => by
  rw [Nat.zero_add]
  refine ⟨?_, h.frozen j⟩
  rw [World.cell?]
  have : w.heap[g]? = some (.cells (l.map f).toArray t (0, 0)) := h
  simp [this, hj]
theorem ArrV.setAll (h : ArrV f w g t l) (M : List α) (hl : M.length = l.length) : ArrV f (w.setCells g 0 (M.map f).toArray.toList) g t M := by
  obtain ⟨cur, h1, h2⟩ := setCells_own (M.map f).toArray.toList 0 w _ h
  unfold ArrV
  rw [h1]
  simp only [Option.some.injEq, Obj.cells.injEq, and_true]
  apply Array.ext_getElem?
  intro i
  by_cases hi : i < M.length
  · have h3 := World.cell?_setCells_in g (M.map f).toArray.toList 0 w (fun j hj => by
      have := (h.there j (by simp at hj; omega)).1; simpa using this) i (by simpa using hi)
    rw [World.cell?] at h3
    simp only [h1] at h3
    simp at h3
    simp [h3, hi]
  · have hs : cur.size = l.length := by simpa using h2
    rw [Array.getElem?_eq_none (by omega), Array.getElem?_eq_none (by simp; omega)]
theorem ArrV.apart (h : ArrV f w g t l) (b : Nat) (hb : b ≠ g) (vs : List Value) : ArrV f (w.setCells b 0 vs) g t l :=
  ((grown_setCells b vs 0 w).block g h.lt (by simp; exact fun e => hb e.symm)).trans h
end
theorem ints_one (L : List Int) : ((L.map I64).toArray).all (·.oneCell') = true :=
  all_oneCell_toArray fun v hv => by obtain ⟨x, _, rfl⟩ := List.mem_map.1 hv; rfl
theorem info104 : (Tryd.prog.info? 104).map (·.size) = some 25 := by kernel_rfl
theorem cells3 : Tryd.prog.cellsOf 3 = 1 := by kernel_rfl
set_option maxRecDepth 100000 in
theorem eq_items (xs ys : List Int) (w : World) : ∀ is : List Nat, (∀ i ∈ is, i < xs.length ∧ i < ys.length) → (Op.eqItems 9999 3 1 (xs.map I64).toArray (ys.map I64).toArray is).run Tryd.prog w = .ok (decide (∀ i ∈ is, xs.getD i 0 = ys.getD i 0)) w
  | [], _ => by simp [Op.eqItems]
  | i :: is, h => by
    have ih := eq_items xs ys w is fun j hj => h j (List.mem_cons_of_mem _ hj)
    obtain ⟨h1, h2⟩ := h i List.mem_cons_self
    have px : (part 3 (xs.map I64).toArray (i * 1)).run Tryd.prog w = .ok (.int .i64 (xs.getD i 0)) w := run_part_plain w (by kernel_rfl) (by simp [List.getD, h1])
    have py : (part 3 (ys.map I64).toArray (i * 1)).run Tryd.prog w = .ok (.int .i64 (ys.getD i 0)) w := run_part_plain w (by kernel_rfl) (by simp [List.getD, h2])
    have e : (Op.equalIn 9999 3 (.int .i64 (xs.getD i 0)) (.int .i64 (ys.getD i 0))).run Tryd.prog w = .ok (xs.getD i 0 == ys.getD i 0) w := run_equalIn_int w 9998 3 .i64 .i64 _ _ Tryd.underlying3
    simp only [Op.eqItems, Sem.run_bind, px, py, e, Result.andThen_ok]
    by_cases hx : xs.getD i 0 = ys.getD i 0
    · have h3 : (xs.getD i 0 == ys.getD i 0) = true := by simpa using hx
      simp only [h3, Bool.not_true, Bool.false_eq_true, if_false]
      rw [ih]
      congr 1
      exact decide_eq_decide.2 (by rw [List.forall_mem_cons]; exact ⟨fun h => ⟨hx, h⟩, fun h => h.2⟩)
    · have h3 : (xs.getD i 0 == ys.getD i 0) = false := by simpa using hx
      simp only [h3, Bool.not_false, if_true, Sem.run_pure]
      congr 1
      exact (decide_eq_false fun h => hx (h i List.mem_cons_self)).symm
set_option maxRecDepth 100000 in
theorem eq_days (xs ys : List Int) (w : World) (hx : xs.length = 25) (hy : ys.length = 25) : (Op.equalIn 10000 104 (.agg (xs.map I64).toArray) (.agg (ys.map I64).toArray)).run Tryd.prog w = .ok (decide (xs = ys)) w := by
  obtain ⟨i, hi, _⟩ := info_parts elem3
  rw [show 10000 = 9999 + 1 from rfl, run_equalIn_array w 9999 _ _ Tryd.underlying104 hi, cells3, eq_items xs ys w _ fun i hi => by rw [List.mem_range] at hi; omega]
  congr 1
  refine decide_eq_decide.2 ⟨fun h => List.ext_getElem (by omega) fun i h1 h2 => ?_, fun h i _ => by rw [h]⟩
  have := h i (List.mem_range.2 (by omega))
  simpa [List.getD, h1, h2] using this

/-- The state of days' loops. -/
structure DaS (w wr : World) (g R C s z : Nat) (L : List Int) : Prop where
  flr : Flr wr g R C (nearN C (R * C))
  st : ArrV VV wr w.heap.size 79 [.int .u32 (s : Int), .int .u32 (z : Int)]
  res : ArrV I64 wr (w.heap.size + 1) 104 (List.replicate 25 0)
  now : ArrV I64 wr (w.heap.size + 1 + 1) 104 L
  below : Below w.heap.size w wr
theorem DaS.to {w wr w' : World} {g R C s z : Nat} {L : List Int} (h : DaS w wr g R C s z L) (hb : Below wr.heap.size wr w') : DaS w w' g R C s z L :=
  ⟨h.flr.below hb, h.st.below hb, h.res.below hb, h.now.below hb, h.below.trans (hb.mono h.below.size)⟩
theorem DaS.set {w wr : World} {g R C s z : Nat} {L : List Int} (h : DaS w wr g R C s z L) (hg : g ≠ w.heap.size + 1 + 1) (i : Nat) (v : Int) : DaS w (wr.setCell ⟨w.heap.size + 1 + 1, i, none⟩ (.int .i64 v)) g R C s z (L.set i v) :=
  ⟨h.flr.other (by simp only []; exact fun e => hg e.symm) _, h.st.other (by simp only []; omega) _, h.res.other (by simp only []; omega) _, h.now.set i v, h.below.setCell (by simp only []; omega) _⟩
set_option maxHeartbeats 8000000 in
set_option maxRecDepth 100000 in
theorem days_any (g R C s z : Nat) (w : World) (hs : Sd R C) (hF : Flr w g R C (nearN C (R * C))) (hs2 : s < 2 ^ (R * C)) (hz : z < 2 ^ (R * C)) :
    Calls Tryd.prog 75 #[.pointer (some ⟨g, 0, none⟩), .agg #[.int .u32 (s : Int), .int .u32 (z : Int)]] w fun e w' => e = .returned (.agg ((calA R C z s (R * C)).map I64).toArray) ∧ Below w.heap.size w w' := by
  have hg := hF.lt
  have hgn : g ≠ w.heap.size + 1 + 1 := by omega
  have HSD := Lib.hid hs
  have HS2 := Lib.hid hs2
  have HZ2 := Lib.hid hz
  have n25 := hs.n25
  have hs25 := lt25 hs2 n25
  have hz25 := lt25 hz n25
  have hs32 : s < 4294967296 := Nat.lt_of_lt_of_le hs25 (by decide)
  have hz32 : z < 4294967296 := Nat.lt_of_lt_of_le hz25 (by decide)
  obtain ⟨N, hN⟩ : ∃ N, R * C = N := ⟨_, rfl⟩
  have HN := Lib.hid hN
  rw [hN] at n25
  clear hN hs hs2 hz hs25 hz25
  have HF := Lib.hid hF
  clear hF
  go_enter Tryd.func75, Tryd.ntmps75
  go_wp2_with fail
  have hzc : (#[.int .i64 0, .int .i64 0, .int .i64 0, .int .i64 0, .int .i64 0, .int .i64 0, .int .i64 0, .int .i64 0, .int .i64 0, .int .i64 0, .int .i64 0, .int .i64 0, .int .i64 0, .int .i64 0, .int .i64 0, .int .i64 0, .int .i64 0, .int .i64 0, .int .i64 0, .int .i64 0, .int .i64 0, .int .i64 0, .int .i64 0, .int .i64 0, .int .i64 0] : Array Value) = ((calB s 0).map I64).toArray := by rw [calB_zero]; rfl
  have A1 := ((ArrV.new (f := VV) w #[.int .u32 (s : Int), .int .u32 (z : Int)] 79 [.int .u32 (s : Int), .int .u32 (z : Int)] _ rfl rfl).alloc (.cells #[.int .i64 0, .int .i64 0, .int .i64 0, .int .i64 0, .int .i64 0, .int .i64 0, .int .i64 0, .int .i64 0, .int .i64 0, .int .i64 0, .int .i64 0, .int .i64 0, .int .i64 0, .int .i64 0, .int .i64 0, .int .i64 0, .int .i64 0, .int .i64 0, .int .i64 0, .int .i64 0, .int .i64 0, .int .i64 0, .int .i64 0, .int .i64 0, .int .i64 0] 104)).alloc (.cells #[.int .i64 0, .int .i64 0, .int .i64 0, .int .i64 0, .int .i64 0, .int .i64 0, .int .i64 0, .int .i64 0, .int .i64 0, .int .i64 0, .int .i64 0, .int .i64 0, .int .i64 0, .int .i64 0, .int .i64 0, .int .i64 0, .int .i64 0, .int .i64 0, .int .i64 0, .int .i64 0, .int .i64 0, .int .i64 0, .int .i64 0, .int .i64 0, .int .i64 0] 104)
  have A2 := (ArrV.new (f := I64) (w.alloc (.cells #[.int .u32 (s : Int), .int .u32 (z : Int)] 79)) #[.int .i64 0, .int .i64 0, .int .i64 0, .int .i64 0, .int .i64 0, .int .i64 0, .int .i64 0, .int .i64 0, .int .i64 0, .int .i64 0, .int .i64 0, .int .i64 0, .int .i64 0, .int .i64 0, .int .i64 0, .int .i64 0, .int .i64 0, .int .i64 0, .int .i64 0, .int .i64 0, .int .i64 0, .int .i64 0, .int .i64 0, .int .i64 0, .int .i64 0] 104 (List.replicate 25 0) (w.heap.size + 1) (by simp) rfl).alloc (.cells #[.int .i64 0, .int .i64 0, .int .i64 0, .int .i64 0, .int .i64 0, .int .i64 0, .int .i64 0, .int .i64 0, .int .i64 0, .int .i64 0, .int .i64 0, .int .i64 0, .int .i64 0, .int .i64 0, .int .i64 0, .int .i64 0, .int .i64 0, .int .i64 0, .int .i64 0, .int .i64 0, .int .i64 0, .int .i64 0, .int .i64 0, .int .i64 0, .int .i64 0] 104)
  have A3 := ArrV.new (f := I64) ((w.alloc (.cells #[.int .u32 (s : Int), .int .u32 (z : Int)] 79)).alloc (.cells #[.int .i64 0, .int .i64 0, .int .i64 0, .int .i64 0, .int .i64 0, .int .i64 0, .int .i64 0, .int .i64 0, .int .i64 0, .int .i64 0, .int .i64 0, .int .i64 0, .int .i64 0, .int .i64 0, .int .i64 0, .int .i64 0, .int .i64 0, .int .i64 0, .int .i64 0, .int .i64 0, .int .i64 0, .int .i64 0, .int .i64 0, .int .i64 0, .int .i64 0] 104)) #[.int .i64 0, .int .i64 0, .int .i64 0, .int .i64 0, .int .i64 0, .int .i64 0, .int .i64 0, .int .i64 0, .int .i64 0, .int .i64 0, .int .i64 0, .int .i64 0, .int .i64 0, .int .i64 0, .int .i64 0, .int .i64 0, .int .i64 0, .int .i64 0, .int .i64 0, .int .i64 0, .int .i64 0, .int .i64 0, .int .i64 0, .int .i64 0, .int .i64 0] 104 (calB s 0) (w.heap.size + 1 + 1) (by simp) hzc
  have HS0 : DaS w (((w.alloc (.cells #[.int .u32 (s : Int), .int .u32 (z : Int)] 79)).alloc (.cells #[.int .i64 0, .int .i64 0, .int .i64 0, .int .i64 0, .int .i64 0, .int .i64 0, .int .i64 0, .int .i64 0, .int .i64 0, .int .i64 0, .int .i64 0, .int .i64 0, .int .i64 0, .int .i64 0, .int .i64 0, .int .i64 0, .int .i64 0, .int .i64 0, .int .i64 0, .int .i64 0, .int .i64 0, .int .i64 0, .int .i64 0, .int .i64 0, .int .i64 0] 104)).alloc (.cells #[.int .i64 0, .int .i64 0, .int .i64 0, .int .i64 0, .int .i64 0, .int .i64 0, .int .i64 0, .int .i64 0, .int .i64 0, .int .i64 0, .int .i64 0, .int .i64 0, .int .i64 0, .int .i64 0, .int .i64 0, .int .i64 0, .int .i64 0, .int .i64 0, .int .i64 0, .int .i64 0, .int .i64 0, .int .i64 0, .int .i64 0, .int .i64 0, .int .i64 0] 104)) g R C s z (calB s 0) :=
    ⟨((HF.out.alloc _).alloc _).alloc _, A1, A2, A3, (((Below.refl _ _).alloc (Nat.le_refl _) _).alloc (by simp) _).alloc (by simp; omega) _⟩
  clear A1 A2 A3
  have HST := Lib.hid HS0
  clear HS0 hzc
  generalize (((w.alloc (.cells #[.int .u32 (s : Int), .int .u32 (z : Int)] 79)).alloc (.cells #[.int .i64 0, .int .i64 0, .int .i64 0, .int .i64 0, .int .i64 0, .int .i64 0, .int .i64 0, .int .i64 0, .int .i64 0, .int .i64 0, .int .i64 0, .int .i64 0, .int .i64 0, .int .i64 0, .int .i64 0, .int .i64 0, .int .i64 0, .int .i64 0, .int .i64 0, .int .i64 0, .int .i64 0, .int .i64 0, .int .i64 0, .int .i64 0, .int .i64 0] 104)).alloc (.cells #[.int .i64 0, .int .i64 0, .int .i64 0, .int .i64 0, .int .i64 0, .int .i64 0, .int .i64 0, .int .i64 0, .int .i64 0, .int .i64 0, .int .i64 0, .int .i64 0, .int .i64 0, .int .i64 0, .int .i64 0, .int .i64 0, .int .i64 0, .int .i64 0, .int .i64 0, .int .i64 0, .int .i64 0, .int .i64 0, .int .i64 0, .int .i64 0, .int .i64 0] 104)) = W0 at *
  go_loopw [12] (fun vn wr => ∃ n : Nat, n ≤ 25 ∧ vn = .int .i64 (n : Int) ∧ Hid (DaS w wr g R C s z (calB s n))) (fun vn _ => 25 - (intOf vn).toNat)
  case atStart => exact ⟨0, by omega, rfl, HST⟩
  case round =>
    clear HST
    obtain ⟨n, hn, rfl, hT⟩ := hrel
    by_cases hlt : n < 25
    · have q0 : (n : Int) < 25 := by omega
      have m0 := hT.out.now.there n (by rw [calB_len]; exact hlt)
      rw [Nat.zero_add] at m0
      obtain ⟨m1, m2⟩ := m0
      obtain ⟨v0, hv0⟩ := Option.isSome_iff_exists.1 m1
      have s0 := val hT.out.st 0 rfl
      have hT1 := hT.out.set hgn n (-1)
      have s1 := val hT1.st 0 rfl
      obtain ⟨B, hB⟩ : ∃ B, s.testBit n = B := ⟨_, rfl⟩
      have HB := Lib.hid hB
      have HC := Lib.hid (fun w => has_any s n w hs32 hlt B hB)
      clear hB m1
      cases B with
      | true =>
        have n0 := hT1.now.there n (by rw [List.length_set, calB_len]; exact hlt)
        rw [Nat.zero_add] at n0
        obtain ⟨n1, n2⟩ := n0
        obtain ⟨v1, hv1⟩ := Option.isSome_iff_exists.1 n1
        have HT2 : Hid (DaS w ((wr.setCell ⟨w.heap.size + 1 + 1, n, none⟩ (.int .i64 (-1))).setCell ⟨w.heap.size + 1 + 1, n, none⟩ (.int .i64 0)) g R C s z (calB s (n + 1))) := Lib.hid (by rw [← calB_hit HB.out]; exact hT1.set hgn n 0)
        clear n1 hT hT1
        go_wp2_with fail
        refine (HC.out _).mono ?_
        rintro e w2 ⟨rfl, rfl⟩
        go_wp2_with fail
        go_roundw
        case rel => first | exact ⟨n + 1, by omega, by go_num, HT2⟩ | ((repeat apply Exists.intro); exact ⟨⟨n + 1, by omega, by go_num, HT2⟩, rfl⟩)
        case measure => (simp [intOf] <;> omega)
      | false =>
        have HT2 : Hid (DaS w (wr.setCell ⟨w.heap.size + 1 + 1, n, none⟩ (.int .i64 (-1))) g R C s z (calB s (n + 1))) := Lib.hid (by rw [← calB_miss HB.out]; exact hT1)
        clear hT hT1
        go_wp2_with fail
        refine (HC.out _).mono ?_
        rintro e w2 ⟨rfl, rfl⟩
        go_wp2_with fail
        go_roundw
        case rel => first | exact ⟨n + 1, by omega, by go_num, HT2⟩ | ((repeat apply Exists.intro); exact ⟨⟨n + 1, by omega, by go_num, HT2⟩, rfl⟩)
        case measure => (simp [intOf] <;> omega)
    · obtain rfl : n = 25 := by omega
      have s0 := val hT.out.st 0 rfl
      have HT1 : Hid (DaS w wr g R C s z (calA R C z s 0)) := Lib.hid (by rw [← calB_fin]; exact hT.out)
      clear hT
      obtain ⟨W1, rfl⟩ : ∃ W, W = wr := ⟨_, rfl⟩
      go_wp2_with fail
      go_loopw [8, 7] (fun vd vr wr => ∃ d r : Nat, vd = .int .i64 ((d : Int) + 1) ∧ vr = .int .u32 (r : Int) ∧ Hid (DaS w wr g R C s z (calA R C z s d)) ∧ Hid (itr R C z s d = r ∧ d ≤ pcN 25 r)) (fun _ vr _ => 25 - pcN 25 (intOf vr).toNat)
      case atStart => exact ⟨0, s, rfl, rfl, HT1, Lib.hid ⟨rfl, Nat.zero_le _⟩⟩
      case round =>
        clear HT1 s0
        obtain ⟨d, r, rfl, rfl, hT, hI⟩ := hrel
        obtain ⟨Wd, rfl⟩ : ∃ W, W = wr := ⟨_, rfl⟩
        have hd25 : d ≤ 25 := Nat.le_trans hI.out.2 (pcN_le _ _)
        have hM : (((calA R C z s d).map I64).toArray).size = 25 := by simp [calA_len]
        have hZ := ArrV.new (f := I64) Wd #[.int .i64 0, .int .i64 0, .int .i64 0, .int .i64 0, .int .i64 0, .int .i64 0, .int .i64 0, .int .i64 0, .int .i64 0, .int .i64 0, .int .i64 0, .int .i64 0, .int .i64 0, .int .i64 0, .int .i64 0, .int .i64 0, .int .i64 0, .int .i64 0, .int .i64 0, .int .i64 0, .int .i64 0, .int .i64 0, .int .i64 0, .int .i64 0, .int .i64 0] 104 (List.replicate 25 0) Wd.heap.size rfl rfl
        have hA := hZ.setAll (calA R C z s d) (by simp [calA_len])
        have hN2 : Hid (ArrV I64 (Wd.alloc (.cells #[.int .i64 0, .int .i64 0, .int .i64 0, .int .i64 0, .int .i64 0, .int .i64 0, .int .i64 0, .int .i64 0, .int .i64 0, .int .i64 0, .int .i64 0, .int .i64 0, .int .i64 0, .int .i64 0, .int .i64 0, .int .i64 0, .int .i64 0, .int .i64 0, .int .i64 0, .int .i64 0, .int .i64 0, .int .i64 0, .int .i64 0, .int .i64 0, .int .i64 0] 104)) (w.heap.size + 1 + 1) 104 (calA R C z s d)) := Lib.hid (hT.out.now.alloc _)
        have HTH : Hid ((Wd.alloc (.cells #[.int .i64 0, .int .i64 0, .int .i64 0, .int .i64 0, .int .i64 0, .int .i64 0, .int .i64 0, .int .i64 0, .int .i64 0, .int .i64 0, .int .i64 0, .int .i64 0, .int .i64 0, .int .i64 0, .int .i64 0, .int .i64 0, .int .i64 0, .int .i64 0, .int .i64 0, .int .i64 0, .int .i64 0, .int .i64 0, .int .i64 0, .int .i64 0, .int .i64 0] 104)).there Wd.heap.size 0 ((calA R C z s d).map I64).toArray.size) := Lib.hid (by rw [hM]; simpa using hZ.there)
        have H1 := Lib.hid (ints_one (calA R C z s d))
        have HNW := Lib.hid hT.out.now
        have HMS := Lib.hid hM
        have hbs : Below Wd.heap.size Wd ((Wd.alloc (.cells #[.int .i64 0, .int .i64 0, .int .i64 0, .int .i64 0, .int .i64 0, .int .i64 0, .int .i64 0, .int .i64 0, .int .i64 0, .int .i64 0, .int .i64 0, .int .i64 0, .int .i64 0, .int .i64 0, .int .i64 0, .int .i64 0, .int .i64 0, .int .i64 0, .int .i64 0, .int .i64 0, .int .i64 0, .int .i64 0, .int .i64 0, .int .i64 0, .int .i64 0] 104)).setCells Wd.heap.size 0 ((calA R C z s d).map I64).toArray.toList) := ((Below.refl _ _).alloc (Nat.le_refl _) _).grown (grown_setCells _ _ _ _) (by simp) (fun k hk => by cases hk; exact Nat.le_refl _)
        have hT2 := hT.out.to hbs
        have xb := hT2.flr.bales
        rw [HN.out] at xb
        have HT2 := Lib.hid hT2
        have HBF := Lib.hid hA
        clear hT2 hbs hZ hA hM hT
        generalize hcal : calA R C z s d = M at *
        have HCAL := Lib.hid hcal
        clear hcal
        go_wp2_with (first
          | (refine wpList_load_row rfl 104 _ rfl (w.heap.size + 1 + 1) rfl 104 _ _ _ HNW.out Tryd.underlying104 rfl (by rw [HMS.out]; exact info104) ?_)
          | (refine wpList_store_mid rfl 104 _ _ rfl Wd.heap.size 0 _ rfl rfl HTH.out (by rw [HMS.out]; exact info104) H1.out ?_))
        have HB9 : Hid (Wd.heap.size ≠ w.heap.size + 1 + 1 ∧ w.heap.size + 1 + 1 < Wd.heap.size) := Lib.hid (by have := HNW.out.lt; omega)
        have hbk := HT2.out.below.size
        go_loopw [34, 10] (fun vn vx wr => ∃ n x : Nat, n ≤ N ∧ vn = .int .i64 (n : Int) ∧ vx = .int .u32 (x : Int) ∧ Hid (nxt R C z s d n = x ∧ x < 2 ^ 25) ∧ Hid (DaS w wr g R C s z (calM R C z s d n)) ∧ Hid (ArrV I64 wr Wd.heap.size 104 M)) (fun vn _ _ => N - (intOf vn).toNat)
        case atStart => exact ⟨0, r, by omega, rfl, rfl, Lib.hid ⟨by rw [nxt_zero]; exact hI.out.1, by rw [← hI.out.1]; exact lt25 (itr_lt HS2.out d) (by rw [HN.out]; exact n25)⟩, Lib.hid (by rw [calM_zero, HCAL.out]; exact HT2.out), HBF⟩
        case round =>
          clear HT2 HBF xb hbk
          obtain ⟨n, x, hn, rfl, rfl, hX, hT, hBF⟩ := hrel
          have hr25 : r < 2 ^ 25 := by rw [← hI.out.1]; exact lt25 (itr_lt HS2.out d) (by rw [HN.out]; exact n25)
          by_cases hlt : n < N
          · have q0 : (n : Int) < (N : Int) := by omega
            have hr32 : r < 4294967296 := Nat.lt_of_lt_of_le hr25 (by decide)
            have hn25 : n < 25 := by omega
            have q1 : (n : Int) < 25 := by omega
            obtain ⟨B1, hB1⟩ : ∃ B, r.testBit n = B := ⟨_, rfl⟩
            have HB1 := Lib.hid hB1
            have HC1 := Lib.hid (fun w => has_any r n w hr32 hn25 B1 hB1)
            clear hB1 hr25
            cases B1 with
            | true =>
              have HG : Hid (gets R C z (itr R C z s d) n = false) := Lib.hid (by rw [hI.out.1]; simp [gets, HB1.out])
              have HXM : Hid (nxt R C z s d (n + 1) = x ∧ x < 2 ^ 25) := Lib.hid (by rw [nxt_miss HG.out]; exact hX.out)
              have HTM : Hid (DaS w wr g R C s z (calM R C z s d (n + 1))) := Lib.hid (by rw [calM_miss HG.out]; exact hT.out)
              clear hX hT
              go_wp2_with fail
              refine (HC1.out _).mono ?_
              rintro e w2 ⟨rfl, rfl⟩
              go_wp2_with fail
              go_roundw
              case rel => first | exact ⟨n + 1, x, by omega, by go_num, rfl, HXM, HTM, hBF⟩ | ((repeat apply Exists.intro); exact ⟨⟨n + 1, x, by omega, by go_num, rfl, HXM, HTM, hBF⟩, rfl⟩)
              case measure => (simp [intOf] <;> omega)
            | false =>
              obtain ⟨B2, hB2⟩ : ∃ B, z.testBit n = B := ⟨_, rfl⟩
              have HB2 := Lib.hid hB2
              have HC2 := Lib.hid (fun w => has_any z n w hz32 hn25 B2 hB2)
              have s1 := val hT.out.st 1 rfl
              clear hB2
              cases B2 with
              | true =>
                have HG : Hid (gets R C z (itr R C z s d) n = false) := Lib.hid (by rw [hI.out.1]; simp [gets, HB2.out])
                have HXM : Hid (nxt R C z s d (n + 1) = x ∧ x < 2 ^ 25) := Lib.hid (by rw [nxt_miss HG.out]; exact hX.out)
                have HTM : Hid (DaS w wr g R C s z (calM R C z s d (n + 1))) := Lib.hid (by rw [calM_miss HG.out]; exact hT.out)
                clear hX hT
                go_wp2_with fail
                refine (HC1.out _).mono ?_
                rintro e w2 ⟨rfl, rfl⟩
                go_wp2_with fail
                refine (HC2.out _).mono ?_
                rintro e w2 ⟨rfl, rfl⟩
                go_wp2_with fail
                go_roundw
                case rel => first | exact ⟨n + 1, x, by omega, by go_num, rfl, HXM, HTM, hBF⟩ | ((repeat apply Exists.intro); exact ⟨⟨n + 1, x, by omega, by go_num, rfl, HXM, HTM, hBF⟩, rfl⟩)
                case measure => (simp [intOf] <;> omega)
              | false =>
                have m0 := hT.out.flr.near n (by rw [nearN_len]; exact hn25)
                rw [near_at HSD.out (by rw [HN.out]; exact hlt)] at m0
                have hcp := cnt_pc HSD.out (n := n) (by rw [HN.out]; exact hlt) r
                obtain ⟨k, hk⟩ : ∃ k, nbS R C n = k := ⟨_, rfl⟩
                rw [hk] at m0 hcp
                have hk32 : k < 4294967296 := by rw [← hk]; exact Nat.lt_of_lt_of_le (lt25 (nbS_lt HSD.out (by rw [HN.out]; exact hlt)) (by rw [HN.out]; exact n25)) (by decide)
                obtain ⟨y, hy⟩ : ∃ y, k &&& r = y := ⟨_, rfl⟩
                have f1 : bits .and .u32 (k : Int) (r : Int) = (y : Int) := by rw [u32_and_nat k r hk32 hr32, hy]
                have hy32 : y < 4294967296 := by rw [← hy]; exact Nat.lt_of_le_of_lt Nat.and_le_left hk32
                rw [hy] at hcp
                obtain ⟨c, hc⟩ : ∃ c, cnt R C r n = c := ⟨_, rfl⟩
                rw [hc] at hcp
                have HCN := Lib.hid hc
                have HC3 : Hid (∀ w, Calls Tryd.prog 61 #[.int .u32 (y : Int)] w fun e w' => e = .returned (.int .i64 (c : Int)) ∧ ∃ m, w' = w.drewN m) := Lib.hid fun w => by have := size_any y w hy32; rw [hcp] at this; exact this
                clear hcp hc hk hy
                by_cases h2 : 2 ≤ c
                · have HG : Hid (gets R C z (itr R C z s d) n = true) := Lib.hid (by rw [hI.out.1]; simp [gets, HB1.out, HB2.out, HCN.out]; exact h2)
                  have c1 : decide ((1 : Int) < (c : Int)) = true := by simp; omega
                  have c2 : 1 < c := by omega
                  obtain ⟨V, r2, hr2, hr25, hV1, f2, f3, f4, f5⟩ := or_facts x n hX.out.2 hn25
                  have HXM : Hid (nxt R C z s d (n + 1) = r2 ∧ r2 < 2 ^ 25) := Lib.hid ⟨by rw [← nxt_hit HG.out, hX.out.1, hr2], hr25⟩
                  have m1 := hT.out.now.there n (by rw [calM_len]; exact hn25)
                  rw [Nat.zero_add] at m1
                  obtain ⟨m2, m3⟩ := m1
                  obtain ⟨v0, hv0⟩ := Option.isSome_iff_exists.1 m2
                  have HTM : Hid (∀ m, DaS w ((wr.drewN m).setCell ⟨w.heap.size + 1 + 1, n, none⟩ (.int .i64 ((d : Int) + 1))) g R C s z (calM R C z s d (n + 1))) := Lib.hid fun m => by
                    rw [← calM_hit (by rw [HN.out]; exact hlt) HG.out]; exact (hT.out.to (belowN (Below.refl _ _) m)).set hgn n _
                  have HBF2 : Hid (∀ m, ArrV I64 ((wr.drewN m).setCell ⟨w.heap.size + 1 + 1, n, none⟩ (.int .i64 ((d : Int) + 1))) Wd.heap.size 104 M) := Lib.hid fun m => (hBF.out.drewN m).other (by simp only []; exact fun e => HB9.out.1 e.symm) _
                  clear hr2 hr25 m2 hX hT hBF h2
                  go_wp2_with fail
                  refine (HC1.out _).mono ?_
                  rintro e w2 ⟨rfl, rfl⟩
                  go_wp2_with fail
                  refine (HC2.out _).mono ?_
                  rintro e w2 ⟨rfl, rfl⟩
                  go_wp2_with fail
                  refine (HC3.out _).mono ?_
                  rintro e w2 ⟨rfl, mm, rfl⟩
                  go_wp2_with fail
                  go_roundw
                  case rel => first | exact ⟨n + 1, r2, by omega, by go_num, rfl, HXM, Lib.hid (HTM.out _), Lib.hid (HBF2.out _)⟩ | ((repeat apply Exists.intro); exact ⟨⟨n + 1, r2, by omega, by go_num, rfl, HXM, Lib.hid (HTM.out _), Lib.hid (HBF2.out _)⟩, rfl⟩)
                  case measure => (simp [intOf] <;> omega)
                · have HG : Hid (gets R C z (itr R C z s d) n = false) := Lib.hid (by rw [hI.out.1]; simp [gets, HB1.out, HB2.out, HCN.out]; omega)
                  have c1 : decide ((1 : Int) < (c : Int)) = false := by simp; omega
                  have c2 : ¬ 1 < c := by omega
                  have HXM : Hid (nxt R C z s d (n + 1) = x ∧ x < 2 ^ 25) := Lib.hid (by rw [nxt_miss HG.out]; exact hX.out)
                  have HTM : Hid (∀ m, DaS w (wr.drewN m) g R C s z (calM R C z s d (n + 1))) := Lib.hid fun m => by rw [calM_miss HG.out]; exact hT.out.to (belowN (Below.refl _ _) m)
                  have HBF2 : Hid (∀ m, ArrV I64 (wr.drewN m) Wd.heap.size 104 M) := Lib.hid fun m => hBF.out.drewN m
                  clear hX hT hBF h2
                  go_wp2_with fail
                  refine (HC1.out _).mono ?_
                  rintro e w2 ⟨rfl, rfl⟩
                  go_wp2_with fail
                  refine (HC2.out _).mono ?_
                  rintro e w2 ⟨rfl, rfl⟩
                  go_wp2_with fail
                  refine (HC3.out _).mono ?_
                  rintro e w2 ⟨rfl, mm, rfl⟩
                  go_wp2_with fail
                  go_roundw
                  case rel => first | exact ⟨n + 1, x, by omega, by go_num, rfl, HXM, Lib.hid (HTM.out _), Lib.hid (HBF2.out _)⟩ | ((repeat apply Exists.intro); exact ⟨⟨n + 1, x, by omega, by go_num, rfl, HXM, Lib.hid (HTM.out _), Lib.hid (HBF2.out _)⟩, rfl⟩)
                  case measure => (simp [intOf] <;> omega)
          · obtain rfl : n = N := by omega
            have HX1 : Hid (itr R C z s (d + 1) = x) := Lib.hid (by rw [← nxt_fin, HN.out]; exact hX.out.1)
            have hnow : ArrV I64 wr (w.heap.size + 1 + 1) 104 (calA R C z s (d + 1)) := by rw [← calM_fin, HN.out]; exact hT.out.now
            have hne : (calA R C z s (d + 1) = calA R C z s d) ↔ x = r := by rw [calA_eq (by rw [HN.out]; exact n25), HX1.out, hI.out.1]
            have hl2 := calA_len R C z s (d + 1)
            have hl1 : M.length = 25 := by rw [← HCAL.out]; exact calA_len _ _ _ _ _
            rw [HCAL.out] at hne
            generalize hcal2 : calA R C z s (d + 1) = M2 at *
            have HCAL2 := Lib.hid hcal2
            have he := eq_days M2 M wr hl2 hl1
            obtain ⟨B, hB⟩ : ∃ B, decide (M2 = M) = B := ⟨_, rfl⟩
            rw [hB] at he
            have HMS2 : Hid (((M2.map I64).toArray).size = 25) := Lib.hid (by simp [hl2])
            have HNW2 := Lib.hid hnow
            have HNE := Lib.hid hne
            have HBB := Lib.hid hB
            clear hnow hl1 hl2 hne hcal2 hB
            cases B with
            | true =>
              have HE : Hid (M2 = M) := Lib.hid (of_decide_eq_true HBB.out)
              have HFIN : Hid (M2 = calA R C z s (R * C)) := Lib.hid (by
                have h1 : itr R C z s (d + 1) = itr R C z s d := by rw [HX1.out, hI.out.1, HNE.out.1 HE.out]
                rw [HE.out, ← HCAL.out, calA_days h1])
              have hres := hT.out.res
              have THR : Hid (wr.there (w.heap.size + 1) 0 ((M2.map I64).toArray).size) := Lib.hid (by rw [HMS2.out]; simpa using hres.there)
              have HFR := Lib.hid (hres.setAll M2 (by have := HMS2.out; simp at this; simp [this]))
              have H12 := Lib.hid (ints_one M2)
              have HBW := Lib.hid (hT.out.below.trans ((Below.refl _ wr).grown (grown_setCells (w.heap.size + 1) (M2.map I64).toArray.toList 0 wr) hT.out.below.size (fun k hk => by cases hk; exact Nat.le_succ _)))
              clear hres hT hX
              go_wp2_with (first
                | (refine wpList_load_row rfl 104 (.tmp 5) rfl (w.heap.size + 1 + 1) rfl 104 _ _ _ HNW2.out Tryd.underlying104 rfl (by rw [HMS2.out]; exact info104) ?_)
                | (refine wpList_load_row rfl 104 (.tmp 9) rfl Wd.heap.size rfl 104 _ _ _ hBF.out Tryd.underlying104 rfl (by rw [HMS.out]; exact info104) ?_)
                | (refine wpList_store_mid rfl 104 (.tmp 4) (.tmp 71) rfl (w.heap.size + 1) 0 _ rfl rfl THR.out (by rw [HMS2.out]; exact info104) H12.out ?_))
              rw [← HFIN.out]
              refine bodyPost_ret (v := .agg (M2.map I64).toArray) (results_cell_row (p := 4) (ty := 104) rfl _ _ (w.heap.size + 1) 104 _ _ _ rfl HFR.out Tryd.underlying104 rfl (by rw [HMS2.out]; exact info104)) rfl ⟨rfl, HBW.out⟩
            | false =>
              have HXR : Hid (itr R C z s (d + 1) ≠ itr R C z s d) := Lib.hid (by
                rw [HX1.out, hI.out.1]
                exact fun e => of_decide_eq_false HBB.out (HNE.out.2 e))
              have HPC : Hid (pcN 25 r < pcN 25 x) := Lib.hid (by rw [← HX1.out, ← hI.out.1]; exact pc_grows (by rw [HN.out]; exact n25) HXR.out)
              have HI2 : Hid (itr R C z s (d + 1) = x ∧ d + 1 ≤ pcN 25 x) := Lib.hid ⟨HX1.out, by have := hI.out.2; have := HPC.out; omega⟩
              have HT2 : Hid (DaS w wr g R C s z (calA R C z s (d + 1))) := Lib.hid (by rw [← calM_fin, HN.out]; exact hT.out)
              have HPL := Lib.hid (pcN_le 25 x)
              clear hT hX
              go_wp2_with (first
                | (refine wpList_load_row rfl 104 (.tmp 5) rfl (w.heap.size + 1 + 1) rfl 104 _ _ _ HNW2.out Tryd.underlying104 rfl (by rw [HMS2.out]; exact info104) ?_)
                | (refine wpList_load_row rfl 104 (.tmp 9) rfl Wd.heap.size rfl 104 _ _ _ hBF.out Tryd.underlying104 rfl (by rw [HMS.out]; exact info104) ?_))
              go_roundw
              case rel => first | exact ⟨d + 1, x, by go_num, rfl, HT2, HI2⟩ | ((repeat apply Exists.intro); exact ⟨⟨d + 1, x, by go_num, rfl, HT2, HI2⟩, rfl⟩)
              case measure => (simp [intOf]; have := HPC.out; have := HPL.out; omega)
end Go.Proofs.YtbhjphcomppjgaaDoor
