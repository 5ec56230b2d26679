/- Chapter 11: an argument of labels. -/
import Derived.Test.YtjedmiegcbdedaaLib7
import Derived.Test.YtjedmiegcbdedaaXg
import Derived.Deep.MidRow
import Derived.Test.YtjedmiegcbdedaaPr
import Derived.Test.YtjedmiegcbdedaaWf
namespace Go.Proofs.Ytjedmiegcbdedaa
open Go.RowKit Go.ChangeShapes Go.WideShapes Store11
theorem cells5 : Try.prog.cellsOf 5 = 1 := by kernel_rfl
theorem cells54 : Try.prog.cellsOf 54 = 9 := by kernel_rfl
theorem cells56 : Try.prog.cellsOf 56 = 19 := by kernel_rfl
theorem flat5 : FlatTy Try.prog 5 [.u8] := flat_int Try.underlying5 cells5
set_option maxRecDepth 100000 in
theorem flat54 : FlatTy Try.prog 54 [.u8, .u8, .u8, .u8, .u8, .u8, .u8, .u8, .u8] :=
  flat_array (kss := [[.u8], [.u8], [.u8], [.u8], [.u8], [.u8], [.u8], [.u8], [.u8]]) Try.underlying54 cells54 (by
    rw [cells5]
    exact ⟨rfl, flat5, rfl, flat5, rfl, flat5, rfl, flat5, rfl, flat5, rfl, flat5, rfl, flat5, rfl, flat5, rfl, flat5, trivial⟩)
set_option maxRecDepth 100000 in
theorem flat56 : FlatTy Try.prog 56 (List.replicate 19 .u8) :=
  flat_struct (kss := [[.u8], [.u8, .u8, .u8, .u8, .u8, .u8, .u8, .u8, .u8], [.u8, .u8, .u8, .u8, .u8, .u8, .u8, .u8, .u8]]) Try.underlying56 cells56 ⟨rfl, flat5, rfl, flat54, rfl, flat54, trivial⟩
/-- a number of eight bits -/
def B8 (z : Int) : Prop := 0 ≤ z ∧ z < 256
theorem b8_of {z : Int} (h : (Lit.int .u8 z).wf = true) : B8 z := by
  simp [Lit.wf, IntKind.min, IntKind.max, IntKind.signed, IntKind.bits] at h
  unfold B8; omega
set_option maxRecDepth 100000 in
theorem open_labels {H : Type} {enc : TypeId × Value → H} {W : World} {base : Nat} {sp : Nat → Bool} {held : Bool} {r : Reach} {b0 : Nat} {v : Value} {d : DataW H} {ps : List MemPlace} (hval : Value.okWide Try.prog W r b0 56 v) (hd : DataW.Trod enc Try.prog W base sp held 56 v d ps) :
    ∃ bx x0 x1 x2 x3 x4 x5 x6 x7 x8 y0 y1 y2 y3 y4 y5 y6 y7 y8 : Int, v = .agg #[U8 bx, U8 x0, U8 x1, U8 x2, U8 x3, U8 x4, U8 x5, U8 x6, U8 x7, U8 x8, U8 y0, U8 y1, U8 y2, U8 y3, U8 y4, U8 y5, U8 y6, U8 y7, U8 y8] ∧ B8 bx ∧ (∀ i, B8 (([x0, x1, x2, x3, x4, x5, x6, x7, x8] : List Int).getD i 0)) ∧ (∀ i, B8 (([y0, y1, y2, y3, y4, y5, y6, y7, y8] : List Int).getD i 0)) ∧ ps = [] ∧
      ∀ (W' : World) (base' : Nat) (sp' : Nat → Bool) (held' : Bool), DataW.Trod enc Try.prog W' base' sp' held' 56 v d [] := by
  obtain ⟨zs, hz, rfl, hw, rfl, hs⟩ := open_flat flat56 (.inl ⟨_, Try.underlying56⟩) hval hd
  match zs, hz with
  | [bx, x0, x1, x2, x3, x4, x5, x6, x7, x8, y0, y1, y2, y3, y4, y5, y6, y7, y8], _ =>
    have hb : ∀ i, i < 19 → B8 (([bx, x0, x1, x2, x3, x4, x5, x6, x7, x8, y0, y1, y2, y3, y4, y5, y6, y7, y8] : List Int).getD i 0) := fun i hi => b8_of (by
      have := hw i (by simpa using hi)
      rwa [show (List.replicate 19 IntKind.u8).getD i .i64 = .u8 by rw [List.getD, List.getElem?_replicate, if_pos hi]; rfl] at this)
    refine ⟨bx, x0, x1, x2, x3, x4, x5, x6, x7, x8, y0, y1, y2, y3, y4, y5, y6, y7, y8, rfl, hb 0 (by omega), fun i => ?_, fun i => ?_, rfl, hs⟩
    · by_cases hi : i < 9
      · have := hb (i + 1) (by omega)
        rcases (by omega : i = 0 ∨ i = 1 ∨ i = 2 ∨ i = 3 ∨ i = 4 ∨ i = 5 ∨ i = 6 ∨ i = 7 ∨ i = 8) with rfl | rfl | rfl | rfl | rfl | rfl | rfl | rfl | rfl <;> exact this
      · rw [List.getD, List.getElem?_eq_none (by simp; omega)]; exact ⟨by decide, by decide⟩
    · by_cases hi : i < 9
      · have := hb (i + 10) (by omega)
        rcases (by omega : i = 0 ∨ i = 1 ∨ i = 2 ∨ i = 3 ∨ i = 4 ∨ i = 5 ∨ i = 6 ∨ i = 7 ∨ i = 8) with rfl | rfl | rfl | rfl | rfl | rfl | rfl | rfl | rfl <;> exact this
      · rw [List.getD, List.getElem?_eq_none (by simp; omega)]; exact ⟨by decide, by decide⟩

theorem wf_chk {l : List Int} (h : chkL l = 0) : Wf l := by
  intro x hx
  obtain ⟨k, hk, rfl⟩ := List.mem_iff_getElem.1 hx
  have hs := chkL_size h
  have := chkL_bound h k hk
  rw [List.getD, List.getElem?_eq_getElem hk] at this
  simp only [Option.getD_some] at this
  simp [Lit.wf, IntKind.min, IntKind.max, IntKind.signed, IntKind.bits]
  omega
/-- what 'made' leaves: two divisions of N boxes -/
def MadeIs (w : World) (N r : Nat) (e : Ending) (w' : World) : Prop :=
  ∃ a c b d d1 d2, e = .returned (.tuple #[.slice a N c, .slice b N d]) ∧ IsL w' a N c d1 ∧ IsL w' b N d d2 ∧ Below w.heap.size w w' ∧ chkL d1 = 0 ∧ chkL d2 = 0 ∧ (∀ i, i < N → d1.getD i 0 < r) ∧ ∀ i, i < N → d2.getD i 0 < r
theorem made_is (bx x0 x1 x2 x3 x4 x5 x6 x7 x8 y0 y1 y2 y3 y4 y5 y6 y7 y8 : Int) (most r : Nat) (w : World) (hb0 : B8 bx) (hb1 : ∀ i, B8 (([x0, x1, x2, x3, x4, x5, x6, x7, x8] : List Int).getD i 0)) (hb2 : ∀ i, B8 (([y0, y1, y2, y3, y4, y5, y6, y7, y8] : List Int).getD i 0)) (hm : 1 ≤ most) (hm9 : most ≤ 9) (hr : 1 ≤ r) (hr9 : r ≤ 9) :
    ∃ N : Nat, 1 ≤ N ∧ N ≤ most ∧ Calls Try.prog 52 #[.agg #[U8 bx, U8 x0, U8 x1, U8 x2, U8 x3, U8 x4, U8 x5, U8 x6, U8 x7, U8 x8, U8 y0, U8 y1, U8 y2, U8 y3, U8 y4, U8 y5, U8 y6, U8 y7, U8 y8], .int .i64 (most : Int), .int .i64 (r : Int)] w (MadeIs w N r) := by
  have m1 := Int.emod_nonneg bx (b := (most : Int)) (by omega)
  have m2 := Int.emod_lt_of_pos bx (b := (most : Int)) (by omega)
  obtain ⟨N, hN⟩ : ∃ N : Nat, 1 + bx % (most : Int) = (N : Int) := ⟨(1 + bx % (most : Int)).toNat, by omega⟩
  have key : ∀ L : List Int, L.length = 9 → (L.take N |>.map (· % (r : Int))).length = N := fun L hL => by simp [hL]; omega
  have few : ∀ L : List Int, L.length = 9 → ∀ i, i < N → (divL (L.take N |>.map (· % (r : Int)))).getD i 0 < r := fun L hL i hi => divL_few _ r (by omega) (fun x hx => by
    obtain ⟨y, _, rfl⟩ := List.mem_map.1 hx
    exact ⟨Int.emod_nonneg y (by omega), Int.emod_lt_of_pos y (by omega)⟩) i (by rw [key L hL]; exact hi)
  refine ⟨N, by omega, by omega, (made_any bx x0 x1 x2 x3 x4 x5 x6 x7 x8 y0 y1 y2 y3 y4 y5 y6 y7 y8 most r w hb0 hb1 hb2 hm hm9 hr hr9 N hN).mono ?_⟩
  rintro e w' ⟨a, c, b, d, rfl, h1, h2, hb⟩
  exact ⟨a, c, b, d, _, _, rfl, h1, h2, hb, divI_chk _ (by rw [key _ rfl]; omega) (by rw [key _ rfl]; omega), divI_chk _ (by rw [key _ rfl]; omega) (by rw [key _ rfl]; omega), few _ rfl, few _ rfl⟩
/-- labels, as the laws take them -/
def LabArg (L : List Value) : Prop :=
  L.length = 19 ∧ ∀ (most r : Nat) (w : World), 1 ≤ most → most ≤ 9 → 1 ≤ r → r ≤ 9 → ∃ N : Nat, 1 ≤ N ∧ N ≤ most ∧ Calls Try.prog 52 #[.agg L.toArray, .int .i64 (most : Int), .int .i64 (r : Int)] w (MadeIs w N r)
theorem lab_arg (bx x0 x1 x2 x3 x4 x5 x6 x7 x8 y0 y1 y2 y3 y4 y5 y6 y7 y8 : Int) (hb0 : B8 bx) (hb1 : ∀ i, B8 (([x0, x1, x2, x3, x4, x5, x6, x7, x8] : List Int).getD i 0)) (hb2 : ∀ i, B8 (([y0, y1, y2, y3, y4, y5, y6, y7, y8] : List Int).getD i 0)) : LabArg [U8 bx, U8 x0, U8 x1, U8 x2, U8 x3, U8 x4, U8 x5, U8 x6, U8 x7, U8 x8, U8 y0, U8 y1, U8 y2, U8 y3, U8 y4, U8 y5, U8 y6, U8 y7, U8 y8] :=
  ⟨rfl, fun most r w h1 h2 h3 h4 => made_is bx x0 x1 x2 x3 x4 x5 x6 x7 x8 y0 y1 y2 y3 y4 y5 y6 y7 y8 most r w hb0 hb1 hb2 h1 h2 h3 h4⟩
theorem lab_range (w : World) (L : List Value) : (w.alloc (.cells L.toArray 56)).rangeAt w.heap.size 0 L := by
  intro j v hj
  simp [go_sem, hj]
theorem info56 {L : List Value} (h : L.length = 19) : (Try.prog.info? 56).map (·.size) = some L.length := by rw [h]; kernel_rfl
end Go.Proofs.Ytjedmiegcbdedaa
