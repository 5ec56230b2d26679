/- The top chapter: what the rows' frames share: the table, numbers as they were handed in. -/
import Derived.Test.YtpfaoagddgcmbaaDoorDd
import Derived.Test.YtpfaoagddgcmbaaDoorLib7
import Derived.Test.YtpfaoagddgcmbaaDoorCards
import Derived.Test.YtpfaoagddgcmbaaDoorTie
import Derived.WalkKit
import Derived.ProofKit
import Derived.OpenShut
import Derived.Below
import Derived.Carry
import Derived.Deep.DeepHandedRow
import Derived.Lib.LaidTab
import Derived.LaidSub
namespace Go.Proofs.YtpfaoagddgcmbaaDoor
open Go.ChangeShapes Go.WideShapes Go.ChangeAt Go.RowKit

theorem ownT : ownKnob Tryd.prog.godebug = none := by kernel_rfl
theorem laidOutT : laidOutB Tryd.prog = true := by kernel_rfl
theorem gTabT : Tryd.prog.globalNamed "math/bits.deBruijn64tab" = some 1 := by kernel_rfl
theorem gTabTypeT : (Tryd.prog.globals[1]?).map (·.type) = some 188 := by kernel_rfl
theorem cells64T : Tryd.prog.cellsOf 188 = 64 := by kernel_rfl
theorem cells5T : Tryd.prog.cellsOf 5 = 1 := by kernel_rfl
theorem cells7T : Tryd.prog.cellsOf 22 = 7 := by kernel_rfl
/-- The row's list gives the table. -/
theorem tableT {W : World} (h : laidMetH Tryd.prog [("math/bits.deBruijn32tab", Rows.laid_math_bits_deBruijn32tab), ("math/bits.deBruijn64tab", Rows.laid_math_bits_deBruijn64tab)] W) : Tab W := by
  have h2 := h.filter (fun x => x.1 == "math/bits.deBruijn64tab")
  have e : ([("math/bits.deBruijn32tab", Rows.laid_math_bits_deBruijn32tab), ("math/bits.deBruijn64tab", Rows.laid_math_bits_deBruijn64tab)] : List (String × DataW Unit)).filter (fun x => x.1 == "math/bits.deBruijn64tab") = [("math/bits.deBruijn64tab", Rows.laid_math_bits_deBruijn64tab)] := by
    rw [List.filter_cons_of_neg (by decide), List.filter_cons_of_pos (by decide), List.filter_nil]
  rw [e] at h2
  have ht : Lib.TabIs Tryd.prog W "math/bits.deBruijn64tab" .u8 (Lib.deBruijn64tab.map fun (n : Nat) => (n : Int)) := Lib.tabIs_of_head (rest := []) gTabT gTabTypeT Tryd.underlying188 Tryd.underlying5 cells5T cells64T h2
  intro j hj
  have := ht.cell gTabT j (by simpa using hj)
  rw [this]
  congr 2
  have hj' : j < Lib.deBruijn64tab.length := hj
  simp [List.getD, hj']
def layT (tab : List Nat) : Obj → Obj
  | .cells _ t frozen => .cells (tab.map fun (n : Nat) => Value.int .u8 (n : Int)).toArray t frozen
  | o => o
/-- A world for the witness: the tables lie in blocks 0 and 1. -/
noncomputable def laidWorldT (os : Os) : World :=
  { World.holding Tryd.prog os ⟨#[], #[], []⟩ with heap := ((World.holding Tryd.prog os ⟨#[], #[], []⟩).heap.modify 0 (layT Lib.deBruijn32tab)).modify 1 (layT Lib.deBruijn64tab) }
def B8 (z : Int) : Prop := 0 ≤ z ∧ z < 256
def B16 (z : Int) : Prop := 0 ≤ z ∧ z < 65536
theorem b8_of {z : Int} (h : (Lit.int .u8 z).wf = true) : B8 z := by
  simp [Lit.wf, IntKind.min, IntKind.max, IntKind.signed, IntKind.bits] at h
  unfold B8; omega
theorem b16_of {z : Int} (h : (Lit.int .u16 z).wf = true) : B16 z := by
  simp [Lit.wf, IntKind.min, IntKind.max, IntKind.signed, IntKind.bits] at h
  unfold B16; omega
set_option maxRecDepth 100000 in
theorem open_u8T {H : Type} {enc : TypeId × Value → H} {W : World} {r : Reach} {b0 : Nat} {v : Value} {d : DataW H} {ps : List MemPlace} (hv : Value.okWide Tryd.prog W r b0 5 v) (h : DataW.Trod enc Tryd.prog W 0 (fun _ => true) true 5 v d ps) :
    ∃ x : Int, v = .int .u8 x ∧ B8 x := by
  obtain ⟨x, rfl, _, _, wx⟩ := open_int Tryd.underlying5 hv h
  exact ⟨x, rfl, b8_of wx⟩
set_option maxRecDepth 100000 in
theorem open_u16T {H : Type} {enc : TypeId × Value → H} {W : World} {r : Reach} {b0 : Nat} {v : Value} {d : DataW H} {ps : List MemPlace} (hv : Value.okWide Tryd.prog W r b0 60 v) (h : DataW.Trod enc Tryd.prog W 0 (fun _ => true) true 60 v d ps) :
    ∃ x : Int, v = .int .u16 x ∧ B16 x := by
  obtain ⟨x, rfl, _, _, wx⟩ := open_int Tryd.underlying60 hv h
  exact ⟨x, rfl, b16_of wx⟩
theorem flat5T : FlatTy Tryd.prog 5 [.u8] := flat_int Tryd.underlying5 cells5T
set_option maxRecDepth 100000 in
theorem flat7T : FlatTy Tryd.prog 22 [.u8, .u8, .u8, .u8, .u8, .u8, .u8] :=
  flat_array (kss := [[.u8], [.u8], [.u8], [.u8], [.u8], [.u8], [.u8]]) Tryd.underlying22 cells7T (by
    rw [cells5T]
    exact ⟨rfl, flat5T, rfl, flat5T, rfl, flat5T, rfl, flat5T, rfl, flat5T, rfl, flat5T, rfl, flat5T, trivial⟩)
set_option maxRecDepth 100000 in
theorem open_by7 {H : Type} {enc : TypeId × Value → H} {W : World} {base : Nat} {sp : Nat → Bool} {held : Bool} {r : Reach} {b0 : Nat} {v : Value} {d : DataW H} {ps : List MemPlace} (hval : Value.okWide Tryd.prog W r b0 22 v) (hd : DataW.Trod enc Tryd.prog W base sp held 22 v d ps) :
    ∃ x0 x1 x2 x3 x4 x5 x6 : Int, v = .agg #[.int .u8 x0, .int .u8 x1, .int .u8 x2, .int .u8 x3, .int .u8 x4, .int .u8 x5, .int .u8 x6] ∧ (∀ i, B8 (([x0, x1, x2, x3, x4, x5, x6] : List Int).getD i 0)) ∧ ps = [] ∧
      ∀ (W' : World) (base' : Nat) (sp' : Nat → Bool) (held' : Bool), DataW.Trod enc Tryd.prog W' base' sp' held' 22 v d [] := by
  obtain ⟨zs, hz, rfl, hw, rfl, hs⟩ := open_flat flat7T (.inr ⟨_, _, Tryd.underlying22⟩) hval hd
  match zs, hz with
  | [x0, x1, x2, x3, x4, x5, x6], _ =>
    refine ⟨x0, x1, x2, x3, x4, x5, x6, rfl, fun i => ?_, rfl, hs⟩
    by_cases hi : i < 7
    · have := hw i (by simpa using hi)
      refine b8_of ?_
      rcases (by omega : i = 0 ∨ i = 1 ∨ i = 2 ∨ i = 3 ∨ i = 4 ∨ i = 5 ∨ i = 6) with rfl | rfl | rfl | rfl | rfl | rfl | rfl <;> exact this
    · rw [List.getD, List.getElem?_eq_none (by simp; omega)]; exact ⟨by decide, by decide⟩
end Go.Proofs.YtpfaoagddgcmbaaDoor
