/- Chapter 9: what the rows' frames share: the table, and a store as it was handed in. -/
import Derived.Test.YtbhjphcomppjgaaDoorWs
import Derived.Test.YtbhjphcomppjgaaDoorCards
import Derived.Test.YtbhjphcomppjgaaDoorTie
import Derived.WalkKit
import Derived.ProofKit
import Derived.OpenShut
import Derived.Below
import Derived.Carry
import Derived.Lib.SmallJoins
import Derived.Deep.DeepHandedRow
import Derived.Lib.LaidTab
namespace Go.Proofs.YtbhjphcomppjgaaDoor
open Go.ChangeShapes Go.WideShapes Go.ChangeAt Go.RowKit Beetle09

theorem own9 : ownKnob Tryd.prog.godebug = none := by kernel_rfl
theorem laidOut9 : laidOutB Tryd.prog = true := by kernel_rfl
theorem gTab9 : Tryd.prog.globalNamed "math/bits.deBruijn32tab" = some 0 := by kernel_rfl
theorem gTabType9 : (Tryd.prog.globals[0]?).map (·.type) = some 112 := by kernel_rfl
theorem cells112 : Tryd.prog.cellsOf 112 = 32 := by kernel_rfl
theorem cells5' : Tryd.prog.cellsOf 5 = 1 := by kernel_rfl
theorem cells24' : Tryd.prog.cellsOf 24 = 4 := by kernel_rfl
/-- The row's list gives the table. -/
theorem table9 {W : World} (h : laidMetH Tryd.prog [("math/bits.deBruijn32tab", Rows.laid_math_bits_deBruijn32tab)] W) : Tab W := by
  have ht : Lib.TabIs Tryd.prog W "math/bits.deBruijn32tab" .u8 (Lib.deBruijn32tab.map fun (n : Nat) => (n : Int)) := Lib.tabIs_of_head (rest := []) gTab9 gTabType9 Tryd.underlying112 Tryd.underlying5 cells5' cells112 h
  intro j hj
  have := ht.cell gTab9 j (by simpa using hj)
  rw [this]
  congr 2
  have hj' : j < Lib.deBruijn32tab.length := hj
  simp [List.getD, hj']
/-- A world for the witness: the table lies in block 0. -/
noncomputable def laidWorld9 (os : Os) : World :=
  { World.holding Tryd.prog os ⟨#[], #[], []⟩ with heap := (World.holding Tryd.prog os ⟨#[], #[], []⟩).heap.modify 0 fun
      | .cells _ t frozen => .cells (Lib.deBruijn32tab.map fun (n : Nat) => Value.int .u8 (n : Int)).toArray t frozen
      | o => o }
/-- A slice of numbers, as a field. -/
theorem open_ints9 {H : Type} {enc : TypeId × Value → H} {W : World} {n : Nat} {v : Value} {y : DataW H × List MemPlace} (h : DataW.trod enc Tryd.prog W 0 (fun _ => true) true n 22 [v] = some y) : ∃ a l c L, v = .slice a l c ∧ IsL W a l c L := by
  rcases open_ints Tryd.underlying22 Tryd.underlying3 (by kernel_rfl) h with ⟨hcs, _⟩ | ⟨x, l, c, zs, hcs, _, hl, hm, hz, _, hcell, hwz⟩
  · simp at hcs
    exact ⟨none, 0, 0, [], hcs, IsL.nilL _⟩
  · simp at hcs
    exact ⟨_, l, c, zs.take l, hcs, RowIn.isL (.inr ⟨x, rfl, hl, hm, by simpa using hz, hcell, hwz⟩)⟩
theorem int_form9 {H : Type} {enc : TypeId × Value → H} {W : World} {n : Nat} {v : Value} {y : DataW H × List MemPlace} (h : DataW.trod enc Tryd.prog W 0 (fun _ => true) true n 3 [v] = some y) : ∃ i, v = .int .i64 i := by
  obtain ⟨i, hcs, _⟩ := DataW.trod_int Tryd.underlying3 h
  simp at hcs
  exact ⟨i, hcs⟩
set_option maxRecDepth 100000 in
/-- A store as it was handed in. -/
theorem open_store {H : Type} {enc : TypeId × Value → H} {W : World} {r : Reach} {b0 : Nat} {v : Value} {d : DataW H} {ps : List MemPlace} (hv : Value.okWide Tryd.prog W r b0 24 v) (h : DataW.Trod enc Tryd.prog W 0 (fun _ => true) true 24 v d ps) :
    ∃ (r c : Int) (a b : Option Addr) (n k m j : Nat) (S F : List Int), v = stV r c a b n k m j ∧ IsL W a n k S ∧ IsL W b m j F := by
  obtain ⟨v0, v1, v2, v3, y0, y1, y2, y3, n, rfl, _, _, h0, h1, h2, h3⟩ := Joins.open_agg4 Tryd.underlying24 (by kernel_rfl) cells24' hv h
  obtain ⟨r, rfl⟩ := int_form9 h0
  obtain ⟨c, rfl⟩ := int_form9 h1
  obtain ⟨a, n, k, S, rfl, hS⟩ := open_ints9 h2
  obtain ⟨b, m, j, F, rfl, hF⟩ := open_ints9 h3
  exact ⟨r, c, a, b, n, k, m, j, S, F, rfl, hS, hF⟩
end Go.Proofs.YtbhjphcomppjgaaDoor
