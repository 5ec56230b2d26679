/- Chapter 9: what the rows' frames share: lists, as they were handed in. -/
import Derived.Test.YtbhjphcomppjgaaDoorYa
namespace Go.Proofs.YtbhjphcomppjgaaDoor
open Go.ChangeShapes Go.WideShapes Go.ChangeAt Go.RowKit Beetle09
set_option maxRecDepth 100000 in
theorem open_intsArg {H : Type} {enc : TypeId × Value → H} {W : World} {r : Reach} {b0 : Nat} {v : Value} {d : DataW H} {ps : List MemPlace} (hv : Value.okWide Tryd.prog W r b0 22 v) (h : DataW.Trod enc Tryd.prog W 0 (fun _ => true) true 22 v d ps) :
    ∃ (a : Option Addr) (n c : Nat) (Z : List Int), v = .slice a n c ∧ IsL W a n c Z := by
  obtain ⟨a0, len, cap, rfl⟩ := okWide_slice Tryd.underlying22 hv
  obtain ⟨m, hm⟩ := h
  obtain ⟨a, l, c, L, e, hL⟩ := open_ints9 (v := .slice a0 len cap) hm
  simp only [Value.slice.injEq] at e
  obtain ⟨rfl, rfl, rfl⟩ := e
  exact ⟨_, _, _, L, rfl, hL⟩
end Go.Proofs.YtbhjphcomppjgaaDoor
