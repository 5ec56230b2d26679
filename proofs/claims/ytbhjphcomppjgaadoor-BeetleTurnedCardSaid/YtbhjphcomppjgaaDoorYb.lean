/- Chapter 9: what the rows' frames share: floors by numbers, small numbers, lists, as they were handed in. -/
import Derived.Test.YtbhjphcomppjgaaDoorYa
import Derived.Test.YtbhjphcomppjgaaDoorVf
namespace Go.Proofs.YtbhjphcomppjgaaDoor
open Go.ChangeShapes Go.WideShapes Go.ChangeAt Go.RowKit Beetle09

theorem nat_u8 {x : Int} (h : (Lit.int .u8 x).wf = true) : ∃ p : Nat, x = (p : Int) ∧ p < 256 := by
  obtain ⟨h1, h2⟩ := bounds_u8 h
  exact ⟨x.toNat, by omega, by omega⟩
theorem nat_u32 {x : Int} (h : (Lit.int .u32 x).wf = true) : ∃ p : Nat, x = (p : Int) ∧ p < 4294967296 := by
  obtain ⟨h1, h2⟩ := bounds_u32 h
  exact ⟨x.toNat, by omega, by omega⟩
theorem cells58' : Tryd.prog.cellsOf 58 = 4 := by kernel_rfl
set_option maxRecDepth 100000 in
theorem num_form9 {H : Type} {enc : TypeId × Value → H} {W : World} {n : Nat} {v : Value} {y : DataW H × List MemPlace} {t : TypeId} {k : IntKind} (ht : Tryd.prog.underlying t = some (.int k)) (h : DataW.trod enc Tryd.prog W 0 (fun _ => true) true n t [v] = some y) : ∃ i, v = .int k i ∧ (Lit.int k i).wf = true := by
  obtain ⟨i, hcs, _, hw⟩ := DataW.trod_int ht h
  simp at hcs
  exact ⟨i, hcs, hw⟩
set_option maxRecDepth 100000 in
theorem open_u8 {H : Type} {enc : TypeId × Value → H} {W : World} {r : Reach} {b0 : Nat} {v : Value} {d : DataW H} {ps : List MemPlace} (hv : Value.okWide Tryd.prog W r b0 5 v) (h : DataW.Trod enc Tryd.prog W 0 (fun _ => true) true 5 v d ps) :
    ∃ x : Nat, v = .int .u8 (x : Int) ∧ x < 256 := by
  obtain ⟨x, rfl, _, _, wx⟩ := open_int Tryd.underlying5 hv h
  obtain ⟨p, rfl, hp⟩ := nat_u8 wx
  exact ⟨p, rfl, hp⟩
set_option maxRecDepth 100000 in
theorem open_floor {H : Type} {enc : TypeId × Value → H} {W : World} {r : Reach} {b0 : Nat} {v : Value} {d : DataW H} {ps : List MemPlace} (hv : Value.okWide Tryd.prog W r b0 58 v) (h : DataW.Trod enc Tryd.prog W 0 (fun _ => true) true 58 v d ps) :
    ∃ p q x y : Nat, v = floV p q x y ∧ p < 256 ∧ q < 256 ∧ x < 4294967296 ∧ y < 4294967296 := by
  obtain ⟨v0, v1, v2, v3, y0, y1, y2, y3, n, rfl, _, _, h0, h1, h2, h3⟩ := Joins.open_agg4 Tryd.underlying58 (by kernel_rfl) cells58' hv h
  obtain ⟨a, rfl, wa⟩ := num_form9 Tryd.underlying5 h0
  obtain ⟨b, rfl, wb⟩ := num_form9 Tryd.underlying5 h1
  obtain ⟨c, rfl, wc⟩ := num_form9 Tryd.underlying56 h2
  obtain ⟨d, rfl, wd⟩ := num_form9 Tryd.underlying56 h3
  obtain ⟨p, rfl, hp⟩ := nat_u8 wa
  obtain ⟨q, rfl, hq⟩ := nat_u8 wb
  obtain ⟨x, rfl, hx⟩ := nat_u32 wc
  obtain ⟨y, rfl, hy⟩ := nat_u32 wd
  exact ⟨p, q, x, y, rfl, hp, hq, hx, hy⟩
set_option maxRecDepth 100000 in
theorem open_intsArg {H : Type} {enc : TypeId × Value → H} {W : World} {r : Reach} {b0 : Nat} {v : Value} {d : DataW H} {ps : List MemPlace} (hv : Value.okWide Tryd.prog W r b0 22 v) (h : DataW.Trod enc Tryd.prog W 0 (fun _ => true) true 22 v d ps) :
    ∃ (a : Option Addr) (n c : Nat) (Z : List Int), v = .slice a n c ∧ IsL W a n c Z := by
  obtain ⟨a0, len, cap, rfl⟩ := okWide_slice Tryd.underlying22 hv
  obtain ⟨m, hm⟩ := h
  obtain ⟨a, l, c, L, e, hL⟩ := open_ints9 (v := .slice a0 len cap) hm
  simp only [Value.slice.injEq] at e
  obtain ⟨rfl, rfl, rfl⟩ := e
  exact ⟨_, _, _, L, rfl, hL⟩
end Go.Proofs.YtbhjphcomppjgaaDoor
