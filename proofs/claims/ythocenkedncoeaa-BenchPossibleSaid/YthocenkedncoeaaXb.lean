/- Walks of chapter 06: BenchPossible's closure, a whole order. -/
import Derived.Test.YthocenkedncoeaaXa
import Derived.Laws.CopyOwn
import Derived.BigQuiet
namespace Go.Proofs.Ythocenkedncoeaa
open Go.RowKit Go.ChangeMaps Bench06

theorem laidOut : laidOutB Try.prog = true := by kernel_rfl
theorem keyed43 : Maps.Keyed Try.prog 43 := Maps.Keyed.of_law (deep_law_laid laidOut (m := 2) (by omega) (by decide +kernel) (by kernel_rfl) (by kernel_rfl))
noncomputable def enc6 : KeyEnc Try.prog 43 (List Int) := encArr (m := 6) (e := 3) (by kernel_rfl) Try.underlying3 (by kernel_rfl) (by kernel_rfl) (by kernel_rfl) (by decide +kernel) keyed43
abbrev VP : Value → Value := fun v => v
theorem cellP {w : World} {g : Nat} {t : TypeId} {l : List Value} (h : ArrV VP w g t l) (i : Nat) {v : Value} (hv : l[i]? = some v) : w.cell? ⟨g, i, none⟩ = some v := by
  obtain ⟨hi, e⟩ := List.getElem?_eq_some_iff.1 hv
  have := h.cell i v hi
  rw [this]
  simp [List.getD, hv]
theorem ArrV.blockP {α : Type} {f : α → Value} {w w' : World} {g : Nat} {t : TypeId} {l : List α} (h : ArrV f w g t l) (hb : w'.heap[g]? = w.heap[g]?) : ArrV f w' g t l := hb.trans h
/-- the blocks of BenchPossible: how many, the map, its box, good, put -/
structure PoS (g m x p q n N sz : Nat) (f : List Int → Option Int) (w : World) : Prop where
  hn : ArrV VP w g 3 [.int .i64 (n : Int)]
  hm : MapF enc6 3 w m N sz f
  hx : ArrV VP w x 40 [.map (some m)]
  hg : ArrV VP w p 4 [.bool true]
  hq : ArrV VP w q 44 [.func (.func 39) #[] #[.pointer (some ⟨g, 0, none⟩), .pointer (some ⟨q, 0, none⟩), .pointer (some ⟨p, 0, none⟩), .pointer (some ⟨x, 0, none⟩)]]
  ng : g ≠ p
  nm : m ≠ p
  nx : x ≠ p
  nq : q ≠ p
namespace PoS
variable {g m x p q n N sz : Nat} {f : List Int → Option Int} {w w' : World}
theorem new (h : PoS g m x p q n N sz f w) (hb : Below w.heap.size w w') : PoS g m x p q n N sz f w' :=
  ⟨h.hn.below hb, h.hm.below hb, h.hx.below hb, h.hg.below hb, h.hq.below hb, h.ng, h.nm, h.nx, h.nq⟩
theorem grown (h : PoS g m x p q n N sz f w) (hb : w.grownBy w' (some p)) (hg : ArrV VP w' p 4 [.bool true]) : PoS g m x p q n N sz f w' :=
  ⟨h.hn.grown hb (by simpa using h.ng), h.hm.kept hb (by simpa using h.nm), h.hx.grown hb (by simpa using h.nx), hg, h.hq.grown hb (by simpa using h.nq), h.ng, h.nm, h.nx, h.nq⟩
theorem putg (h : PoS g m x p q n N sz f w) : PoS g m x p q n N sz f (w.setCell ⟨p, 0, none⟩ (.bool true)) :=
  h.grown (grown_setCell w p 0 _) (h.hg.set 0 (.bool true))
end PoS
theorem set_same {w : World} {p : Nat} {t : TypeId} {v : Value} (h : ArrV VP w p t [v]) : w.setCell ⟨p, 0, none⟩ v = w := by
  have h' : w.heap[p]? = some (.cells #[v] t (0, 0)) := h
  have e : (w.setCell ⟨p, 0, none⟩ v).heap = w.heap := by
    apply Array.ext_getElem?
    intro i
    by_cases hi : p = i
    · subst hi
      rw [setCell_own h' 0 v, h']
      rfl
    · simp [World.setCell, Array.getElem?_modify, hi]
  have e2 : w.setCell ⟨p, 0, none⟩ v = { w with heap := (w.setCell ⟨p, 0, none⟩ v).heap } := rfl
  rw [e2, e]
theorem grown_of_below {w w' : World} {r : Option Nat} (h : Below w.heap.size w w') : w.grownBy w' r := ⟨h.os, h.tape, h.output, h.size, fun k hk _ => h.block k hk⟩
theorem pad_len {l : List Int} (h : l.length ≤ 6) : (padP l).length = 6 := by simp [padP]; omega
theorem pad_six {l : List Int} (h : l.length ≤ 6) : ∃ y0 y1 y2 y3 y4 y5 : Int, padP l = [y0, y1, y2, y3, y4, y5] := by
  have := pad_len h
  match hh : padP l, this with
  | [y0, y1, y2, y3, y4, y5], _ => exact ⟨y0, y1, y2, y3, y4, y5, rfl⟩
theorem pad_splice (l : List Int) (h : l.length ≤ 6) : splice [Value.int .i64 0, Value.int .i64 0, Value.int .i64 0, Value.int .i64 0, Value.int .i64 0, Value.int .i64 0] 0 (l.map (Value.int .i64)) = (padP l).map (Value.int .i64) := by
  change splice (List.replicate 6 (Value.int .i64 0)) 0 _ = _
  unfold splice padP; rw [List.take_zero, List.nil_append, Nat.zero_add, List.length_map, List.drop_replicate, List.map_append, List.map_replicate]
theorem pad_ok {n : Nat} {l : List Int} (hl : l.length = n) (h6 : n ≤ 6) (hb : ∀ y ∈ l, 0 ≤ y ∧ y < n) : (enc6).ok (padP l) := by
  refine ⟨pad_len (by omega), fun y hy => ?_⟩
  rcases List.mem_append.1 hy with hy | hy
  · have := hb y hy
    exact WalkArith.wf_i64 (by omega)
  · rw [List.eq_of_mem_replicate hy]; decide
theorem cells3r : (Try.prog.info? 3).map (·.size) = some 1 := by kernel_rfl
end Go.Proofs.Ythocenkedncoeaa
