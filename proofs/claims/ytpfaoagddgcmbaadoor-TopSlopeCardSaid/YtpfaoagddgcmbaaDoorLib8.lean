/- Array variables: a block of known cells. Generic over the program. -/
import Derived.Test.YtpfaoagddgcmbaaDoorLib7
namespace Go.Proofs.YtpfaoagddgcmbaaDoor
open Go.RowKit
/-- Block g holds the values of l, one a cell. -/
def ArrV {α : Type} (f : α → Value) (w : World) (g : Nat) (t : TypeId) (l : List α) : Prop := w.heap[g]? = some (.cells (l.map f).toArray t (0, 0))
variable {α : Type} {f : α → Value} {w w' : World} {g : Nat} {t : TypeId} {l : List α}
theorem ArrV.lt (h : ArrV f w g t l) : g < w.heap.size := (Array.getElem?_eq_some_iff.1 h).1
theorem ArrV.cell (h : ArrV f w g t l) (i : Nat) (d : α) (hi : i < l.length) : w.cell? ⟨g, i, none⟩ = some (f (l.getD i d)) := by
  rw [World.cell?]
  have : w.heap[g]? = some (.cells (l.map f).toArray t (0, 0)) := h
  simp [this, List.getD, hi]
theorem ArrV.frozen (h : ArrV f w g t l) (i : Nat) : w.frozen? ⟨g, i, none⟩ = false := by
  have : w.heap[g]? = some (.cells (l.map f).toArray t (0, 0)) := h
  simp [World.frozen?, this]
theorem ArrV.below (h : ArrV f w g t l) (hb : Below w.heap.size w w') : ArrV f w' g t l := (hb.block g h.lt).trans h
theorem ArrV.alloc (h : ArrV f w g t l) (o : Obj) : ArrV f (w.alloc o) g t l := h.below ((Below.refl _ _).alloc (Nat.le_refl _) o)
theorem ArrV.drew (h : ArrV f w g t l) : ArrV f w.drew g t l := h.below (Below.refl _ _).drew
theorem ArrV.drewN (h : ArrV f w g t l) (k : Nat) : ArrV f (w.drewN k) g t l := h.below (belowN (Below.refl _ _) k)
theorem ArrV.grown {row : Option Nat} (h : ArrV f w g t l) (hg : w.grownBy w' row) (hne : some g ≠ row) : ArrV f w' g t l := (hg.block g h.lt hne).trans h
theorem ArrV.set (h : ArrV f w g t l) (i : Nat) (x : α) : ArrV f (w.setCell ⟨g, i, none⟩ (f x)) g t (l.set i x) := by
  have := setCell_own (w := w) (g := g) (cur := (l.map f).toArray) (e := t) h i (f x)
  unfold ArrV
  rw [this]
  congr 2
  simp [List.map_set]
theorem ArrV.other (h : ArrV f w g t l) {p : Addr} (hp : p.block ≠ g) (v : Value) : ArrV f (w.setCell p v) g t l := by
  unfold ArrV
  rw [show (w.setCell p v).heap[g]? = w.heap[g]? by simp [World.setCell, Array.getElem?_modify, hp]]
  exact h
theorem ArrV.new (w : World) (cs : Array Value) (t : TypeId) (l : List α) (g : Nat) (hg : g = w.heap.size) (hc : cs = (l.map f).toArray) : ArrV f (w.alloc (.cells cs t)) g t l := by
  subst hg hc
  exact heap_alloc_new w _
end Go.Proofs.YtpfaoagddgcmbaaDoor
