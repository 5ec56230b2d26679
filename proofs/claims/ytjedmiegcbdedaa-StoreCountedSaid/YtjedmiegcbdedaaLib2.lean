/- Lemmas on slices of ints that come in as arguments. -/
import Derived.Test.YtjedmiegcbdedaaLib
namespace Go.Proofs.Ytjedmiegcbdedaa
open Go.RowKit

theorem chain {w w1 w2 : World} (h : Below w.heap.size w w1) (h' : Below w1.heap.size w1 w2) : Below w.heap.size w w2 := h.trans (h'.mono h.size)

/-- A slice of integers that came in, as the rows' frames say it. -/
def RowIn (k : IntKind) (w : World) (a : Option Addr) (len cap : Nat) (zs : List Int) : Prop :=
  (a = none ∧ len = 0 ∧ cap = 0 ∧ zs = []) ∨
  ∃ x, a = some x ∧ len ≤ cap ∧ cap ≤ maxLen ∧ zs.length = cap ∧ (∀ i, i < zs.length → w.cell? (x.add i) = some (.int k (zs.getD i 0))) ∧ ∀ n ∈ zs, (Lit.int k n).wf = true

theorem RowIn.isL {w : World} {a : Option Addr} {n c : Nat} {zs : List Int} (h : RowIn .i64 w a n c zs) : IsL w a n c (zs.take n) := by
  rcases h with ⟨rfl, rfl, rfl, rfl⟩ | ⟨x, rfl, h1, h2, h3, h4, _⟩
  · simpa using IsL.nilL w
  · refine ⟨by simp; omega, h1, by simpa [maxLen] using h2, (fun h => by cases h), fun hp => ?_⟩
    obtain ⟨b, o, sp⟩ := x
    have hc := h4 0 (by omega)
    have hsp : sp = none := by simpa [Addr.add] using World.cell?_spot hc
    subst hsp
    refine ⟨b, o, rfl, World.block_lt_of_cell? w _ hc, fun i hi => ?_⟩
    have := h4 i (by omega)
    rw [add_lit0] at this
    rw [this]
    simp [List.getD, hi]
end Go.Proofs.Ytjedmiegcbdedaa
