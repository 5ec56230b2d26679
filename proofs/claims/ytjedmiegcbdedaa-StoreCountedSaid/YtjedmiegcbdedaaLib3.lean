/- Lemmas on rows of the call's own that are written: generic over the program. -/
import Derived.Test.YtjedmiegcbdedaaLib
import Derived.Laws.IdiomCopy
import Derived.Lib.EndianMore
namespace Go.Proofs.Ytjedmiegcbdedaa
open Go.RowKit

theorem setCell_own {w : World} {g : Nat} {cur : Array Value} {e : TypeId} (h : w.heap[g]? = some (.cells cur e (0, 0))) (i : Nat) (v : Value) :
    (w.setCell ⟨g, i, none⟩ v).heap[g]? = some (.cells (cur.setIfInBounds i v) e (0, 0)) := by
  simp [World.setCell, Array.getElem?_modify, h]
/-- A block of one cell that was just laid, its number spelled otherwise. -/
theorem isL_oneAt (w : World) (x : Int) (t : TypeId) (g : Nat) (hg : g = w.heap.size) : IsL (w.alloc (.cells #[.int .i64 x] t)) (some ⟨g, 0, none⟩) 1 1 [x] := by
  subst hg; exact isL_one w x t
theorem setCell_size (w : World) (p : Addr) (v : Value) : (w.setCell p v).heap.size = w.heap.size := by simp [World.setCell]
theorem grown_setCell (w : World) (g i : Nat) (v : Value) : w.grownBy (w.setCell ⟨g, i, none⟩ v) (some g) :=
  ⟨rfl, rfl, rfl, by simp [World.setCell], fun k hk hne => by
    have : g ≠ k := fun e => hne (by rw [e])
    simp [World.setCell, Array.getElem?_modify, this]⟩
theorem grown_trans {w w1 w2 : World} {r : Option Nat} (h : w.grownBy w1 r) (h' : w1.grownBy w2 r) : w.grownBy w2 r :=
  ⟨h'.os.trans h.os, h'.tape.trans h.tape, h'.output.trans h.output, Nat.le_trans h.size h'.size, fun k hk hne => (h'.block k (Nat.lt_of_lt_of_le hk h.size) hne).trans (h.block k hk hne)⟩
theorem setCells_own {g : Nat} {e : TypeId} : ∀ (vs : List Value) (o : Nat) (w : World) (cur : Array Value), w.heap[g]? = some (.cells cur e (0, 0)) →
    ∃ cur', (w.setCells g o vs).heap[g]? = some (.cells cur' e (0, 0)) ∧ cur'.size = cur.size
  | [], _, _, cur, h => ⟨cur, h, rfl⟩
  | v :: r, o, w, cur, h => by
    obtain ⟨c, h1, h2⟩ := setCells_own r (o + 1) (w.setCell ⟨g, o, none⟩ v) _ (setCell_own h o v)
    exact ⟨c, h1, by simpa using h2⟩
theorem grown_setCells (g : Nat) : ∀ (vs : List Value) (o : Nat) (w : World), w.grownBy (w.setCells g o vs) (some g)
  | [], _, w => World.grownBy.refl _ _
  | v :: r, o, w => grown_trans (grown_setCell w g o v) (grown_setCells g r (o + 1) _)
theorem grown_drew (w : World) (r : Option Nat) : w.grownBy w.drew r := ⟨rfl, rfl, rfl, Nat.le_refl _, fun _ _ _ => rfl⟩

/-- A row of the call's own, by its cells. -/
theorem own_of_cells {w : World} {e : TypeId} {B g n c : Nat} {cur : Array Value} {l : List Int} (hg : B ≤ g) (h : w.heap[g]? = some (.cells cur e (0, 0))) (hs : cur.size = c) (hc : c ≤ maxLen) (hn : n ≤ c) (hl : l.length = n)
    (hx : ∀ i, i < n → w.cell? ⟨g, i, none⟩ = some (.int .i64 (l.getD i 0))) : OwnL w e B (some ⟨g, 0, none⟩) n c l := by
  refine ⟨by simp [hl], .inr ⟨g, c, cur, rfl, hg, h, hn, hc, by omega, ?_⟩⟩
  apply List.ext_getElem?
  intro i
  rw [List.getElem?_take]
  split
  · have := hx i (by omega)
    rw [World.cell?] at this
    simp only [h] at this
    have hi : i < l.length := by omega
    simp at this
    simp [this, hi]
  · symm; simp; omega

/-- What is known of a row of the call's own that has a capacity. -/
theorem OwnL.parts {w : World} {e : TypeId} {B g n c : Nat} {l : List Int} (h : OwnL w e B (some ⟨g, 0, none⟩) n c l) :
    ∃ cur, B ≤ g ∧ w.heap[g]? = some (.cells cur e (0, 0)) ∧ n ≤ c ∧ c ≤ maxLen ∧ cur.size = c ∧ l.length = n ∧ (∀ i, i < n → w.cell? ⟨g, i, none⟩ = some (.int .i64 (l.getD i 0))) ∧ (∀ i, i < c → (w.cell? ⟨g, i, none⟩).isSome = true) ∧ ∀ i, w.frozen? ⟨g, i, none⟩ = false := by
  have hL := h.isL
  rcases h.2 with ⟨hv, hn⟩ | ⟨g', cap, cur, hv, hg, hh, hnc, hcm, hcs, ht⟩
  · cases hv
  · simp only [Value.slice.injEq, Option.some.injEq, Addr.mk.injEq] at hv
    obtain ⟨⟨rfl, _⟩, _, rfl⟩ := hv
    refine ⟨cur, hg, hh, hnc, hcm, by omega, h.len, fun i hi => ?_, fun i hi => ?_, fun i => ?_⟩
    · obtain ⟨b, o, ha, hb, hc⟩ := hL.cells (by omega)
      simp only [Option.some.injEq, Addr.mk.injEq] at ha
      obtain ⟨rfl, rfl, _⟩ := ha
      simpa using hc i hi
    · rw [World.cell?]; simp only [hh]; simp; omega
    · simp [World.frozen?, hh]

theorem OwnL.addr {w : World} {e : TypeId} {B n c : Nat} {a : Option Addr} {l : List Int} (h : OwnL w e B a n c l) (hn : 0 < n) : ∃ g, a = some ⟨g, 0, none⟩ := by
  rcases h.2 with ⟨hv, h0⟩ | ⟨g, cap, cur, hv, _⟩
  · omega
  · simp only [Value.slice.injEq] at hv
    exact ⟨g, hv.1⟩
theorem sep_ne {g : Nat} {o : Option Addr} (h : Sep (some ⟨g, 0, none⟩) o) (n c : Nat) : (Value.slice o n c).ownBlock ≠ some g := by
  cases o with
  | none => simp [Value.ownBlock]
  | some y => have := h _ y rfl rfl; simp [Value.ownBlock]; exact fun e => this e.symm
theorem OwnL.grownS {w w' : World} {e : TypeId} {B n c g : Nat} {a : Option Addr} {l : List Int} (h : OwnL w e B a n c l) (hg : w.grownBy w' (some g)) (hs : Sep a (some ⟨g, 0, none⟩)) : OwnL w' e B a n c l :=
  OwnL.grown (o := some ⟨g, 0, none⟩) (k := 0) (co := 0) h (by simpa [Value.ownBlock] using hg) hs

/-- A store into a row of the call's own. -/
theorem OwnL.set {w : World} {e : TypeId} {B g n c : Nat} {l : List Int} (h : OwnL w e B (some ⟨g, 0, none⟩) n c l) (i : Nat) (x : Int) (hi : i < n) :
    OwnL (w.setCell ⟨g, i, none⟩ (.int .i64 x)) e B (some ⟨g, 0, none⟩) n c (l.set i x) := by
  obtain ⟨cur, hg, hh, hnc, hcm, hcs, hl, hx, hs, hf⟩ := h.parts
  refine own_of_cells hg (setCell_own hh i _) (by simpa using hcs) hcm hnc (by simpa using hl) fun j hj => ?_
  by_cases hij : i = j
  · subst hij
    obtain ⟨u, hu⟩ := Option.isSome_iff_exists.1 (hs i (by omega))
    rw [World.cell?_setCell_same _ _ _ hu]
    simp [List.getD, hl, hj]
  · rw [World.cell?_setCell_other _ _ _ _ (by simp [hij]), hx j hj]
    simp [List.getD, List.getElem?_set_ne hij]
end Go.Proofs.Ytjedmiegcbdedaa
