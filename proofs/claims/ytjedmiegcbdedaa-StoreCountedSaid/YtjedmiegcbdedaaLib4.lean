/- Rows of the call's own, of whatever elements of one cell: generic over the program. -/
import Derived.Test.YtjedmiegcbdedaaLib3
import Derived.OwnWalk
namespace Go.Proofs.Ytjedmiegcbdedaa
open Go.RowKit

/-- The slice (a, n, c) is the call's own (blocks from B on), and holds the list l. -/
def OwnG {α : Type} (f : α → Value) (w : World) (e B : Nat) (a : Option Addr) (n c : Nat) (l : List α) : Prop :=
  w.ownsRow B e 1 (.slice a n c) n (l.map f)

variable {α : Type} {f : α → Value} {w w' : World} {e B : Nat} {a : Option Addr} {n c : Nat} {l : List α}

theorem OwnG.len (h : OwnG f w e B a n c l) : l.length = n := by
  have := h.1; simpa using this
theorem OwnG.below (h : OwnG f w e B a n c l) (hb : Below w.heap.size w w') : OwnG f w' e B a n c l := by
  obtain ⟨h1, h2⟩ := h
  refine ⟨h1, ?_⟩
  rcases h2 with h2 | ⟨g, cap, cur, hv, hg, hh, r⟩
  · exact .inl h2
  · exact .inr ⟨g, cap, cur, hv, hg, by rw [hb.block g (Array.getElem?_eq_some_iff.1 hh).1]; exact hh, r⟩
theorem OwnG.lt (h : OwnG f w e B a n c l) : ∀ x, a = some x → B ≤ x.block ∧ x.block < w.heap.size := by
  intro x hx
  subst hx
  exact World.ownsRow.lt h x.block rfl
theorem OwnG.grown {o : Option Addr} {k co : Nat} (h : OwnG f w e B a n c l) (hg : w.grownBy w' (Value.slice o k co).ownBlock) (hs : Sep a o) : OwnG f w' e B a n c l := by
  refine World.ownsRow.kept h hg ?_
  cases a with
  | none => exact .inl rfl
  | some x =>
    right
    cases o with
    | none => simp [Value.ownBlock]
    | some y => have := hs x y rfl rfl; simp [Value.ownBlock]; exact this
theorem OwnG.grownN (h : OwnG f w e B a n c l) (hg : w.grownBy w' none) : OwnG f w' e B a n c l :=
  OwnG.grown (o := none) (k := 0) (co := 0) h (by simpa [Value.ownBlock] using hg) (Sep.none_right _)
theorem OwnG.grownS {g : Nat} (h : OwnG f w e B a n c l) (hg : w.grownBy w' (some g)) (hs : Sep a (some ⟨g, 0, none⟩)) : OwnG f w' e B a n c l :=
  OwnG.grown (o := some ⟨g, 0, none⟩) (k := 0) (co := 0) h (by simpa [Value.ownBlock] using hg) hs
theorem OwnG.alloc (h : OwnG f w e B a n c l) (o : Obj) : OwnG f (w.alloc o) e B a n c l := h.below ((Below.refl _ _).alloc (Nat.le_refl _) o)
theorem OwnG.drew (h : OwnG f w e B a n c l) : OwnG f w.drew e B a n c l := h.below (Below.refl _ _).drew
theorem OwnG.addr (h : OwnG f w e B a n c l) (hn : 0 < n) : ∃ g, a = some ⟨g, 0, none⟩ := by
  rcases h.2 with ⟨hv, h0⟩ | ⟨g, cap, cur, hv, _⟩
  · omega
  · simp only [Value.slice.injEq] at hv
    exact ⟨g, hv.1⟩
theorem OwnG.set {g : Nat} (h : OwnG f w e B (some ⟨g, 0, none⟩) n c l) (i : Nat) (x : α) : OwnG f (w.setCell ⟨g, i, none⟩ (f x)) e B (some ⟨g, 0, none⟩) n c (l.set i x) := by
  have := (World.ownsRow.stored h i (f x)).1
  rw [← List.map_set] at this
  exact this
theorem OwnG.cell {g : Nat} (h : OwnG f w e B (some ⟨g, 0, none⟩) n c l) (i : Nat) (d : α) (hi : i < n) : w.cell? ⟨g, i, none⟩ = some (f (l.getD i d)) ∧ w.frozen? ⟨g, i, none⟩ = false := by
  have hl := h.len
  rcases h.2 with ⟨hv, hn⟩ | ⟨g', cap, cur, hv, hg, hh, hnc, hcm, hcs, ht⟩
  · cases hv
  · simp only [Value.slice.injEq, Option.some.injEq, Addr.mk.injEq] at hv
    obtain ⟨⟨rfl, _⟩, _, rfl⟩ := hv
    constructor
    · rw [World.cell?]
      simp only [hh]
      have hi2 : i < l.length := by omega
      have e1 : (l.map f)[i]? = some (f (l.getD i d)) := by simp [List.getD, hi2]
      rw [← ht] at e1
      rw [List.getElem?_take] at e1
      split at e1
      · simpa using e1
      · cases e1
    · simp [World.frozen?, hh]
theorem OwnG.caps {g : Nat} (h : OwnG f w e B (some ⟨g, 0, none⟩) n c l) : n ≤ c ∧ c ≤ 9223372036854775807 := by
  rcases h.2 with ⟨hv, hn⟩ | ⟨g', cap, cur, hv, hg, hh, hnc, hcm, hcs, ht⟩
  · cases hv
  · simp only [Value.slice.injEq, Option.some.injEq, Addr.mk.injEq] at hv
    obtain ⟨⟨rfl, _⟩, _, rfl⟩ := hv
    exact ⟨hnc, by simpa [maxLen] using hcm⟩
theorem OwnG.ints {l : List Int} (h : OwnG (Value.int .i64) w e B a n c l) : OwnL w e B a n c l := h
theorem OwnL.gen {l : List Int} (h : OwnL w e B a n c l) : OwnG (Value.int .i64) w e B a n c l := h
theorem OwnG.nilG (w : World) (e B : Nat) : OwnG f w e B none 0 0 [] := World.ownsRow_nil _ _ _ _
theorem made_list (z : Value) (n : Nat) : (madeCells #[z] (n * 1)).toList = List.replicate n z := by
  apply List.ext_getElem?
  intro i
  simp only [madeCells, Array.toList_map, Array.toList_range, List.getElem?_map, List.getElem?_range, List.getElem?_replicate, Nat.mul_one]
  by_cases hi : i < n
  · simp [hi, Nat.mod_one]
  · simp [hi]
section
variable {P : Program} {t : TypeId}
/-- THE WALK's LAW: make([]T, n). -/
theorem wl_make {w : World} {ops : Array Oper} {rest : List Oper} {o : Oper} {ac : Act} {Q : Exit → Act → World → Prop} (f : α → Value) (d : α) (z : Value) (nb : Nat) (B : Nat) (ht : P.underlying t = some (.slice e))
    (he : (P.info? e).map (fun i => (i.zero, i.size, i.bytes)) = some (some z, 1, nb)) (hz : z.cells = #[z]) (hfd : f d = z)
    (s x : Operand) (hg : o.guard = none) (ho : o.op = Op.makeSlice t s x) (m : Nat) (hs : ac.eval s = .int .i64 m) (hx : ac.eval x = .int .i64 m) (hb : nb * m ≤ 281474976710656) (hm : m ≤ 9223372036854775807) (hB : B ≤ w.heap.size)
    (hK : ∀ w', OwnG f w' e B (some ⟨w.heap.size, 0, none⟩) m m (List.replicate m d) → w.grownBy w' none → Below B w w' → wpList P ops Q rest (ac.put o.dst (.slice (some ⟨w.heap.size, 0, none⟩) m m)) w') :
    wpList P ops Q (o :: rest) ac w := by
  obtain ⟨i, hi, hz2, hs2, hb2⟩ := info_parts he
  refine wpList_make_full w hg s x t ho B e i z 1 ht hi hz2 hs2 .i64 .i64 m m m hs hx rfl rfl (by rw [hb2]; exact hb) (by simpa [maxLen] using hm) hB fun w' h1 h2 => hK w' ?_ h2 ((Below.refl _ _).grown h2 hB (fun k hk => by cases hk))
  rw [hz, made_list] at h1
  rw [← hfd, ← List.map_replicate] at h1
  exact h1
end
end Go.Proofs.Ytjedmiegcbdedaa
