/- Slices of heaps: as they read, as the call's own; what stays as it was. -/
import Derived.Test.YtpfaoagddgcmbaaDoorGa
import Derived.Test.YtpfaoagddgcmbaaDoorHa
import Derived.Test.YtpfaoagddgcmbaaDoorLib8
import Derived.Laws.OwnMore
namespace Go.Proofs.YtpfaoagddgcmbaaDoor
open Go.RowKit Heap02

theorem info27 : (Tryd.prog.info? 27).map (fun i => (i.zero, i.size, i.bytes)) = some (some (.agg #[.int .i64 0, .int .i64 0]), 2, 16) := by kernel_rfl
abbrev hpV (x : Hp) : Value := .agg #[.int .i64 x.1, .int .i64 x.2]
/-- The slice (a, n, c) reads as these heaps. -/
structure IsH (w : World) (a : Option Addr) (n c : Nat) (L : List Hp) : Prop where
  len : L.length = n
  le : n ≤ c
  cap : c ≤ 9223372036854775807
  cells : 0 < n → ∃ b, a = some ⟨b, 0, none⟩ ∧ b < w.heap.size ∧ ∀ i, i < n → w.cell? ⟨b, i * 2, none⟩ = some (.int .i64 (L.getD i (0, 0)).1) ∧ w.cell? ⟨b, i * 2 + 1, none⟩ = some (.int .i64 (L.getD i (0, 0)).2)
variable {w w' : World} {e B : Nat} {a : Option Addr} {n c : Nat} {L : List Hp}
theorem IsH.below (h : IsH w a n c L) (hb : Below w.heap.size w w') : IsH w' a n c L := by
  refine ⟨h.len, h.le, h.cap, fun hp => ?_⟩
  obtain ⟨b, ha, hbl, hc⟩ := h.cells hp
  exact ⟨b, ha, Nat.lt_of_lt_of_le hbl hb.size, fun i hi => ⟨by rw [hb.cell (p := ⟨b, i * 2, none⟩) hbl]; exact (hc i hi).1, by rw [hb.cell (p := ⟨b, i * 2 + 1, none⟩) hbl]; exact (hc i hi).2⟩⟩
theorem IsH.alloc (h : IsH w a n c L) (o : Obj) : IsH (w.alloc o) a n c L := h.below ((Below.refl _ _).alloc (Nat.le_refl _) o)
theorem IsH.drew (h : IsH w a n c L) : IsH w.drew a n c L := h.below (Below.refl _ _).drew
theorem IsH.grown {o : Option Addr} {k co : Nat} (h : IsH w a n c L) (hg : w.grownBy w' (Value.slice o k co).ownBlock) (hs : Sep a o) : IsH w' a n c L := by
  refine ⟨h.len, h.le, h.cap, fun hp => ?_⟩
  obtain ⟨b, ha, hbl, hc⟩ := h.cells hp
  have hbk : w'.heap[b]? = w.heap[b]? := hg.block b hbl (by
    cases o with
    | none => simp [Value.ownBlock]
    | some y => have := hs _ y ha rfl; simp [Value.ownBlock]; exact this)
  refine ⟨b, ha, Nat.lt_of_lt_of_le hbl hg.size, fun i hi => ⟨(World.cell?_of_block (a := ⟨b, i * 2, none⟩) hbk).trans (hc i hi).1, (World.cell?_of_block (a := ⟨b, i * 2 + 1, none⟩) hbk).trans (hc i hi).2⟩⟩
theorem OwnP.isH (h : OwnP w e B a n c L) : IsH w a n c L := by
  obtain ⟨h1, h2⟩ := h.caps
  refine ⟨h.len, h1, h2, fun hp => ?_⟩
  obtain ⟨g, rfl, _, hl⟩ := h.addr hp
  exact ⟨g, rfl, hl, fun i hi => h.cell i hi⟩
theorem OwnP.weakenP {B' : Nat} (h : OwnP w e B a n c L) (hB : B' ≤ B) : OwnP w e B' a n c L := by
  obtain ⟨h1, h2⟩ := h
  refine ⟨h1, ?_⟩
  rcases h2 with h2 | ⟨g, cap, cur, hv, hg, r⟩
  · exact .inl h2
  · exact .inr ⟨g, cap, cur, hv, Nat.le_trans hB hg, r⟩
theorem OwnP.frozenP {g : Nat} (h : OwnP w e B (some ⟨g, 0, none⟩) n c L) (j : Nat) : w.frozen? ⟨g, j, none⟩ = false := World.ownsRow.frozenAt h j
theorem OwnP.grownP {o : Option Addr} {k co : Nat} (h : OwnP w e B a n c L) (hg : w.grownBy w' (Value.slice o k co).ownBlock) (hs : Sep a o) : OwnP w' e B a n c L := by
  refine World.ownsRow.kept h hg ?_
  cases a with
  | none => exact .inl rfl
  | some x =>
    right
    cases o with
    | none => simp [Value.ownBlock]
    | some y => have := hs x y rfl rfl; simp [Value.ownBlock]; exact this
theorem OwnP.ltP (h : OwnP w e B a n c L) : ∀ x, a = some x → B ≤ x.block ∧ x.block < w.heap.size := by
  intro x hx
  subst hx
  exact World.ownsRow.lt h x.block rfl
theorem pairF_set : ∀ (A : List Hp) (i : Nat) (x : Hp), i < A.length → pairF (A.set i x) = ((pairF A).set (i * 2) (.int .i64 x.1)).set (i * 2 + 1) (.int .i64 x.2)
  | p :: A, 0, x, _ => by simp [pairF]
  | p :: A, i + 1, x, h => by
    have ih := pairF_set A i x (by simpa using h)
    have e1 : (i + 1) * 2 = i * 2 + 1 + 1 := by omega
    rw [e1]
    simpa [pairF] using ih
/-- A store of a whole heap into a row of the call's own. -/
theorem OwnP.set {g : Nat} (h : OwnP w e B (some ⟨g, 0, none⟩) n c L) (i : Nat) (x : Hp) (hi : i < n) :
    OwnP ((w.setCell ⟨g, i * 2, none⟩ (.int .i64 x.1)).setCell ⟨g, i * 2 + 1, none⟩ (.int .i64 x.2)) e B (some ⟨g, 0, none⟩) n c (L.set i x) := by
  unfold OwnP
  rw [pairF_set L i x (by rw [h.len]; exact hi)]
  exact (World.ownsRow.stored (World.ownsRow.stored h (i * 2) _).1 (i * 2 + 1) _).1
theorem OwnP.set2 {g : Nat} (h : OwnP w e B (some ⟨g, 0, none⟩) n c L) (i : Nat) (t : Int) (hi : i < n) :
    OwnP (w.setCell ⟨g, i * 2 + 1, none⟩ (.int .i64 t)) e B (some ⟨g, 0, none⟩) n c (L.set i ((L.getD i (0, 0)).1, t)) := by
  have h1 := (World.ownsRow.stored h (i * 2 + 1) (.int .i64 t)).1
  unfold OwnP
  rw [pairF_set L i _ (by rw [h.len]; exact hi)]
  have e1 := (pairF_fst L i (by rw [h.len]; exact hi)).1
  have e2 : (pairF L).set (i * 2) (.int .i64 (L.getD i (0, 0)).1) = pairF L := by
    apply List.ext_getElem?
    intro j
    rw [List.getElem?_set]
    split
    · rename_i hj
      subst hj
      obtain ⟨hl, _⟩ := List.getElem?_eq_some_iff.1 e1
      rw [if_pos hl, e1]
    · rfl
  rw [e2]
  exact h1
/-- The first m of a row of the call's own. -/
theorem OwnP.front {g m : Nat} (h : OwnP w e B (some ⟨g, 0, none⟩) n c L) (hm : m ≤ n) : OwnP w e B (some ⟨g, 0, none⟩) m c (L.take m) := by
  have hl := h.len
  rcases h.2 with ⟨hv, hn⟩ | ⟨g', cap, cur, hv, hg, hh, hnc, hcm, hcs, ht⟩
  · cases hv
  · simp only [Value.slice.injEq, Option.some.injEq, Addr.mk.injEq] at hv
    obtain ⟨⟨rfl, _⟩, _, rfl⟩ := hv
    refine ⟨by rw [pairF_len]; simp; omega, .inr ⟨g, c, cur, rfl, hg, hh, by omega, hcm, hcs, ?_⟩⟩
    have hp : pairF (L.take m) = (pairF L).take (m * 2) := by
      have e : pairF L = pairF (L.take m) ++ pairF (L.drop m) := by
        unfold pairF; rw [← List.flatMap_append, List.take_append_drop]
      have hlen : (pairF (L.take m)).length = m * 2 := by rw [pairF_len, List.length_take]; omega
      rw [e]; exact (List.take_left' hlen).symm
    rw [hp, ← ht, List.take_take, Nat.min_eq_left (by omega)]
section
variable {P : Program} {t : TypeId} (ht : P.underlying t = some (.slice e))
  (he : (P.info? e).map (fun i => (i.zero, i.size, i.bytes)) = some (some (.agg #[.int .i64 0, .int .i64 0]), 2, 16))
include ht he
/-- THE WALK's LAW: append(heaps, heaps2...). -/
theorem wl_app_heaps {ops : Array Oper} {rest : List Oper} {o : Oper} {ac : Act} {Q : Exit → Act → World → Prop} (B : Nat) {a' : Option Addr} {m c' : Nat} {L' : List Hp}
    (s x : Operand) (hg : o.guard = none) (ho : o.op = .call { callee := .builtin .append, args := #[s, x], argTypes := #[t, t] })
    (hs : ac.eval s = .slice a n c) (hx : ac.eval x = .slice a' m c') (h : OwnP w e B a n c L) (h' : IsH w a' m c' L') (hm : 0 < m) (hB : B ≤ w.heap.size) (hsmall : n + m ≤ 1000000)
    (hK : ∀ a2 c2 w', OwnP w' e B a2 (n + m) c2 (L ++ L') → w.grownBy w' (Value.slice a n c).ownBlock → Below B w w' → wpList P ops Q rest (ac.put o.dst (.slice a2 (n + m) c2)) w') :
    wpList P ops Q (o :: rest) ac w := by
  obtain ⟨i, hi, hz, hsz, hby⟩ := info_parts he
  obtain ⟨b, rfl, _, hc⟩ := h'.cells hm
  have hl' := h'.len
  refine wpList_append_own w hg s x t ho B e i _ 2 16 ht hi hz hsz hby rfl (by omega) (.slice a n c) n _ hs h ⟨b, 0, none⟩ m c' (pairF L') hx (by rw [pairF_len]; omega) ?_ (fun u hu => pairF_cell L' u hu) (by simp only [maxLen]; omega) (by omega) hB ?_
  · intro j u hj
    have hj2 : j < (pairF L').length := (List.getElem?_eq_some_iff.1 hj).1
    rw [pairF_len] at hj2
    rw [add_lit0, Nat.zero_add]
    obtain ⟨e1, e2⟩ := pairF_fst L' (j / 2) (by omega)
    obtain ⟨d1, d2⟩ := hc (j / 2) (by omega)
    rcases Nat.mod_two_eq_zero_or_one j with h0 | h0
    · have ej : j = j / 2 * 2 := by omega
      rw [← ej] at e1 d1
      rw [d1, ← e1, hj]
    · have ej : j = j / 2 * 2 + 1 := by omega
      rw [← ej] at e2 d2
      rw [d2, ← e2, hj]
  · intro v' w' h2 h3 _
    have hsh : ∃ a2 c2, v' = .slice a2 (n + m) c2 := by
      rcases h2.2 with ⟨rfl, h0⟩ | ⟨g, cap, cur, rfl, _⟩
      · omega
      · exact ⟨_, _, rfl⟩
    obtain ⟨a2, c2, rfl⟩ := hsh
    have e3 : pairF L ++ pairF L' = pairF (L ++ L') := by unfold pairF; rw [List.flatMap_append]
    rw [e3] at h2
    exact hK a2 c2 w' h2 h3 ((Below.refl _ _).grown h3 hB (fun k hk => (World.ownsRow.lt h k hk).1))
end
/-- All blocks but these are as they were. -/
structure But (X : Nat → Prop) (w w' : World) : Prop where
  os : w'.os = w.os
  tape : w'.tape = w.tape
  output : w'.output = w.output
  size : w.heap.size ≤ w'.heap.size
  block : ∀ k, k < w.heap.size → ¬ X k → w'.heap[k]? = w.heap[k]?
namespace But
variable {X : Nat → Prop} {w2 : World}
theorem refl (X : Nat → Prop) (w : World) : But X w w := ⟨rfl, rfl, rfl, Nat.le_refl _, fun _ _ _ => rfl⟩
theorem trans (h : But X w w') (h' : But X w' w2) : But X w w2 :=
  ⟨h'.os.trans h.os, h'.tape.trans h.tape, h'.output.trans h.output, Nat.le_trans h.size h'.size, fun k hk hx => (h'.block k (Nat.lt_of_lt_of_le hk h.size) hx).trans (h.block k hk hx)⟩
theorem of_below (h : Below w.heap.size w w') : But X w w' := ⟨h.os, h.tape, h.output, h.size, fun k hk _ => h.block k hk⟩
theorem of_grown {b : Nat} (h : w.grownBy w' (some b)) (hb : X b) : But X w w' := ⟨h.os, h.tape, h.output, h.size, fun k hk hx => h.block k hk (fun e => hx (by cases e; exact hb))⟩
theorem mono {Y : Nat → Prop} (h : But X w w') (hXY : ∀ k, X k → Y k) : But Y w w' := ⟨h.os, h.tape, h.output, h.size, fun k hk hy => h.block k hk (fun hx => hy (hXY k hx))⟩
theorem below {B : Nat} (h : But X w w') (hB : B ≤ w.heap.size) (hX : ∀ k, X k → B ≤ k) : Below B w w' := ⟨h.os, h.tape, h.output, h.size, fun k hk => h.block k (by omega) (fun hx => by have := hX k hx; omega)⟩
theorem setCell (h : But X w w') {p : Addr} (hp : X p.block) (v : Value) : But X w (w'.setCell p v) :=
  ⟨h.os, h.tape, h.output, by rw [setCell_size]; exact h.size, fun k hk hx => by
    have hne : p.block ≠ k := fun e => hx (e ▸ hp)
    have : (w'.setCell p v).heap[k]? = w'.heap[k]? := by simp [World.setCell, Array.getElem?_modify, hne]
    exact this.trans (h.block k hk hx)⟩
theorem alloc (h : But X w w') (o : Obj) : But X w (w'.alloc o) := h.trans (of_below ((Below.refl _ _).alloc (Nat.le_refl _) o))
theorem arr {α : Type} {f : α → Value} {g : Nat} {t : TypeId} {l : List α} (h : But X w w') (hA : ArrV f w g t l) (hg : ¬ X g) : ArrV f w' g t l := (h.block g hA.lt hg).trans hA
end But
abbrev VT : Value → Value := fun v => v
theorem cellT {w : World} {g : Nat} {t : TypeId} {l : List Value} (h : ArrV VT w g t l) (i : Nat) {v : Value} (hv : l[i]? = some v) : w.cell? ⟨g, i, none⟩ = some v := by
  obtain ⟨hi, e⟩ := List.getElem?_eq_some_iff.1 hv
  have := h.cell i v hi
  rw [this]
  simp [List.getD, hv]
end Go.Proofs.YtpfaoagddgcmbaaDoor
