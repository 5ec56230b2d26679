/- Maps of the call's own, to ints, read as a function: generic over the program. -/
import Derived.Test.YtjedmiegcbdedaaLib4
import Derived.Maps.Own
import Derived.Maps.OwnOps
import Derived.Maps.OwnSet
import Derived.Maps.Views
namespace Go.Proofs.Ytjedmiegcbdedaa
open Go.RowKit Go.ChangeMaps

/-- How keys of a type are written: as a value, as a literal. -/
structure KeyEnc (P : Program) (k : TypeId) (α : Type) where
  enc : α → Value
  lit : α → Lit
  ok : α → Prop
  keyed : Maps.Keyed P k
  key : ∀ a, ok a → keyOf P k (enc a) = some (lit a)
  inj : ∀ a b, ok a → ok b → lit a = lit b → a = b

/-- Block b is a map to ints that reads as f, and has sz entries. -/
def MapF {P : Program} {k : TypeId} {α : Type} (E : KeyEnc P k α) (e : TypeId) (w : World) (b N sz : Nat) (f : α → Option Int) : Prop :=
  ∃ D : DataW Nat, w.ownsMap P k (plainElem P e) b N D ∧ Maps.size D = sz ∧ ∀ a, E.ok a → Maps.has D (E.lit a) = (f a).isSome ∧ ∀ v, f a = some v → D.atKey (E.lit a) (.lit (.int .i64 0)) = .lit (.int .i64 v)

section
variable {P : Program} {k e t : TypeId} {α : Type} {E : KeyEnc P k α} {w w' : World} {b N sz : Nat} {f : α → Option Int}

theorem MapF.made (w : World) : MapF E e (w.alloc (.map #[] 0)) w.heap.size 0 0 (fun _ => none) :=
  ⟨.map [], World.ownsMap_made w P k _, rfl, fun a _ => ⟨rfl, fun v hv => by cases hv⟩⟩
theorem MapF.lt (h : MapF E e w b N sz f) : b < w.heap.size := by
  obtain ⟨D, hD, _⟩ := h; exact hD.lt
theorem MapF.mono {N' : Nat} (h : MapF E e w b N sz f) (hN : N ≤ N') : MapF E e w b N' sz f := by
  obtain ⟨D, hD, r⟩ := h; exact ⟨D, hD.mono hN, r⟩
theorem MapF.kept {row : Option Nat} (h : MapF E e w b N sz f) (hg : w.grownBy w' row) (hne : some b ≠ row) : MapF E e w' b N sz f := by
  obtain ⟨D, hD, r⟩ := h; exact ⟨D, hD.kept hg hne, r⟩
theorem MapF.below (h : MapF E e w b N sz f) (hb : Below w.heap.size w w') : MapF E e w' b N sz f := by
  have hlt := h.lt
  obtain ⟨D, ⟨es, clock, hh, F, hs, hD⟩, r⟩ := h
  exact ⟨D, ⟨es, clock, (hb.block b hlt).trans hh, F, hs, hD⟩, r⟩
theorem MapF.alloc (h : MapF E e w b N sz f) (o : Obj) : MapF E e (w.alloc o) b N sz f := h.below ((Below.refl _ _).alloc (Nat.le_refl _) o)
theorem MapF.drew (h : MapF E e w b N sz f) : MapF E e w.drew b N sz f := h.below (Below.refl _ _).drew
theorem MapF.setCell (h : MapF E e w b N sz f) {a : Addr} (ha : b ≠ a.block) (u : Value) : MapF E e (w.setCell a u) b N sz f := by
  obtain ⟨D, hD, r⟩ := h; exact ⟨D, hD.setCell ha u, r⟩

variable {ops : Array Oper} {rest : List Oper} {o : Oper} {ac : Act} {Q : Exit → Act → World → Prop}

/-- 'v, ok := m[k]' -/
theorem wl_look_ok (hg : o.guard = none) (m x : Operand) (hop : o.op = Op.lookup t m x true) (ht : P.underlying t = some (.map k e)) (he : P.underlying e = some (.int .i64)) (hz : (zeroValue e).run P w = .ok (.int .i64 0) w)
    (h : MapF E e w b N sz f) (hm : ac.eval m = .map (some b)) (a : α) (ha : E.ok a) (hx : ac.eval x = E.enc a)
    (hK : wpList P ops Q rest (ac.put o.dst (.tuple #[.int .i64 ((f a).getD 0), .bool (f a).isSome])) w) : wpList P ops Q (o :: rest) ac w := by
  obtain ⟨D, hD, _, hr⟩ := h
  obtain ⟨h1, h2⟩ := hr a ha
  refine wpList_lookup_own_ok_int w hg m x t hop k e .i64 E.keyed ht he hz b N D hm hD _ _ hx (E.key a ha) fun c hat _ => ?_
  rw [h1]
  have hc : c = (f a).getD 0 := by
    cases hf : f a with
    | none =>
      rw [hf] at h1
      rw [Maps.atKey_of_not_has h1] at hat
      simp only [DataW.lit.injEq, Lit.int.injEq, true_and] at hat
      exact hat.symm
    | some v =>
      rw [h2 v hf] at hat
      simp only [DataW.lit.injEq, Lit.int.injEq, true_and] at hat
      exact hat.symm
  rw [hc]; exact hK
/-- 'm[k]' -/
theorem wl_look (hg : o.guard = none) (m x : Operand) (hop : o.op = Op.lookup t m x false) (ht : P.underlying t = some (.map k e)) (he : P.underlying e = some (.int .i64)) (hz : (zeroValue e).run P w = .ok (.int .i64 0) w)
    (h : MapF E e w b N sz f) (hm : ac.eval m = .map (some b)) (a : α) (ha : E.ok a) (hx : ac.eval x = E.enc a)
    (hK : wpList P ops Q rest (ac.put o.dst (.int .i64 ((f a).getD 0))) w) : wpList P ops Q (o :: rest) ac w := by
  obtain ⟨D, hD, _, hr⟩ := h
  obtain ⟨h1, h2⟩ := hr a ha
  refine wpList_lookup_own_int w hg m x t hop k e .i64 E.keyed ht he hz b N D hm hD _ _ hx (E.key a ha) fun c hat _ => ?_
  have hc : c = (f a).getD 0 := by
    cases hf : f a with
    | none =>
      rw [hf] at h1
      rw [Maps.atKey_of_not_has h1] at hat
      simp only [DataW.lit.injEq, Lit.int.injEq, true_and] at hat
      exact hat.symm
    | some v =>
      rw [h2 v hf] at hat
      simp only [DataW.lit.injEq, Lit.int.injEq, true_and] at hat
      exact hat.symm
  rw [hc]; exact hK
/-- 'len(m)' -/
theorem wl_maplen (hg : o.guard = none) (m : Operand) (hop : o.op = .call { callee := .builtin .len, args := #[m], argTypes := #[t] }) (ht : P.underlying t = some (.map k e))
    (h : MapF E e w b N sz f) (hm : ac.eval m = .map (some b)) (hK : wpList P ops Q rest (ac.put o.dst (.int .i64 sz)) w) : wpList P ops Q (o :: rest) ac w := by
  obtain ⟨D, hD, hs, _⟩ := h
  refine wpList_len_own w hg m t hop k e ht _ b N D hm hD ?_
  rw [hs]; exact hK
/-- 'm[k] = v' -/
theorem wl_put [DecidableEq α] (hg : o.guard = none) (m x v : Operand) (hop : o.op = Op.mapUpdate t m x v) (ht : P.underlying t = some (.map k e)) (he : P.underlying e = some (.int .i64))
    (h : MapF E e w b N sz f) (hN : N < maxLen) (hm : ac.eval m = .map (some b)) (a : α) (ha : E.ok a) (hx : ac.eval x = E.enc a) (z : Int) (hv : ac.eval v = .int .i64 z) (hz : (Lit.int .i64 z).wf = true)
    (hK : ∀ w', MapF E e w' b (N + 1) (if (f a).isSome then sz else sz + 1) (fun y => if y = a then some z else f y) → w.grownBy w' (some b) → wpList P ops Q rest (ac.put o.dst undef) w') : wpList P ops Q (o :: rest) ac w := by
  obtain ⟨D, hD, hs, hr⟩ := h
  refine wpList_mapUpdate_own w hg m x v t hop k e E.keyed ht _ b N D hm hD hN _ _ (E.lit a) hx hv (E.key a ha) _ [] (plainElem_int he hz) fun w' h1 h2 => hK w' ⟨_, h1, ?_, ?_⟩ h2
  · rw [Maps.size_put (hD.tidy E.keyed), (hr a ha).1, hs]
  · intro y hy
    have hlit := E.keyed.key (E.key a ha)
    by_cases hya : y = a
    · subst hya
      refine ⟨by rw [Maps.has_put_same hD.isMap hlit]; simp, fun v' hv' => ?_⟩
      rw [Maps.atKey_put_same hD.isMap hlit]
      simp at hv'; rw [hv']
    · have hne : E.lit y ≠ E.lit a := fun h => hya (E.inj y a hy ha h)
      refine ⟨by rw [Maps.has_put_other hne, (hr y hy).1]; simp [hya], fun v' hv' => ?_⟩
      rw [Maps.atKey_put_other hne]
      exact (hr y hy).2 v' (by simpa [hya] using hv')
end
end Go.Proofs.Ytjedmiegcbdedaa
