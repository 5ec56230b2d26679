/- Maps of the call's own, to ints, read as a function: generic over the program. -/
import Derived.Test.YthocenkedncoeaaLib
import Derived.Maps.Own
import Derived.Maps.OwnOps
import Derived.Maps.OwnSet
import Derived.Maps.Views
import Derived.Laws.Rows
import Derived.DeepKeys4
namespace Go.Proofs.Ythocenkedncoeaa
open Go.RowKit Go.ChangeMaps

/-- How keys of a type are written: as a value, as a literal. -/
structure KeyEnc (P : Program) (k : TypeId) (α : Type) where
  enc : α → Value
  lit : α → Lit
  ok : α → Prop
  keyed : Maps.Keyed P k
  key : ∀ a, ok a → keyOf P k (enc a) = some (lit a)
  inj : ∀ a b, ok a → ok b → lit a = lit b → a = b

/-- Block b is a map to ints that reads as f, and has sz entries. -/
def MapF {P : Program} {k : TypeId} {α : Type} (E : KeyEnc P k α) (e : TypeId) (w : World) (b N sz : Nat) (f : α → Option Int) : Prop :=
  ∃ D : DataW Nat, w.ownsMap P k (plainElem P e) b N D ∧ Maps.size D = sz ∧ ∀ a, E.ok a → Maps.has D (E.lit a) = (f a).isSome ∧ ∀ v, f a = some v → D.atKey (E.lit a) (.lit (.int .i64 0)) = .lit (.int .i64 v)

section
variable {P : Program} {k e t : TypeId} {α : Type} {E : KeyEnc P k α} {w w' : World} {b N sz : Nat} {f : α → Option Int}

theorem MapF.made (w : World) : MapF E e (w.alloc (.map #[] 0)) w.heap.size 0 0 (fun _ => none) :=
  ⟨.map [], World.ownsMap_made w P k _, rfl, fun a _ => ⟨rfl, fun v hv => by cases hv⟩⟩
theorem MapF.lt (h : MapF E e w b N sz f) : b < w.heap.size := by
  obtain ⟨D, hD, _⟩ := h; exact hD.lt
theorem MapF.mono {N' : Nat} (h : MapF E e w b N sz f) (hN : N ≤ N') : MapF E e w b N' sz f := by
  obtain ⟨D, hD, r⟩ := h; exact ⟨D, hD.mono hN, r⟩
theorem MapF.kept {row : Option Nat} (h : MapF E e w b N sz f) (hg : w.grownBy w' row) (hne : some b ≠ row) : MapF E e w' b N sz f := by
  obtain ⟨D, hD, r⟩ := h; exact ⟨D, hD.kept hg hne, r⟩
theorem MapF.below (h : MapF E e w b N sz f) (hb : Below w.heap.size w w') : MapF E e w' b N sz f := by
  have hlt := h.lt
  obtain ⟨D, ⟨es, clock, hh, F, hs, hD⟩, r⟩ := h
  exact ⟨D, ⟨es, clock, (hb.block b hlt).trans hh, F, hs, hD⟩, r⟩
theorem MapF.alloc (h : MapF E e w b N sz f) (o : Obj) : MapF E e (w.alloc o) b N sz f := h.below ((Below.refl _ _).alloc (Nat.le_refl _) o)
theorem MapF.drew (h : MapF E e w b N sz f) : MapF E e w.drew b N sz f := h.below (Below.refl _ _).drew
theorem MapF.setCell (h : MapF E e w b N sz f) {a : Addr} (ha : b ≠ a.block) (u : Value) : MapF E e (w.setCell a u) b N sz f := by
  obtain ⟨D, hD, r⟩ := h; exact ⟨D, hD.setCell ha u, r⟩

variable {ops : Array Oper} {rest : List Oper} {o : Oper} {ac : Act} {Q : Exit → Act → World → Prop}

/-- 'v, ok := m[k]' -/
theorem wl_look_ok (hg : o.guard = none) (m x : Operand) (hop : o.op = Op.lookup t m x true) (ht : P.underlying t = some (.map k e)) (he : P.underlying e = some (.int .i64)) (hz : (zeroValue e).run P w = .ok (.int .i64 0) w)
    (h : MapF E e w b N sz f) (hm : ac.eval m = .map (some b)) (a : α) (ha : E.ok a) (hx : ac.eval x = E.enc a)
    (hK : wpList P ops Q rest (ac.put o.dst (.tuple #[.int .i64 ((f a).getD 0), .bool (f a).isSome])) w) : wpList P ops Q (o :: rest) ac w := by
  obtain ⟨D, hD, _, hr⟩ := h
  obtain ⟨h1, h2⟩ := hr a ha
  refine wpList_lookup_own_ok_int w hg m x t hop k e .i64 E.keyed ht he hz b N D hm hD _ _ hx (E.key a ha) fun c hat _ => ?_
  rw [h1]
  have hc : c = (f a).getD 0 := by
    cases hf : f a with
    | none =>
      rw [hf] at h1
      rw [Maps.atKey_of_not_has h1] at hat
      simp only [DataW.lit.injEq, Lit.int.injEq, true_and] at hat
      exact hat.symm
    | some v =>
      rw [h2 v hf] at hat
      simp only [DataW.lit.injEq, Lit.int.injEq, true_and] at hat
      exact hat.symm
  rw [hc]; exact hK
/-- 'm[k]' -/
theorem wl_look (hg : o.guard = none) (m x : Operand) (hop : o.op = Op.lookup t m x false) (ht : P.underlying t = some (.map k e)) (he : P.underlying e = some (.int .i64)) (hz : (zeroValue e).run P w = .ok (.int .i64 0) w)
    (h : MapF E e w b N sz f) (hm : ac.eval m = .map (some b)) (a : α) (ha : E.ok a) (hx : ac.eval x = E.enc a)
    (hK : wpList P ops Q rest (ac.put o.dst (.int .i64 ((f a).getD 0))) w) : wpList P ops Q (o :: rest) ac w := by
  obtain ⟨D, hD, _, hr⟩ := h
  obtain ⟨h1, h2⟩ := hr a ha
  refine wpList_lookup_own_int w hg m x t hop k e .i64 E.keyed ht he hz b N D hm hD _ _ hx (E.key a ha) fun c hat _ => ?_
  have hc : c = (f a).getD 0 := by
    cases hf : f a with
    | none =>
      rw [hf] at h1
      rw [Maps.atKey_of_not_has h1] at hat
      simp only [DataW.lit.injEq, Lit.int.injEq, true_and] at hat
      exact hat.symm
    | some v =>
      rw [h2 v hf] at hat
      simp only [DataW.lit.injEq, Lit.int.injEq, true_and] at hat
      exact hat.symm
  rw [hc]; exact hK
/-- 'len(m)' -/
theorem wl_maplen (hg : o.guard = none) (m : Operand) (hop : o.op = .call { callee := .builtin .len, args := #[m], argTypes := #[t] }) (ht : P.underlying t = some (.map k e))
    (h : MapF E e w b N sz f) (hm : ac.eval m = .map (some b)) (hK : wpList P ops Q rest (ac.put o.dst (.int .i64 sz)) w) : wpList P ops Q (o :: rest) ac w := by
  obtain ⟨D, hD, hs, _⟩ := h
  refine wpList_len_own w hg m t hop k e ht _ b N D hm hD ?_
  rw [hs]; exact hK
/-- 'm[k] = v' -/
theorem wl_put [DecidableEq α] (hg : o.guard = none) (m x v : Operand) (hop : o.op = Op.mapUpdate t m x v) (ht : P.underlying t = some (.map k e)) (he : P.underlying e = some (.int .i64))
    (h : MapF E e w b N sz f) (hN : N < maxLen) (hm : ac.eval m = .map (some b)) (a : α) (ha : E.ok a) (hx : ac.eval x = E.enc a) (z : Int) (hv : ac.eval v = .int .i64 z) (hz : (Lit.int .i64 z).wf = true)
    (hK : ∀ w', MapF E e w' b (N + 1) (if (f a).isSome then sz else sz + 1) (fun y => if y = a then some z else f y) → w.grownBy w' (some b) → wpList P ops Q rest (ac.put o.dst undef) w') : wpList P ops Q (o :: rest) ac w := by
  obtain ⟨D, hD, hs, hr⟩ := h
  refine wpList_mapUpdate_own w hg m x v t hop k e E.keyed ht _ b N D hm hD hN _ _ (E.lit a) hx hv (E.key a ha) _ [] (plainElem_int he hz) fun w' h1 h2 => hK w' ⟨_, h1, ?_, ?_⟩ h2
  · rw [Maps.size_put (hD.tidy E.keyed), (hr a ha).1, hs]
  · intro y hy
    have hlit := E.keyed.key (E.key a ha)
    by_cases hya : y = a
    · subst hya
      refine ⟨by rw [Maps.has_put_same hD.isMap hlit]; simp, fun v' hv' => ?_⟩
      rw [Maps.atKey_put_same hD.isMap hlit]
      simp at hv'; rw [hv']
    · have hne : E.lit y ≠ E.lit a := fun h => hya (E.inj y a hy ha h)
      refine ⟨by rw [Maps.has_put_other hne, (hr y hy).1]; simp [hya], fun v' hv' => ?_⟩
      rw [Maps.atKey_put_other hne]
      exact (hr y hy).2 v' (by simpa [hya] using hv')
end
end Go.Proofs.Ythocenkedncoeaa
namespace Go.Proofs.Ythocenkedncoeaa
open Go.RowKit Go.ChangeMaps

theorem mapM_isSome {α β : Type} (f : α → Option β) : ∀ L : List α, (∀ i ∈ L, (f i).isSome = true) → (L.mapM f).isSome = true
  | [], _ => by simp
  | x :: L, h => by
    obtain ⟨y, hy⟩ := Option.isSome_iff_exists.1 (h x (by simp))
    obtain ⟨z, hz⟩ := Option.isSome_iff_exists.1 (mapM_isSome f L (fun i hi => h i (by simp [hi])))
    simp [List.mapM_cons, hy, hz]

theorem keyLits_int {P : Program} {e : TypeId} (he : P.underlying e = some (.int .i64)) (d : Nat) (x : Int) (hx : (Lit.int .i64 x).wf = true) : P.keyLits (d + 1) e [.int .i64 x] = some [.int .i64 x] := by
  simp [Program.keyLits, he, hx]

/-- An array of ints is a key. -/
theorem arr_key {P : Program} {k e m : Nat} (hk : P.underlying k = some (.array m e)) (he : P.underlying e = some (.int .i64)) (hce : P.cellsOf e = 1) (hck : P.cellsOf k = m) (hkt : P.keyType k = true) (hsz : 0 < P.types.size)
    (l : List Int) (hlen : l.length = m) (hw : ∀ x ∈ l, (Lit.int .i64 x).wf = true) : (keyOf P k (.agg (l.map (Value.int .i64)).toArray)).isSome = true := by
  unfold keyOf
  simp only [hk, hkt, Value.formed, hck, Value.cells]
  simp only [List.size_toArray, List.length_map, hlen, beq_self_eq_true, Bool.and_self, if_true, Option.isSome_map]
  obtain ⟨s, hs⟩ : ∃ s, P.types.size = s + 1 := ⟨P.types.size - 1, by omega⟩
  rw [hs]
  unfold Program.keyLits
  simp only [hk, hck, hce, List.length_map, hlen, if_true, Option.isSome_map]
  refine mapM_isSome _ _ fun i hi => ?_
  have hi' : i < l.length := by rw [hlen]; simpa using hi
  have hd : ((l.map (Value.int IntKind.i64)).drop (i * 1)).take 1 = [.int .i64 (l[i])] := by
    rw [Nat.mul_one, List.drop_eq_getElem_cons (by simpa using hi')]
    simp
  rw [hd, keyLits_int he s _ (hw _ (List.getElem_mem _))]
  rfl

theorem toArray_map_inj {a b : List Int} (h : (Value.agg (a.map (Value.int .i64)).toArray) = .agg (b.map (Value.int .i64)).toArray) : a = b := by
  simp only [Value.agg.injEq] at h
  have h2 : a.map (Value.int IntKind.i64) = b.map (Value.int IntKind.i64) := congrArg Array.toList h
  exact (List.map_inj_right (fun x y h => by simpa using h)).1 h2

/-- Keys that are arrays of ints, as lists. -/
noncomputable def encArr {P : Program} {k e m : Nat} (hk : P.underlying k = some (.array m e)) (he : P.underlying e = some (.int .i64)) (hce : P.cellsOf e = 1) (hck : P.cellsOf k = m) (hkt : P.keyType k = true) (hsz : 0 < P.types.size)
    (hK : Maps.Keyed P k) : KeyEnc P k (List Int) where
  enc := fun l => .agg (l.map (Value.int .i64)).toArray
  lit := fun l => (keyOf P k (.agg (l.map (Value.int .i64)).toArray)).getD (.bool false)
  ok := fun l => l.length = m ∧ ∀ x ∈ l, (Lit.int .i64 x).wf = true
  keyed := hK
  key := fun l h => by
    have := arr_key hk he hce hck hkt hsz l h.1 h.2
    obtain ⟨x, hx⟩ := Option.isSome_iff_exists.1 this
    rw [hx]; rfl
  inj := fun a b ha hb h => by
    have h1 := arr_key hk he hce hck hkt hsz a ha.1 ha.2
    have h2 := arr_key hk he hce hck hkt hsz b hb.1 hb.2
    obtain ⟨x, hx⟩ := Option.isSome_iff_exists.1 h1
    obtain ⟨y, hy⟩ := Option.isSome_iff_exists.1 h2
    rw [hx, hy] at h
    simp only [Option.getD_some] at h
    subst h
    exact toArray_map_inj (hK.inj hx hy)

section
variable {P : Program} {k e t : TypeId} {α : Type} {E : KeyEnc P k α} {w w' : World} {b N sz : Nat} {f : α → Option Int}
theorem MapF.drewN (h : MapF E e w b N sz f) (n : Nat) : MapF E e (w.drewN n) b N sz f := h.below (belowN (Below.refl _ _) n)
/-- 'v, ok := m[k]', as it runs. -/
theorem MapF.run_ok (ht : P.underlying t = some (.map k e)) (he : P.underlying e = some (.int .i64)) (hz : (zeroValue e).run P w = .ok (.int .i64 0) w) (h : MapF E e w b N sz f) (a : α) (ha : E.ok a) :
    (Instr.lookup t (.map (some b)) (E.enc a) true).run P w = .ok (.tuple #[.int .i64 ((f a).getD 0), .bool (f a).isSome]) w := by
  obtain ⟨D, hD, _, hr⟩ := h
  obtain ⟨h1, h2⟩ := hr a ha
  obtain ⟨v, ps, hrun, hv⟩ := hD.look_ok E.keyed ht hz (plainElem_int he (by decide)) (E.key a ha)
  obtain ⟨c, rfl, hc, hwc⟩ := plainElem_int_inv he hv
  rw [hrun, h1]
  have hat := congrArg Prod.fst hc
  simp only at hat
  have hc : c = (f a).getD 0 := by
    cases hf : f a with
    | none =>
      rw [hf] at h1
      rw [Maps.atKey_of_not_has h1] at hat
      simp only [DataW.lit.injEq, Lit.int.injEq, true_and] at hat
      exact hat.symm
    | some v =>
      rw [h2 v hf] at hat
      simp only [DataW.lit.injEq, Lit.int.injEq, true_and] at hat
      exact hat.symm
  rw [hc]
end
end Go.Proofs.Ythocenkedncoeaa
