/- Maps whose keys are arrays of ints; what a look-up runs to: generic over the program. -/
import Derived.Test.YtjedmiegcbdedaaLib5
import Derived.Laws.Rows
import Derived.DeepKeys4
namespace Go.Proofs.Ytjedmiegcbdedaa
open Go.RowKit Go.ChangeMaps

theorem mapM_isSome {α β : Type} (f : α → Option β) : ∀ L : List α, (∀ i ∈ L, (f i).isSome = true) → (L.mapM f).isSome = true
  | [], _ => by simp
  | x :: L, h => by
    obtain ⟨y, hy⟩ := Option.isSome_iff_exists.1 (h x (by simp))
    obtain ⟨z, hz⟩ := Option.isSome_iff_exists.1 (mapM_isSome f L (fun i hi => h i (by simp [hi])))
    simp [List.mapM_cons, hy, hz]

theorem keyLits_int {P : Program} {e : TypeId} (he : P.underlying e = some (.int .i64)) (d : Nat) (x : Int) (hx : (Lit.int .i64 x).wf = true) : P.keyLits (d + 1) e [.int .i64 x] = some [.int .i64 x] := by
  simp [Program.keyLits, he, hx]

/-- An array of ints is a key. -/
theorem arr_key {P : Program} {k e m : Nat} (hk : P.underlying k = some (.array m e)) (he : P.underlying e = some (.int .i64)) (hce : P.cellsOf e = 1) (hck : P.cellsOf k = m) (hkt : P.keyType k = true) (hsz : 0 < P.types.size)
    (l : List Int) (hlen : l.length = m) (hw : ∀ x ∈ l, (Lit.int .i64 x).wf = true) : (keyOf P k (.agg (l.map (Value.int .i64)).toArray)).isSome = true := by
  unfold keyOf
  simp only [hk, hkt, Value.formed, hck, Value.cells]
  simp only [List.size_toArray, List.length_map, hlen, beq_self_eq_true, Bool.and_self, if_true, Option.isSome_map]
  obtain ⟨s, hs⟩ : ∃ s, P.types.size = s + 1 := ⟨P.types.size - 1, by omega⟩
  rw [hs]
  unfold Program.keyLits
  simp only [hk, hck, hce, List.length_map, hlen, if_true, Option.isSome_map]
  refine mapM_isSome _ _ fun i hi => ?_
  have hi' : i < l.length := by rw [hlen]; simpa using hi
  have hd : ((l.map (Value.int IntKind.i64)).drop (i * 1)).take 1 = [.int .i64 (l[i])] := by
    rw [Nat.mul_one, List.drop_eq_getElem_cons (by simpa using hi')]
    simp
  rw [hd, keyLits_int he s _ (hw _ (List.getElem_mem _))]
  rfl

theorem toArray_map_inj {a b : List Int} (h : (Value.agg (a.map (Value.int .i64)).toArray) = .agg (b.map (Value.int .i64)).toArray) : a = b := by
  simp only [Value.agg.injEq] at h
  have h2 : a.map (Value.int IntKind.i64) = b.map (Value.int IntKind.i64) := congrArg Array.toList h
  exact (List.map_inj_right (fun x y h => by simpa using h)).1 h2

/-- Keys that are arrays of ints, as lists. -/
noncomputable def encArr {P : Program} {k e m : Nat} (hk : P.underlying k = some (.array m e)) (he : P.underlying e = some (.int .i64)) (hce : P.cellsOf e = 1) (hck : P.cellsOf k = m) (hkt : P.keyType k = true) (hsz : 0 < P.types.size)
    (hK : Maps.Keyed P k) : KeyEnc P k (List Int) where
  enc := fun l => .agg (l.map (Value.int .i64)).toArray
  lit := fun l => (keyOf P k (.agg (l.map (Value.int .i64)).toArray)).getD (.bool false)
  ok := fun l => l.length = m ∧ ∀ x ∈ l, (Lit.int .i64 x).wf = true
  keyed := hK
  key := fun l h => by
    have := arr_key hk he hce hck hkt hsz l h.1 h.2
    obtain ⟨x, hx⟩ := Option.isSome_iff_exists.1 this
    rw [hx]; rfl
  inj := fun a b ha hb h => by
    have h1 := arr_key hk he hce hck hkt hsz a ha.1 ha.2
    have h2 := arr_key hk he hce hck hkt hsz b hb.1 hb.2
    obtain ⟨x, hx⟩ := Option.isSome_iff_exists.1 h1
    obtain ⟨y, hy⟩ := Option.isSome_iff_exists.1 h2
    rw [hx, hy] at h
    simp only [Option.getD_some] at h
    subst h
    exact toArray_map_inj (hK.inj hx hy)

section
variable {P : Program} {k e t : TypeId} {α : Type} {E : KeyEnc P k α} {w w' : World} {b N sz : Nat} {f : α → Option Int}
theorem MapF.drewN (h : MapF E e w b N sz f) (n : Nat) : MapF E e (w.drewN n) b N sz f := h.below (belowN (Below.refl _ _) n)
/-- 'v, ok := m[k]', as it runs. -/
theorem MapF.run_ok (ht : P.underlying t = some (.map k e)) (he : P.underlying e = some (.int .i64)) (hz : (zeroValue e).run P w = .ok (.int .i64 0) w) (h : MapF E e w b N sz f) (a : α) (ha : E.ok a) :
    (Instr.lookup t (.map (some b)) (E.enc a) true).run P w = .ok (.tuple #[.int .i64 ((f a).getD 0), .bool (f a).isSome]) w := by
  obtain ⟨D, hD, _, hr⟩ := h
  obtain ⟨h1, h2⟩ := hr a ha
  obtain ⟨v, ps, hrun, hv⟩ := hD.look_ok E.keyed ht hz (plainElem_int he (by decide)) (E.key a ha)
  obtain ⟨c, rfl, hc, hwc⟩ := plainElem_int_inv he hv
  rw [hrun, h1]
  have hat := congrArg Prod.fst hc
  simp only at hat
  have hc : c = (f a).getD 0 := by
    cases hf : f a with
    | none =>
      rw [hf] at h1
      rw [Maps.atKey_of_not_has h1] at hat
      simp only [DataW.lit.injEq, Lit.int.injEq, true_and] at hat
      exact hat.symm
    | some v =>
      rw [h2 v hf] at hat
      simp only [DataW.lit.injEq, Lit.int.injEq, true_and] at hat
      exact hat.symm
  rw [hc]
end
end Go.Proofs.Ytjedmiegcbdedaa
