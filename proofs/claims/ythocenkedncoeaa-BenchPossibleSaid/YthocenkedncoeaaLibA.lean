/- 'm[k]++' on a map of the call's own, to ints: what its operations do, in every world: generic over the program. -/
import Derived.Test.YthocenkedncoeaaLib5
import Derived.WideKeyEntry
import Derived.Maps.Range
namespace Go.Proofs.Ythocenkedncoeaa
open Go.RowKit Go.ChangeMaps Go.MapKept Go.WideShapes
open Go.WideElems (Fit rd rg pl rd_key rd_val rg_of findIdx_born findIdx_arr modify_last set_self)
open Go.Maps (Keyed)
section
variable {P : Program} {k e t : TypeId} {α : Type} {E : KeyEnc P k α} {w w' : World} {b N sz : Nat} {f : α → Option Int}
theorem MapF.block (h : MapF E e w b N sz f) (hb : w'.heap[b]? = w.heap[b]?) : MapF E e w' b N sz f := by
  obtain ⟨D, ⟨es, clock, hh, F, hs, hD⟩, r⟩ := h
  exact ⟨D, ⟨es, clock, hb.trans hh, F, hs, hD⟩, r⟩
/-- 'm[k]', as it runs. -/
theorem MapF.run (ht : P.underlying t = some (.map k e)) (he : P.underlying e = some (.int .i64)) (hz : (zeroValue e).run P w = .ok (.int .i64 0) w) (h : MapF E e w b N sz f) (a : α) (ha : E.ok a) :
    (Instr.lookup t (.map (some b)) (E.enc a) false).run P w = .ok (.int .i64 ((f a).getD 0)) w := by
  obtain ⟨D, hD, _, hr⟩ := h
  obtain ⟨h1, h2⟩ := hr a ha
  obtain ⟨v, ps, hrun, hv⟩ := hD.lookup E.keyed ht hz (plainElem_int he (by decide)) (E.key a ha)
  obtain ⟨c, rfl, hc, hwc⟩ := plainElem_int_inv he hv
  rw [hrun]
  have hat := congrArg Prod.fst hc
  simp only at hat
  have hc : c = (f a).getD 0 := by
    cases hf : f a with
    | none =>
      rw [hf] at h1
      rw [Maps.atKey_of_not_has h1] at hat
      simp only [DataW.lit.injEq, Lit.int.injEq, true_and] at hat
      exact hat.symm
    | some v =>
      rw [h2 v hf] at hat
      simp only [DataW.lit.injEq, Lit.int.injEq, true_and] at hat
      exact hat.symm
  rw [hc]
/-- 'm[k] = v', as it runs. -/
theorem MapF.update [DecidableEq α] (ht : P.underlying t = some (.map k e)) (he : P.underlying e = some (.int .i64)) (h : MapF E e w b N sz f) (hN : N < maxLen) (a : α) (ha : E.ok a) (z : Int) (hz : (Lit.int .i64 z).wf = true) :
    ∃ w', (Instr.mapUpdate t (.map (some b)) (E.enc a) (.int .i64 z)).run P w = .ok () w' ∧ MapF E e w' b (N + 1) (if (f a).isSome then sz else sz + 1) (fun y => if y = a then some z else f y) ∧ w.grownBy w' (some b) := by
  obtain ⟨D, hD, hs, hr⟩ := h
  obtain ⟨w', hrun, h1, h2⟩ := hD.update E.keyed ht hN (E.key a ha) (plainElem_int he hz)
  refine ⟨w', hrun, ⟨_, h1, ?_, ?_⟩, h2⟩
  · rw [Maps.size_put (hD.tidy E.keyed), (hr a ha).1, hs]
  · intro y hy
    have hlit := E.keyed.key (E.key a ha)
    by_cases hya : y = a
    · subst hya
      refine ⟨by rw [Maps.has_put_same hD.isMap hlit]; simp, fun v' hv' => ?_⟩
      rw [Maps.atKey_put_same hD.isMap hlit]
      simp at hv'; rw [hv']
    · have hne : E.lit y ≠ E.lit a := fun h => hya (E.inj y a hy ha h)
      refine ⟨by rw [Maps.has_put_other hne, (hr y hy).1]; simp [hya], fun v' hv' => ?_⟩
      rw [Maps.atKey_put_other hne]
      exact (hr y hy).2 v' (by simpa [hya] using hv')
/-- what the three operations of 'm[k]++' do -/
structure Bumps (P : Program) (t e b : Nat) {k : TypeId} {α : Type} [DecidableEq α] (E : KeyEnc P k α) (N sz : Nat) (f : α → Option Int) (a : α) (z : Int) (o0 o1 o2 : Obj) (st : Nat) : Prop where
  look0 : ∀ u : World, u.heap[b]? = some o0 → (Instr.lookup t (.map (some b)) (E.enc a) false).run P u = .ok (.int .i64 ((f a).getD 0)) u
  entry : ∀ u : World, u.heap[b]? = some o0 → (Instr.mapEntry t (.map (some b)) (E.enc a)).run P u = .ok (.tuple #[.int .i64 ((f a).getD 0), goInt st]) (setBlock u b o1)
  look1 : ∀ u : World, u.heap[b]? = some o1 → (Instr.lookup t (.map (some b)) (E.enc a) false).run P u = .ok (.int .i64 ((f a).getD 0)) u
  store : ∀ u : World, u.heap[b]? = some o1 → (Instr.entryStore t (.map (some b)) (goInt st) (.int .i64 z)).run P u = .ok () (setBlock u b o2)
  maps : ∀ u : World, u.heap[b]? = some o2 → MapF E e u b (N + 1) (if (f a).isSome then sz else sz + 1) (fun y => if y = a then some z else f y)
theorem setBlock_at {u : World} {b : Nat} {es : Array MapEntry} {clock : Nat} {o' : Obj} (h : u.heap[b]? = some (.map es clock)) : (setBlock u b o').heap[b]? = some o' := heap_setBlock_same h o'
theorem MapF.bumps [DecidableEq α] (ht : P.underlying t = some (.map k e)) (he : P.underlying e = some (.int .i64)) (hz : ∀ u : World, (zeroValue e).run P u = .ok (.int .i64 0) u) (h : MapF E e w b N sz f) (hN : N < maxLen) (a : α) (ha : E.ok a) (z : Int) (hzw : (Lit.int .i64 z).wf = true) :
    ∃ o0 o1 o2 st, w.heap[b]? = some o0 ∧ Bumps P t e b E N sz f a z o0 o1 o2 st := by
  have hM := h
  obtain ⟨D, ⟨es, clock, hb, F, hs, hD⟩, hr⟩ := h
  have hkey := E.key a ha
  have hlk : ∀ u : World, u.heap[b]? = some (.map es clock) → (Instr.lookup t (.map (some b)) (E.enc a) false).run P u = .ok (.int .i64 ((f a).getD 0)) u := fun u hu => MapF.run ht he (hz u) (hM.block (hu.trans hb.symm)) a ha
  obtain ⟨wz, hrz, hMz, _⟩ := MapF.update ht he hM hN a ha z hzw
  obtain ⟨s1, s2, _⟩ := F.stamped
  have s3 := ((stamped_iff es clock).1 F.stamped).2.2
  rcases E.keyed.find w hkey es.toList F.keys with ⟨h1, h2⟩ | ⟨j, e0, h1, h2, h3⟩
  · have hfd : ∀ u : World, (Instr.findKey k (E.enc a) es.toList).run P u = .ok none u := fun u => by
      rcases E.keyed.find u hkey es.toList F.keys with ⟨g1, _⟩ | ⟨j, e9, _, g2, g3⟩
      · exact g1
      · exact absurd g3 (h2 _ (List.mem_of_getElem? g2))
    have hl0 : (Instr.lookup t (.map (some b)) (E.enc a) false).run P w = .ok (.int .i64 0) w := by
      simp [Instr.lookup, run_underlying ht, MapKept.run_getObj_map hb, E.keyed.check w _ hkey, h1, hz, Result.andThen]
    have hc0 : (f a).getD 0 = 0 := by
      have := hlk w hb
      rw [hl0] at this
      simpa using this.symm
    obtain ⟨w0, hr0, hM0, _⟩ := MapF.update ht he hM hN a ha 0 (by decide)
    have hex : ∀ v : Int, (Instr.mapUpdate t (.map (some b)) (E.enc a) (.int .i64 v)).run P w = .ok () (setBlock w b (.map (es.push ⟨E.enc a, .int .i64 v, clock⟩) (clock + 1))) := fun v => by
      simp [Instr.mapUpdate, run_underlying ht, MapKept.run_getObj_map hb, E.keyed.check w false hkey, h1, MapKept.run_setObj_map _ hb, Result.andThen, setBlock]
    rw [hex] at hr0 hrz
    obtain rfl : setBlock w b (.map (es.push ⟨E.enc a, .int .i64 0, clock⟩) (clock + 1)) = w0 := by simpa using hr0
    obtain rfl : setBlock w b (.map (es.push ⟨E.enc a, .int .i64 z, clock⟩) (clock + 1)) = wz := by simpa using hrz
    refine ⟨.map es clock, .map (es.push ⟨E.enc a, .int .i64 0, clock⟩) (clock + 1), .map (es.push ⟨E.enc a, .int .i64 z, clock⟩) (clock + 1), clock, hb, hlk, fun u hu => ?_, fun u hu => ?_, fun u hu => ?_, fun u hu => hMz.block (hu.trans (setBlock_at hb).symm)⟩
    · simp [Instr.mapEntry, run_underlying ht, MapKept.run_getObj_map hu, E.keyed.check u false hkey, hfd u, hz, MapKept.run_setObj_map _ hu, Result.andThen, setBlock, hc0]
    · have := MapF.run ht he (hz u) (hM0.block (hu.trans (setBlock_at hb).symm)) a ha
      rw [this, hc0]; simp
    · have hidx : (es.push ⟨E.enc a, .int .i64 0, clock⟩).findIdx? (fun e => ((e.born : Nat) : Int) == ((clock : Nat) : Int)) = some es.size := by
        rw [findIdx_arr]
        have := findIdx_born (l := (es.push ⟨E.enc a, .int .i64 0, clock⟩).toList) (j := es.size) (e0 := ⟨E.enc a, .int .i64 0, clock⟩) (by
          simp only [Array.toList_push, List.map_append, List.map_cons, List.map_nil]
          refine List.nodup_append.2 ⟨s2, by simp, fun a ha c hc e1 => ?_⟩
          simp only [List.mem_singleton] at hc
          obtain ⟨x, hx, rfl⟩ := List.mem_map.1 ha
          have := s1 x hx
          omega) (by simp)
        exact this
      have hmod : (es.push ⟨E.enc a, .int .i64 0, clock⟩).modify es.size (fun e => { e with val := .int .i64 z }) = es.push ⟨E.enc a, .int .i64 z, clock⟩ := by
        apply Array.ext'
        rw [Array.toList_modify, Array.toList_push, Array.toList_push, ← Array.length_toList, modify_last]
      simp [Instr.entryStore, MapKept.run_getObj_map hu, asInt, asIntOf, goInt, hidx, hmod, MapKept.run_setObj_map _ hu, Result.andThen, setBlock]
  · have hm0 := List.mem_of_getElem? h2
    have hfd : ∀ u : World, ∃ j', (Instr.findKey k (E.enc a) es.toList).run P u = .ok (some (j', e0.val)) u ∧ es.toList[j']? = some e0 := fun u => by
      rcases E.keyed.find u hkey es.toList F.keys with ⟨_, g2⟩ | ⟨j9, e9, g1, g2, g3⟩
      · exact absurd h3 (g2 _ hm0)
      · obtain rfl := entry_eq_of_key s3 (List.mem_of_getElem? g2) hm0 (g3.trans h3.symm)
        exact ⟨j9, g1, g2⟩
    have hl0 : (Instr.lookup t (.map (some b)) (E.enc a) false).run P w = .ok e0.val w := by
      simp [Instr.lookup, run_underlying ht, MapKept.run_getObj_map hb, E.keyed.check w _ hkey, h1, Result.andThen]
    have hv0 : e0.val = .int .i64 ((f a).getD 0) := by
      have := hlk w hb
      rw [hl0] at this
      simpa using this
    have hj : es[j]? = some e0 := by simpa using h2
    have hex : (Instr.mapUpdate t (.map (some b)) (E.enc a) (.int .i64 z)).run P w = .ok () (setBlock w b (.map (es.modify j (fun e' => { e' with key := E.enc a, val := .int .i64 z })) clock)) := by
      simp [Instr.mapUpdate, run_underlying ht, MapKept.run_getObj_map hb, E.keyed.check w false hkey, h1, hj, h3, E.keyed.stays w hkey, MapKept.run_setObj_map _ hb, Result.andThen, setBlock]
    rw [hex] at hrz
    obtain rfl : setBlock w b (.map (es.modify j (fun e' => { e' with key := E.enc a, val := .int .i64 z })) clock) = wz := by simpa using hrz
    refine ⟨.map es clock, .map es clock, .map (es.modify j (fun e' => { e' with key := E.enc a, val := .int .i64 z })) clock, e0.born, hb, hlk, fun u hu => ?_, hlk, fun u hu => ?_, fun u hu => hMz.block (hu.trans (setBlock_at hb).symm)⟩
    · obtain ⟨j', g1, g2⟩ := hfd u
      have gj : es[j']? = some e0 := by simpa using g2
      have hsame : es.modify j' (fun e => { e with key := E.enc a }) = es := by
        apply Array.ext'
        rw [Array.toList_modify, ChangeMaps.modify_eq_set _ _ _ _ g2]
        have : ({ e0 with key := E.enc a } : MapEntry) = e0 := by rw [← h3]
        rw [this]
        exact set_self _ _ _ g2
      simp [Instr.mapEntry, run_underlying ht, MapKept.run_getObj_map hu, E.keyed.check u false hkey, g1, gj, h3, E.keyed.stays u hkey, hsame, MapKept.run_setObj_map _ hu, Result.andThen, setBlock, hv0]
    · have hidx : es.findIdx? (fun e => ((e.born : Nat) : Int) == ((e0.born : Nat) : Int)) = some j := by
        rw [findIdx_arr]
        exact findIdx_born s2 h2
      have hmod : es.modify j (fun e => { e with val := .int .i64 z }) = es.modify j (fun e' => { e' with key := E.enc a, val := .int .i64 z }) := by
        apply Array.ext'
        rw [Array.toList_modify, Array.toList_modify, ChangeMaps.modify_eq_set _ _ _ _ h2, ChangeMaps.modify_eq_set _ _ _ _ h2, ← h3]
      simp [Instr.entryStore, MapKept.run_getObj_map hu, asInt, asIntOf, goInt, hidx, hmod, MapKept.run_setObj_map _ hu, Result.andThen, setBlock]
end
end Go.Proofs.Ythocenkedncoeaa
