/- Chapter 11: keys that are two ints. -/
import Derived.Test.YtjedmiegcbdedaaXn
import Derived.Maps.RangeWalk
namespace Go.Proofs.Ytjedmiegcbdedaa
open Go.RowKit Go.ChangeMaps Store11
theorem keyLits_int_inv {P : Program} {e : TypeId} (he : P.underlying e = some (.int .i64)) : ∀ (d : Nat) (p : Value) (r : List Lit), P.keyLits d e [p] = some r → ∃ x, p = .int .i64 x ∧ (Lit.int .i64 x).wf = true
  | 0, p, r, h => by simp [Program.keyLits] at h
  | d + 1, p, r, h => by
    unfold Program.keyLits at h
    rw [he] at h
    cases p <;> simp at h
    obtain ⟨⟨rfl, hw⟩, _⟩ := h
    exact ⟨_, rfl, hw⟩
theorem arr2_inv {P : Program} {k e : Nat} (hk : P.underlying k = some (.array 2 e)) (he : P.underlying e = some (.int .i64)) (hce : P.cellsOf e = 1) (hck : P.cellsOf k = 2) {v : Value} {l : Lit} (h : keyOf P k v = some l) :
    ∃ c d, v = .agg #[.int .i64 c, .int .i64 d] ∧ (Lit.int .i64 c).wf = true ∧ (Lit.int .i64 d).wf = true := by
  unfold keyOf at h
  simp only [hk] at h
  by_cases hc : (P.keyType k && v.formed P k) = true
  · rw [if_pos hc] at h
    rw [Bool.and_eq_true] at hc
    have hf := hc.2
    cases v with
    | agg cs =>
      simp only [Value.formed, hk, hck, beq_iff_eq] at hf
      obtain ⟨p, q, rfl⟩ : ∃ p q, cs = #[p, q] := by
        obtain ⟨L⟩ := cs
        match L, hf with
        | [p, q], _ => exact ⟨p, q, rfl⟩
      simp only [Value.cells] at h
      obtain ⟨r, hr, _⟩ := Option.map_eq_some_iff.1 h
      unfold Program.keyLits at hr
      simp only [hk, hck, hce, List.length_cons, List.length_nil] at hr
      simp only [show List.range 2 = [0, 1] from rfl, List.mapM_cons, List.mapM_nil] at hr
      simp only [if_true, Option.map_eq_some_iff, Option.bind_eq_bind, Option.bind_eq_some_iff] at hr
      obtain ⟨_, ⟨r1, g1, _, ⟨r2, g2, _⟩, _⟩, _⟩ := hr
      obtain ⟨c, rfl, hc1⟩ := keyLits_int_inv he _ _ _ (show P.keyLits _ e [p] = some r1 from g1)
      obtain ⟨d, rfl, hd⟩ := keyLits_int_inv he _ _ _ (show P.keyLits _ e [q] = some r2 from g2)
      exact ⟨c, d, rfl, hc1, hd⟩
    | _ => simp [Value.formed, hk] at hf
  · rw [if_neg hc] at h; cases h
set_option maxRecDepth 100000 in
theorem key49_inv {v : Value} {l : Lit} (h : keyOf Try.prog 49 v = some l) : ∃ c d, v = .agg #[.int .i64 c, .int .i64 d] ∧ (enc2).ok [c, d] := by
  obtain ⟨c, d, e, h1, h2⟩ := arr2_inv (e := 3) (by kernel_rfl) Try.underlying3 (by kernel_rfl) (by kernel_rfl) h
  refine ⟨c, d, e, rfl, fun x hx => ?_⟩
  simp only [List.mem_cons, List.not_mem_nil, or_false] at hx
  rcases hx with rfl | rfl
  · exact h1
  · exact h2
abbrev kk2 (p : Int × Int) : Value := .agg #[.int .i64 p.1, .int .i64 p.2]
theorem inv2 : ∀ key kl, keyOf Try.prog 49 key = some kl → ∃ x, key = kk2 x := fun key kl h => by
  obtain ⟨c, d, e, _⟩ := key49_inv h
  exact ⟨(c, d), e⟩
theorem inv3 : ∀ v (y : DataW Nat × List MemPlace), plainElem Try.prog 3 v = some y → ∃ c, v = Value.int .i64 c := fun v y h => by
  obtain ⟨c, e, _⟩ := plainElem_int_inv Try.underlying3 h
  exact ⟨c, e⟩
set_option maxRecDepth 100000 in
/-- an entry that comes is one of the map -/
theorem entry2 {f : List Int → Option Int} {D : DataW Nat} (hr : ∀ a, (enc2).ok a → Maps.has D ((enc2).lit a) = (f a).isSome ∧ ∀ v, f a = some v → D.atKey ((enc2).lit a) (.lit (.int .i64 0)) = .lit (.int .i64 v))
    {x : Int × Int} {c : Int} {kl : Lit} {y : DataW Nat × List MemPlace} (hkey : keyOf Try.prog 49 (kk2 x) = some kl) (hv : plainElem Try.prog 3 (Value.int .i64 c) = some y) (hat : ∀ zd, D.atKey kl zd = y.1) :
    (enc2).ok [x.1, x.2] ∧ kl = (enc2).lit [x.1, x.2] ∧ f [x.1, x.2] = some c := by
  obtain ⟨c1, d1, e1, hok⟩ := key49_inv hkey
  obtain ⟨rfl, rfl⟩ : x.1 = c1 ∧ x.2 = d1 := by simpa using e1
  have hk : keyOf Try.prog 49 (kk2 x) = some ((enc2).lit [x.1, x.2]) := (enc2).key _ hok
  rw [hkey] at hk
  obtain rfl : kl = (enc2).lit [x.1, x.2] := Option.some.inj hk
  obtain ⟨c9, ec, ey, _⟩ := plainElem_int_inv Try.underlying3 hv
  obtain rfl : c = c9 := by simpa using ec
  subst ey
  obtain ⟨g1, g2⟩ := hr _ hok
  refine ⟨hok, rfl, ?_⟩
  cases hf : f [x.1, x.2] with
  | none =>
    rw [hf] at g1
    have h0 := hat (.lit (.int .i64 (c + 1)))
    rw [Maps.atKey_of_not_has g1] at h0
    simp only [DataW.lit.injEq, Lit.int.injEq, true_and] at h0
    omega
  | some v =>
    have := g2 v hf
    rw [hat] at this
    simp only [DataW.lit.injEq, Lit.int.injEq, true_and] at this
    rw [this]
theorem below_of_grown {w w' : World} {B b : Nat} (hg : w.grownBy w' (some b)) (hb : B ≤ b) (hs : B ≤ w.heap.size) : Below B w w' :=
  ⟨hg.os, hg.tape, hg.output, hg.size, fun k hk => hg.block k (by omega) (by simp; omega)⟩
theorem below_of_grown0 {w w' : World} (hg : w.grownBy w' none) : Below w.heap.size w w' :=
  ⟨hg.os, hg.tape, hg.output, hg.size, fun k hk => hg.block k hk (by simp)⟩
end Go.Proofs.Ytjedmiegcbdedaa
