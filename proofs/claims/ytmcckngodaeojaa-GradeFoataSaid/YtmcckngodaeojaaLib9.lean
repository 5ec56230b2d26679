/- append of a row of the call's own to another one, whatever their elements: generic over the program. -/
import Derived.Test.YtmcckngodaeojaaLib8
namespace Go.Proofs.Ytmcckngodaeojaa
open Go.RowKit
theorem OwnG.weaken {α : Type} {f : α → Value} {w : World} {e B B' : Nat} {a : Option Addr} {n c : Nat} {l : List α} (h : OwnG f w e B a n c l) (hB : B' ≤ B) : OwnG f w e B' a n c l := by
  obtain ⟨h1, h2⟩ := h
  refine ⟨h1, ?_⟩
  rcases h2 with h2 | ⟨g, cap, cur, hv, hg, r⟩
  · exact .inl h2
  · exact .inr ⟨g, cap, cur, hv, Nat.le_trans hB hg, r⟩
theorem OwnG.drewN {α : Type} {f : α → Value} {w : World} {e B : Nat} {a : Option Addr} {n c : Nat} {l : List α} (h : OwnG f w e B a n c l) (k : Nat) : OwnG f (w.drewN k) e B a n c l := h.below (belowN (Below.refl _ _) k)
/-- A literal of one that was just laid. -/
theorem own_oneG {α : Type} (f : α → Value) (w : World) (e B : Nat) (hB : B ≤ w.heap.size) (x : α) (v : Value) (hv : v = f x) : OwnG f (w.alloc (.cells #[v] e)) e B (some ⟨w.heap.size, 0, none⟩) 1 1 [x] := by
  subst hv
  exact ⟨rfl, .inr ⟨w.heap.size, 1, _, rfl, hB, heap_alloc_new w _, Nat.le_refl _, by unfold maxLen; omega, rfl, rfl⟩⟩
section
variable {P : Program} {t e : TypeId} {α : Type} {f : α → Value} {z : Value} {nb : Nat} (ht : P.underlying t = some (.slice e))
  (he : (P.info? e).map (fun i => (i.zero, i.size, i.bytes)) = some (some z, 1, nb)) (hzc : z.cells.size = 1) (hnb : nb ≤ 1000) (hf : ∀ x, (f x).oneCell' = true)
include ht he hzc hnb hf
/-- THE WALK's LAW: append(row, row2...). -/
theorem wl_app_rows {w : World} {a a' : Option Addr} {n c m c' e' B' : Nat} {A A' : List α} {ops : Array Oper} {rest : List Oper} {o : Oper} {ac : Act} {Q : Exit → Act → World → Prop} (B : Nat)
    (s x : Operand) (hg : o.guard = none) (ho : o.op = .call { callee := .builtin .append, args := #[s, x], argTypes := #[t, t] })
    (hs : ac.eval s = .slice a n c) (hx : ac.eval x = .slice a' m c') (h : OwnG f w e B a n c A) (h' : OwnG f w e' B' a' m c' A')
    (hB : B ≤ w.heap.size) (hsmall : n + m ≤ 1000000)
    (hK : ∀ a2 c2 w', OwnG f w' e B a2 (n + m) c2 (A ++ A') → w.grownBy w' (Value.slice a n c).ownBlock → Below B w w' → Via w a a2 → wpList P ops Q rest (ac.put o.dst (.slice a2 (n + m) c2)) w') :
    wpList P ops Q (o :: rest) ac w := by
  obtain ⟨i, hi, hz, hsz, hby⟩ := info_parts he
  have hl' := h'.len
  cases a' with
  | none =>
    have hm : m = 0 ∧ c' = 0 := by
      rcases h'.2 with ⟨hv, hn⟩ | ⟨g', cap, cur, hv, _⟩
      · simp only [Value.slice.injEq] at hv; exact ⟨hv.2.1, hv.2.2⟩
      · simp only [Value.slice.injEq] at hv; cases hv.1
    obtain ⟨rfl, rfl⟩ := hm
    obtain rfl : A' = [] := List.eq_nil_of_length_eq_zero hl'
    refine wpList_plain hg fun K hK' => ?_
    have hr := run_append_owned_none (P := P) (w := w) B t o.type e i 1 ht hi (.slice a n c) n _ h
    unfold Oper.wp
    simp [execOp, ho, resolve, invoke, builtin, hs, hx, hr, Result.andThen]
    exact hK' _ _ (hK a c w (by simpa using h) (World.grownBy.refl _ _) (Below.refl _ _) (Via.refl _ _))
  | some ad =>
    obtain ⟨g, hga⟩ : ∃ g, ad = ⟨g, 0, none⟩ := by
      rcases h'.2 with ⟨hv, hn⟩ | ⟨g', cap, cur, hv, _⟩
      · cases hv
      · simp only [Value.slice.injEq, Option.some.injEq] at hv; exact ⟨g', hv.1⟩
    subst hga
    have hbytes : (n + m) * nb ≤ 140737488355328 := Nat.le_trans (Nat.mul_le_mul hsmall hnb) (by decide)
    refine wpList_append_own_at w hg s x t ho B e i _ 1 nb ht hi hz hsz hby hzc (by omega) (.slice a n c) n _ hs h ⟨g, 0, none⟩ m c' (A'.map f) hx (by simp [hl']) ?_ ?_ (by simp only [maxLen]; omega) hbytes hB ?_
    · intro j u hj
      have hjl : j < A'.length := by have := (List.getElem?_eq_some_iff.1 hj).1; simpa using this
      have hd := (h'.cell j (A'[j]) (by omega)).1
      have e1 : A'.getD j A'[j] = A'[j] := by simp [List.getD, hjl]
      rw [e1] at hd
      rw [List.getElem?_map, List.getElem?_eq_getElem hjl] at hj
      simp at hj
      subst hj
      rw [add_lit0, Nat.zero_add]
      exact hd
    · intro u hu
      obtain ⟨y, _, rfl⟩ := List.mem_map.1 hu
      exact hf y
    · intro v' w' h2 h3 _ h5
      have hsh : ∃ a2 c2, v' = .slice a2 (n + m) c2 := by
        rcases h2.2 with ⟨rfl, h0⟩ | ⟨g, cap, cur, rfl, _⟩
        · exact ⟨none, 0, by rw [h0]⟩
        · exact ⟨_, _, rfl⟩
      obtain ⟨a2, c2, rfl⟩ := hsh
      have h2' : OwnG f w' e B a2 (n + m) c2 (A ++ A') := by simpa [OwnG] using h2
      refine hK a2 c2 w' h2' h3 ((Below.refl _ _).grown h3 hB (fun k hk => (World.ownsRow.lt h k hk).1)) ?_
      intro q hq
      subst hq
      rcases h5 with h5 | h5
      · left
        cases a with
        | none => simp [Value.ownBlock] at h5
        | some y0 => simp [Value.ownBlock] at h5; exact ⟨y0, rfl, h5.symm⟩
      · simp [Value.ownBlock] at h5
        exact .inr (by omega)
end
end Go.Proofs.Ytmcckngodaeojaa
