/- Walks of chapter 9: rows of blocks. -/
import Derived.Test.YtbhjphcomppjgaaDoorWo
import Derived.Test.YtbhjphcomppjgaaDoorPn
namespace Go.Proofs.YtbhjphcomppjgaaDoor
open Go.RowKit Beetle09

abbrev iN (n : Nat) : Value := .int .i64 (n : Int)
/-- The cells of blocks. -/
def quadF : List Q4 → List Value
  | [] => []
  | p :: A => iN p.1 :: iN p.2.1 :: iN p.2.2.1 :: iN p.2.2.2 :: quadF A
theorem quadF_len : ∀ A : List Q4, (quadF A).length = A.length * 4
  | [] => rfl
  | p :: A => by simp only [quadF, List.length_cons, quadF_len A]; omega
theorem quadF_snoc : ∀ (A : List Q4) (p : Q4), quadF A ++ [iN p.1, iN p.2.1, iN p.2.2.1, iN p.2.2.2] = quadF (A ++ [p])
  | [], _ => rfl
  | q :: A, p => by simp only [quadF, List.cons_append, quadF_snoc A p]
theorem quadF_get : ∀ (A : List Q4) (i : Nat), i < A.length → (quadF A)[i * 4]? = some (iN (A.getD i (0, 0, 0, 0)).1) ∧ (quadF A)[i * 4 + 1]? = some (iN (A.getD i (0, 0, 0, 0)).2.1) ∧ (quadF A)[i * 4 + 2]? = some (iN (A.getD i (0, 0, 0, 0)).2.2.1) ∧ (quadF A)[i * 4 + 3]? = some (iN (A.getD i (0, 0, 0, 0)).2.2.2)
  | [], i, h => by simp at h
  | p :: A, 0, _ => ⟨rfl, rfl, rfl, rfl⟩
  | p :: A, i + 1, h => by
    have ih := quadF_get A i (by simpa using h)
    rw [show (i + 1) * 4 = i * 4 + 1 + 1 + 1 + 1 by omega]
    exact ih
/-- The slice (a, n, c) of blocks is the call's own. -/
def OwnQ (w : World) (B : Nat) (a : Option Addr) (n c : Nat) (A : List Q4) : Prop := w.ownsRow B 55 4 (.slice a n c) n (quadF A)
variable {w w' : World} {B : Nat} {a : Option Addr} {n c : Nat} {A : List Q4}
theorem OwnQ.nilQ (w : World) (B : Nat) : OwnQ w B none 0 0 [] := World.ownsRow_nil _ _ _ _
theorem OwnQ.len (h : OwnQ w B a n c A) : A.length = n := by
  have := h.1; rw [quadF_len] at this; omega
theorem OwnQ.below (h : OwnQ w B a n c A) (hb : Below w.heap.size w w') : OwnQ w' B a n c A := by
  obtain ⟨h1, h2⟩ := h
  refine ⟨h1, ?_⟩
  rcases h2 with h2 | ⟨g, cap, cur, hv, hg, hh, r⟩
  · exact .inl h2
  · exact .inr ⟨g, cap, cur, hv, hg, by rw [hb.block g (Array.getElem?_eq_some_iff.1 hh).1]; exact hh, r⟩
theorem OwnQ.addr (h : OwnQ w B a n c A) (hn : 0 < n) : ∃ g, a = some ⟨g, 0, none⟩ ∧ B ≤ g ∧ g < w.heap.size := by
  rcases h.2 with ⟨hv, h0⟩ | ⟨g, cap, cur, hv, hg, hh, _⟩
  · omega
  · simp only [Value.slice.injEq] at hv
    exact ⟨g, hv.1, hg, (Array.getElem?_eq_some_iff.1 hh).1⟩
theorem OwnQ.caps (h : OwnQ w B a n c A) : n ≤ c ∧ c ≤ 9223372036854775807 := by
  rcases h.2 with ⟨hv, hn⟩ | ⟨g', cap, cur, hv, hg, hh, hnc, hcm, hcs, ht⟩
  · cases hv; omega
  · simp only [Value.slice.injEq] at hv
    obtain ⟨_, _, rfl⟩ := hv
    exact ⟨hnc, by simpa [maxLen] using hcm⟩
theorem OwnQ.cell {g : Nat} (h : OwnQ w B (some ⟨g, 0, none⟩) n c A) (i : Nat) (hi : i < n) :
    w.cell? ⟨g, i * 4, none⟩ = some (iN (A.getD i (0, 0, 0, 0)).1) ∧ w.cell? ⟨g, i * 4 + 1, none⟩ = some (iN (A.getD i (0, 0, 0, 0)).2.1) ∧ w.cell? ⟨g, i * 4 + 2, none⟩ = some (iN (A.getD i (0, 0, 0, 0)).2.2.1) ∧ w.cell? ⟨g, i * 4 + 3, none⟩ = some (iN (A.getD i (0, 0, 0, 0)).2.2.2) := by
  have hl := h.len
  rcases h.2 with ⟨hv, hn⟩ | ⟨g', cap, cur, hv, hg, hh, hnc, hcm, hcs, ht⟩
  · cases hv
  · simp only [Value.slice.injEq, Option.some.injEq, Addr.mk.injEq] at hv
    obtain ⟨⟨rfl, _⟩, _, rfl⟩ := hv
    have hc : ∀ (k : Nat) (v : Value), (quadF A)[k]? = some v → w.cell? ⟨g, k, none⟩ = some v := fun k v hk => by
      rw [← ht, List.getElem?_take] at hk
      rw [World.cell?]; simp only [hh]
      split at hk
      · simpa using hk
      · cases hk
    obtain ⟨e1, e2, e3, e4⟩ := quadF_get A i (by omega)
    exact ⟨hc _ _ e1, hc _ _ e2, hc _ _ e3, hc _ _ e4⟩
theorem info55 : (Tryd.prog.info? 55).map (fun i => (i.zero, i.size, i.bytes)) = some (some (.agg #[.int .i64 0, .int .i64 0, .int .i64 0, .int .i64 0]), 4, 32) := by kernel_rfl
/-- THE WALK's LAW: append(blocks, x). -/
theorem wl_app_quad {ops : Array Oper} {rest : List Oper} {o : Oper} {ac : Act} {Q : Exit → Act → World → Prop} (B : Nat)
    (s x : Operand) (hg : o.guard = none) (ho : o.op = .call { callee := .builtin .append, args := #[s, x], argTypes := #[28, 28] })
    (hs : ac.eval s = .slice a n c) {g : Nat} (hx : ac.eval x = .slice (some ⟨g, 0, none⟩) 1 1) (h : OwnQ w B a n c A) (p : Q4)
    (h0 : w.cell? ⟨g, 0, none⟩ = some (iN p.1)) (h1 : w.cell? ⟨g, 1, none⟩ = some (iN p.2.1)) (h2 : w.cell? ⟨g, 2, none⟩ = some (iN p.2.2.1)) (h3 : w.cell? ⟨g, 3, none⟩ = some (iN p.2.2.2)) (hB : B ≤ w.heap.size) (hsmall : n + 1 ≤ 1000000)
    (hK : ∀ a2 c2 w', OwnQ w' B a2 (n + 1) c2 (A ++ [p]) → w.grownBy w' (Value.slice a n c).ownBlock → Below B w w' → wpList Tryd.prog ops Q rest (ac.put o.dst (.slice a2 (n + 1) c2)) w') :
    wpList Tryd.prog ops Q (o :: rest) ac w := by
  obtain ⟨i, hi, hz, hsz, hby⟩ := info_parts info55
  refine wpList_append_own w hg s x 28 ho B 55 i _ 4 32 Tryd.underlying28 hi hz hsz hby rfl (by omega) (.slice a n c) n _ hs h ⟨g, 0, none⟩ 1 1 ([iN p.1, iN p.2.1, iN p.2.2.1, iN p.2.2.2] : List Value) hx rfl ?_ (by simp [Value.oneCell']) (by simp only [maxLen]; omega) (by omega) hB ?_
  · intro j u hj
    match j, hj with
    | 0, hj => simp at hj; subst hj; simpa [Addr.add] using h0
    | 1, hj => simp at hj; subst hj; simpa [Addr.add] using h1
    | 2, hj => simp at hj; subst hj; simpa [Addr.add] using h2
    | 3, hj => simp at hj; subst hj; simpa [Addr.add] using h3
  · intro v' w' h4 h5 _
    have hsh : ∃ a2 c2, v' = .slice a2 (n + 1) c2 := by
      rcases h4.2 with ⟨rfl, h0⟩ | ⟨g, cap, cur, rfl, _⟩
      · omega
      · exact ⟨_, _, rfl⟩
    obtain ⟨a2, c2, rfl⟩ := hsh
    rw [quadF_snoc] at h4
    exact hK a2 c2 w' h4 h5 ((Below.refl _ _).grown h5 hB (fun k hk => (World.ownsRow.lt h k hk).1))
end Go.Proofs.YtbhjphcomppjgaaDoor
