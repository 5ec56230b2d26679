/- Maps of the call's own to bools, read as a set; strings as keys; names of lists of small numbers: generic over the program. -/
import Derived.Test.YtjedmiegcbdedaaLib5
namespace Go.Proofs.Ytjedmiegcbdedaa
open Go.RowKit Go.ChangeMaps Go.WideMaps
instance decBA : DecidableEq ByteArray := fun a b => decidable_of_iff (a.data = b.data) ⟨fun h => by cases a; cases b; simp only at h; rw [h], fun h => by rw [h]⟩
/-- Block b is a map to bools, all true; its keys are those of f; it has sz entries. -/
def MapB {P : Program} {k : TypeId} {α : Type} (E : KeyEnc P k α) (e : TypeId) (w : World) (b N sz : Nat) (f : α → Bool) : Prop :=
  ∃ D : DataW Nat, w.ownsMap P k (plainElem P e) b N D ∧ Maps.size D = sz ∧ ∀ a, E.ok a → Maps.has D (E.lit a) = f a ∧ (f a = true → D.atKey (E.lit a) (.lit (.bool false)) = .lit (.bool true))
section
variable {P : Program} {k e t : TypeId} {α : Type} {E : KeyEnc P k α} {w w' : World} {b N sz : Nat} {f : α → Bool}
theorem plainElem_bool_inv {H : Type} (he : P.underlying e = some .bool) {v : Value} {z : DataW H × List MemPlace} (h : plainElem P e v = some z) : ∃ x, v = .bool x ∧ z = (.lit (.bool x), []) := by
  unfold plainElem at h
  rw [he] at h
  cases v <;> simp at h
  exact ⟨_, rfl, h.symm⟩
theorem MapB.made (w : World) : MapB E e (w.alloc (.map #[] 0)) w.heap.size 0 0 (fun _ => false) :=
  ⟨.map [], World.ownsMap_made w P k _, rfl, fun a _ => ⟨rfl, fun hv => by cases hv⟩⟩
theorem MapB.lt (h : MapB E e w b N sz f) : b < w.heap.size := by
  obtain ⟨D, hD, _⟩ := h; exact hD.lt
theorem MapB.mono {N' : Nat} (h : MapB E e w b N sz f) (hN : N ≤ N') : MapB E e w b N' sz f := by
  obtain ⟨D, hD, r⟩ := h; exact ⟨D, hD.mono hN, r⟩
theorem MapB.kept {row : Option Nat} (h : MapB E e w b N sz f) (hg : w.grownBy w' row) (hne : some b ≠ row) : MapB E e w' b N sz f := by
  obtain ⟨D, hD, r⟩ := h; exact ⟨D, hD.kept hg hne, r⟩
theorem MapB.block (h : MapB E e w b N sz f) (hb : w'.heap[b]? = w.heap[b]?) : MapB E e w' b N sz f := by
  obtain ⟨D, ⟨es, clock, hh, F, hs, hD⟩, r⟩ := h
  exact ⟨D, ⟨es, clock, hb.trans hh, F, hs, hD⟩, r⟩
theorem MapB.below (h : MapB E e w b N sz f) (hb : Below w.heap.size w w') : MapB E e w' b N sz f := h.block (hb.block b h.lt)
theorem MapB.alloc (h : MapB E e w b N sz f) (o : Obj) : MapB E e (w.alloc o) b N sz f := h.below ((Below.refl _ _).alloc (Nat.le_refl _) o)
theorem MapB.drew (h : MapB E e w b N sz f) : MapB E e w.drew b N sz f := h.below (Below.refl _ _).drew
theorem MapB.drewN (h : MapB E e w b N sz f) (n : Nat) : MapB E e (w.drewN n) b N sz f := h.below (belowN (Below.refl _ _) n)
theorem MapB.setCell (h : MapB E e w b N sz f) {a : Addr} (ha : b ≠ a.block) (u : Value) : MapB E e (w.setCell a u) b N sz f := by
  obtain ⟨D, hD, r⟩ := h; exact ⟨D, hD.setCell ha u, r⟩
/-- 'm[k]', as it runs. -/
theorem MapB.run (ht : P.underlying t = some (.map k e)) (he : P.underlying e = some .bool) (hz : (zeroValue e).run P w = .ok (.bool false) w) (h : MapB E e w b N sz f) (a : α) (ha : E.ok a) :
    (Instr.lookup t (.map (some b)) (E.enc a) false).run P w = .ok (.bool (f a)) w := by
  obtain ⟨D, hD, _, hr⟩ := h
  obtain ⟨h1, h2⟩ := hr a ha
  obtain ⟨v, ps, hrun, hv⟩ := hD.lookup E.keyed ht hz (plainElem_bool he false) (E.key a ha)
  obtain ⟨c, rfl, hc⟩ := plainElem_bool_inv he hv
  rw [hrun]
  have hat := congrArg Prod.fst hc
  simp only at hat
  have hc : c = f a := by
    cases hf : f a with
    | false =>
      rw [hf] at h1
      rw [Maps.atKey_of_not_has h1] at hat
      simp only [DataW.lit.injEq, Lit.bool.injEq] at hat
      exact hat.symm
    | true =>
      rw [h2 hf] at hat
      simp only [DataW.lit.injEq, Lit.bool.injEq] at hat
      exact hat.symm
  rw [hc]
variable {ops : Array Oper} {rest : List Oper} {o : Oper} {ac : Act} {Q : Exit → Act → World → Prop}
/-- 'm[k]' -/
theorem wl_lookB (hg : o.guard = none) (m x : Operand) (hop : o.op = Op.lookup t m x false) (ht : P.underlying t = some (.map k e)) (he : P.underlying e = some .bool) (hz : (zeroValue e).run P w = .ok (.bool false) w)
    (h : MapB E e w b N sz f) (hm : ac.eval m = .map (some b)) (a : α) (ha : E.ok a) (hx : ac.eval x = E.enc a)
    (hK : wpList P ops Q rest (ac.put o.dst (.bool (f a))) w) : wpList P ops Q (o :: rest) ac w := by
  have hrun := MapB.run ht he hz h a ha
  refine wpList_plain hg fun K' hK' => ?_
  unfold Oper.wp
  simp [execOp, hop, hm, hx, hrun, Result.andThen]
  exact hK' _ _ hK
/-- 'len(m)' -/
theorem wl_maplenB (hg : o.guard = none) (m : Operand) (hop : o.op = .call { callee := .builtin .len, args := #[m], argTypes := #[t] }) (ht : P.underlying t = some (.map k e))
    (h : MapB E e w b N sz f) (hm : ac.eval m = .map (some b)) (hK : wpList P ops Q rest (ac.put o.dst (.int .i64 sz)) w) : wpList P ops Q (o :: rest) ac w := by
  obtain ⟨D, hD, hs, _⟩ := h
  refine wpList_len_own w hg m t hop k e ht _ b N D hm hD ?_
  rw [hs]; exact hK
/-- 'm[k] = true' -/
theorem wl_putB [DecidableEq α] (hg : o.guard = none) (m x v : Operand) (hop : o.op = Op.mapUpdate t m x v) (ht : P.underlying t = some (.map k e)) (he : P.underlying e = some .bool)
    (h : MapB E e w b N sz f) (hN : N < maxLen) (hm : ac.eval m = .map (some b)) (a : α) (ha : E.ok a) (hx : ac.eval x = E.enc a) (hv : ac.eval v = .bool true)
    (hK : ∀ w', MapB E e w' b (N + 1) (if f a = true then sz else sz + 1) (fun y => decide (y = a) || f y) → w.grownBy w' (some b) → wpList P ops Q rest (ac.put o.dst undef) w') : wpList P ops Q (o :: rest) ac w := by
  obtain ⟨D, hD, hs, hr⟩ := h
  refine wpList_mapUpdate_own w hg m x v t hop k e E.keyed ht _ b N D hm hD hN _ _ (E.lit a) hx hv (E.key a ha) _ [] (plainElem_bool he true) fun w' h1 h2 => hK w' ⟨_, h1, ?_, ?_⟩ h2
  · rw [Maps.size_put (hD.tidy E.keyed), (hr a ha).1, hs]
  · intro y hy
    have hlit := E.keyed.key (E.key a ha)
    by_cases hya : y = a
    · subst hya
      refine ⟨by rw [Maps.has_put_same hD.isMap hlit]; simp, fun _ => ?_⟩
      rw [Maps.atKey_put_same hD.isMap hlit]
    · have hne : E.lit y ≠ E.lit a := fun h => hya (E.inj y a hy ha h)
      refine ⟨by rw [Maps.has_put_other hne, (hr y hy).1]; simp [hya], fun hv' => ?_⟩
      rw [Maps.atKey_put_other hne]
      exact (hr y hy).2 (by simpa [hya] using hv')
/-- 'm[k] = true', of a key that was not there -/
theorem wl_putB_new [DecidableEq α] (hg : o.guard = none) (m x v : Operand) (hop : o.op = Op.mapUpdate t m x v) (ht : P.underlying t = some (.map k e)) (he : P.underlying e = some .bool)
    (h : MapB E e w b N sz f) (hN : N < maxLen) (hm : ac.eval m = .map (some b)) (a : α) (ha : E.ok a) (hnew : f a = false) (hx : ac.eval x = E.enc a) (hv : ac.eval v = .bool true)
    (hK : ∀ w', MapB E e w' b (N + 1) (sz + 1) (fun y => decide (y = a) || f y) → w.grownBy w' (some b) → wpList P ops Q rest (ac.put o.dst undef) w') : wpList P ops Q (o :: rest) ac w :=
  wl_putB hg m x v hop ht he h hN hm a ha hx hv fun w' h1 h2 => hK w' (by rw [hnew] at h1; simpa using h1) h2
end
/-- Keys that are strings. -/
noncomputable def encStr {P : Program} {k : TypeId} (hk : P.underlying k = some .string) : KeyEnc P k ByteArray where
  enc := fun s => .string s
  lit := fun s => .string s.data.toList
  ok := fun s => s.size ≤ maxLen
  keyed := Maps.string_keyed hk
  key := fun _ h => keyOf_string_mk hk h
  inj := fun a b _ _ h => by
    simp only [Lit.string.injEq] at h
    have : a.data = b.data := by rw [← Array.toArray_toList (xs := a.data), h, Array.toArray_toList]
    cases a; cases b; simp only at this; rw [this]
/-- The name of a list of small numbers: a letter each. -/
def nameB (l : List Int) : ByteArray := l.foldl (fun s x => s ++ Utf8.encode (97 + x)) ByteArray.empty
theorem nameB_snoc (l : List Int) (x : Int) : nameB (l ++ [x]) = nameB l ++ Utf8.encode (97 + x) := by unfold nameB; rw [List.foldl_append]; rfl
theorem enc_small {x : Int} (h0 : 0 ≤ x) (h1 : x ≤ 25) : Utf8.encode (97 + x) = ⟨#[UInt8.ofNat (97 + x).toNat]⟩ := by
  obtain ⟨n, rfl⟩ : ∃ n : Nat, x = (n : Int) := ⟨x.toNat, by omega⟩
  have hn : n < 26 := by omega
  clear h0 h1
  revert n
  decide +kernel
theorem nameB_from : ∀ (l : List Int) (s : ByteArray), (∀ x ∈ l, 0 ≤ x ∧ x ≤ 25) → (l.foldl (fun s x => s ++ Utf8.encode (97 + x)) s).data.toList = s.data.toList ++ l.map fun x => UInt8.ofNat (97 + x).toNat
  | [], s, _ => by simp
  | x :: l, s, h => by
    rw [List.foldl_cons, nameB_from l _ (fun y hy => h y (by simp [hy])), ByteArray.data_append, Array.toList_append, enc_small (h x (by simp)).1 (h x (by simp)).2]
    simp
theorem nameB_list (l : List Int) (h : ∀ x ∈ l, 0 ≤ x ∧ x ≤ 25) : (nameB l).data.toList = l.map fun x => UInt8.ofNat (97 + x).toNat := by
  unfold nameB
  rw [nameB_from l _ h]; rfl
theorem nameB_inj {a b : List Int} (ha : ∀ x ∈ a, 0 ≤ x ∧ x ≤ 25) (hb : ∀ x ∈ b, 0 ≤ x ∧ x ≤ 25) (h : nameB a = nameB b) : a = b := by
  have h2 : (a.map fun x => UInt8.ofNat (97 + x).toNat) = b.map fun x => UInt8.ofNat (97 + x).toNat := by rw [← nameB_list a ha, ← nameB_list b hb, h]
  clear h
  induction a generalizing b with
  | nil => cases b with
    | nil => rfl
    | cons y b => simp at h2
  | cons x a ih =>
    cases b with
    | nil => simp at h2
    | cons y b =>
      simp only [List.map_cons, List.cons.injEq] at h2
      have hx := ha x (by simp)
      have hy := hb y (by simp)
      have e := congrArg UInt8.toNat h2.1
      rw [UInt8.toNat_ofNat', UInt8.toNat_ofNat'] at e
      rw [ih (fun z hz => ha z (by simp [hz])) (fun z hz => hb z (by simp [hz])) h2.2, show x = y by omega]
theorem nameB_size (l : List Int) (h : ∀ x ∈ l, 0 ≤ x ∧ x ≤ 25) : (nameB l).size = l.length := by
  have := congrArg List.length (nameB_list l h)
  rw [List.length_map] at this
  rw [← this]; rfl
end Go.Proofs.Ytjedmiegcbdedaa
