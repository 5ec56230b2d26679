/- append to a row of the call's own, at a step of a region that draws: generic over the program. -/
import Derived.Test.YtpfaoagddgcmbaaDoorLib
import Derived.Deep.RegionHeld3
import Derived.Deep.RegionLaw
import Derived.ProofKit
import Derived.OpenShut
import Derived.ShutString
namespace Go.Proofs.YtpfaoagddgcmbaaDoor
open Go.RowKit
section
variable {P : Program} {t e : TypeId} (ht : P.underlying t = some (.slice e))
  (he : (P.info? e).map (fun i => (i.zero, i.size, i.bytes)) = some (some (.int .i64 0), 1, 8))
include ht he
theorem step_app_own (B : Nat) {w : World} {ops : Array Oper} {o : Oper} {ac : Act} {K : Act → World → Prop} {Q : Exit → Act → World → Prop} {E : Prop} {a a' : Option Addr} {n c m c' : Nat} {l l' : List Int}
    (s x : Operand) (hg : o.guard = none) (ho : o.op = .call { callee := .builtin .append, args := #[s, x], argTypes := #[t, t] })
    (hs : ac.eval s = .slice a n c) (hx : ac.eval x = .slice a' m c') (h : OwnL w e B a n c l) (h' : IsL w a' m c' l') (hB : B ≤ w.heap.size) (hsmall : n + m ≤ 17592186044416)
    (hK : ∀ a2 c2 w', OwnL w' e B a2 (n + m) c2 (l ++ l') → w.grownBy w' (Value.slice a n c).ownBlock → Below B w w' → Via w a a2 → K (ac.put o.dst (.slice a2 (n + m) c2)) w') :
    if Region.wanted o (yielded ops ac.tmps) = true then Oper.wp P o ac w K Q else E := by
  have hw : Region.wanted o (yielded ops ac.tmps) = true := by simp [Region.wanted, hg]
  rw [if_pos hw]
  obtain ⟨a2, c2, w', hr, h2, h3, h4⟩ := run_app_own ht he w B o.type a a' n c m c' l l' h h' hB hsmall
  unfold Oper.wp
  simp [execOp, ho, resolve, invoke, builtin, hs, hx, hr, Result.andThen]
  exact hK a2 c2 w' h2 h3 ((Below.refl _ _).grown h3 hB (fun k hk => (World.ownsRow.lt h k hk).1)) h4
theorem step_app_full {w : World} {ops : Array Oper} {o : Oper} {ac : Act} {K : Act → World → Prop} {Q : Exit → Act → World → Prop} {E : Prop} {a a' : Option Addr} {n m c' : Nat} {l l' : List Int}
    (s x : Operand) (hg : o.guard = none) (ho : o.op = .call { callee := .builtin .append, args := #[s, x], argTypes := #[t, t] })
    (hs : ac.eval s = .slice a n n) (hx : ac.eval x = .slice a' m c') (h : IsL w a n n l) (h' : IsL w a' m c' l') (hsmall : n + m ≤ 17592186044416)
    (hK : ∀ a2 c2 w', IsL w' a2 (n + m) c2 (l ++ l') → Below w.heap.size w w' → Via w a a2 → K (ac.put o.dst (.slice a2 (n + m) c2)) w') :
    if Region.wanted o (yielded ops ac.tmps) = true then Oper.wp P o ac w K Q else E := by
  have hw : Region.wanted o (yielded ops ac.tmps) = true := by simp [Region.wanted, hg]
  rw [if_pos hw]
  obtain ⟨a2, c2, w', hr, h2, h3, h4⟩ := run_app_full ht he w o.type a a' n m c' l l' h h' hsmall
  unfold Oper.wp
  simp [execOp, ho, resolve, invoke, builtin, hs, hx, hr, Result.andThen]
  exact hK a2 c2 w' h2 h3 h4
end
end Go.Proofs.YtpfaoagddgcmbaaDoor
namespace Go.Proofs.YtpfaoagddgcmbaaDoor
open Go.RowKit

def pairF (A : List (Int × Int)) : List Value := A.flatMap fun p => [.int .i64 p.1, .int .i64 p.2]
theorem pairF_len (A : List (Int × Int)) : (pairF A).length = A.length * 2 := by
  induction A with
  | nil => rfl
  | cons p A ih => simp only [pairF, List.flatMap_cons, List.length_append, List.length_cons] at *; rw [ih]; simp; omega
theorem pairF_fst : ∀ (A : List (Int × Int)) (i : Nat), i < A.length → (pairF A)[i * 2]? = some (.int .i64 (A.getD i (0, 0)).1) ∧ (pairF A)[i * 2 + 1]? = some (.int .i64 (A.getD i (0, 0)).2)
  | p :: A, 0, _ => by simp [pairF]
  | p :: A, i + 1, h => by
    have ih := pairF_fst A i (by simpa using h)
    have e1 : (i + 1) * 2 = i * 2 + 1 + 1 := by omega
    rw [e1]
    simpa [pairF] using ih
theorem pairF_snoc (A : List (Int × Int)) (x y : Int) : pairF A ++ [.int .i64 x, .int .i64 y] = pairF (A ++ [(x, y)]) := by simp [pairF]
theorem pairF_cell (A : List (Int × Int)) : ∀ u ∈ pairF A, u.oneCell' = true := by
  intro u hu
  simp only [pairF, List.mem_flatMap] at hu
  obtain ⟨p, _, hp⟩ := hu
  simp at hp
  rcases hp with rfl | rfl <;> rfl

/-- The slice (a, n, c) of pairs is the call's own (blocks from B on). -/
def OwnP (w : World) (e B : Nat) (a : Option Addr) (n c : Nat) (A : List (Int × Int)) : Prop :=
  w.ownsRow B e 2 (.slice a n c) n (pairF A)
variable {w w' : World} {e B : Nat} {a : Option Addr} {n c : Nat} {A : List (Int × Int)}
theorem OwnP.nilP (w : World) (e B : Nat) : OwnP w e B none 0 0 [] := World.ownsRow_nil _ _ _ _
theorem OwnP.len (h : OwnP w e B a n c A) : A.length = n := by
  have := h.1; rw [pairF_len] at this; omega
theorem OwnP.below (h : OwnP w e B a n c A) (hb : Below w.heap.size w w') : OwnP w' e B a n c A := by
  obtain ⟨h1, h2⟩ := h
  refine ⟨h1, ?_⟩
  rcases h2 with h2 | ⟨g, cap, cur, hv, hg, hh, r⟩
  · exact .inl h2
  · exact .inr ⟨g, cap, cur, hv, hg, by rw [hb.block g (Array.getElem?_eq_some_iff.1 hh).1]; exact hh, r⟩
theorem OwnP.alloc (h : OwnP w e B a n c A) (o : Obj) : OwnP (w.alloc o) e B a n c A := h.below ((Below.refl _ _).alloc (Nat.le_refl _) o)
theorem OwnP.drew (h : OwnP w e B a n c A) : OwnP w.drew e B a n c A := h.below (Below.refl _ _).drew
theorem OwnP.addr (h : OwnP w e B a n c A) (hn : 0 < n) : ∃ g, a = some ⟨g, 0, none⟩ ∧ B ≤ g ∧ g < w.heap.size := by
  rcases h.2 with ⟨hv, h0⟩ | ⟨g, cap, cur, hv, hg, hh, _⟩
  · omega
  · simp only [Value.slice.injEq] at hv
    exact ⟨g, hv.1, hg, (Array.getElem?_eq_some_iff.1 hh).1⟩
theorem OwnP.caps (h : OwnP w e B a n c A) : n ≤ c ∧ c ≤ 9223372036854775807 := by
  rcases h.2 with ⟨hv, hn⟩ | ⟨g', cap, cur, hv, hg, hh, hnc, hcm, hcs, ht⟩
  · cases hv; omega
  · simp only [Value.slice.injEq] at hv
    obtain ⟨_, _, rfl⟩ := hv
    exact ⟨hnc, by simpa [maxLen] using hcm⟩
theorem OwnP.cell {g : Nat} (h : OwnP w e B (some ⟨g, 0, none⟩) n c A) (i : Nat) (hi : i < n) :
    w.cell? ⟨g, i * 2, none⟩ = some (.int .i64 (A.getD i (0, 0)).1) ∧ w.cell? ⟨g, i * 2 + 1, none⟩ = some (.int .i64 (A.getD i (0, 0)).2) := by
  have hl := h.len
  rcases h.2 with ⟨hv, hn⟩ | ⟨g', cap, cur, hv, hg, hh, hnc, hcm, hcs, ht⟩
  · cases hv
  · simp only [Value.slice.injEq, Option.some.injEq, Addr.mk.injEq] at hv
    obtain ⟨⟨rfl, _⟩, _, rfl⟩ := hv
    obtain ⟨e1, e2⟩ := pairF_fst A i (by omega)
    rw [← ht] at e1 e2
    rw [List.getElem?_take] at e1 e2
    constructor
    · rw [World.cell?]; simp only [hh]
      split at e1
      · simpa using e1
      · cases e1
    · rw [World.cell?]; simp only [hh]
      split at e2
      · simpa using e2
      · cases e2
section
variable {P : Program} {t : TypeId} (ht : P.underlying t = some (.slice e))
  (he : (P.info? e).map (fun i => (i.zero, i.size, i.bytes)) = some (some (.agg #[.int .i64 0, .int .i64 0]), 2, 16))
include ht he
/-- THE WALK's LAW: append(pairs, [2]int{x, y}). -/
theorem wl_app_pair {ops : Array Oper} {rest : List Oper} {o : Oper} {ac : Act} {Q : Exit → Act → World → Prop} (B : Nat)
    (s x : Operand) (hg : o.guard = none) (ho : o.op = .call { callee := .builtin .append, args := #[s, x], argTypes := #[t, t] })
    (hs : ac.eval s = .slice a n c) {g : Nat} (hx : ac.eval x = .slice (some ⟨g, 0, none⟩) 1 1) (h : OwnP w e B a n c A) (y z : Int)
    (h0 : w.cell? ⟨g, 0, none⟩ = some (.int .i64 y)) (h1 : w.cell? ⟨g, 1, none⟩ = some (.int .i64 z)) (hB : B ≤ w.heap.size) (hsmall : n + 1 ≤ 1000000)
    (hK : ∀ a2 c2 w', OwnP w' e B a2 (n + 1) c2 (A ++ [(y, z)]) → w.grownBy w' (Value.slice a n c).ownBlock → Below B w w' → wpList P ops Q rest (ac.put o.dst (.slice a2 (n + 1) c2)) w') :
    wpList P ops Q (o :: rest) ac w := by
  obtain ⟨i, hi, hz, hsz, hby⟩ := info_parts he
  refine wpList_append_own w hg s x t ho B e i _ 2 16 ht hi hz hsz hby rfl (by omega) (.slice a n c) n _ hs h ⟨g, 0, none⟩ 1 1 ([Value.int .i64 y, Value.int .i64 z] : List Value) hx rfl ?_ (by simp [Value.oneCell']) (by simp only [maxLen]; omega) (by omega) hB ?_
  · intro j u hj
    match j, hj with
    | 0, hj => simp at hj; subst hj; simpa [Addr.add] using h0
    | 1, hj => simp at hj; subst hj; simpa [Addr.add] using h1
  · intro v' w' h2 h3 _
    have hsh : ∃ a2 c2, v' = .slice a2 (n + 1) c2 := by
      rcases h2.2 with ⟨rfl, h0⟩ | ⟨g, cap, cur, rfl, _⟩
      · omega
      · exact ⟨_, _, rfl⟩
    obtain ⟨a2, c2, rfl⟩ := hsh
    rw [pairF_snoc] at h2
    exact hK a2 c2 w' h2 h3 ((Below.refl _ _).grown h3 hB (fun k hk => (World.ownsRow.lt h k hk).1))
end
end Go.Proofs.YtpfaoagddgcmbaaDoor
namespace Go.Proofs.YtpfaoagddgcmbaaDoor
open Go.RowKit
section
variable {P : Program} {t e : TypeId} {α : Type} {f : α → Value} {z : Value} {nb : Nat} (ht : P.underlying t = some (.slice e))
  (he : (P.info? e).map (fun i => (i.zero, i.size, i.bytes)) = some (some z, 1, nb)) (hzc : z.cells.size = 1) (hnb : nb ≤ 1000) (hf : ∀ x, (f x).oneCell' = true)
include ht he hzc hnb hf
/-- THE WALK's LAW: append(row, x). -/
theorem wl_app_gen {w : World} {a : Option Addr} {n c : Nat} {A : List α} {ops : Array Oper} {rest : List Oper} {o : Oper} {ac : Act} {Q : Exit → Act → World → Prop} (B : Nat)
    (s x : Operand) (hg : o.guard = none) (ho : o.op = .call { callee := .builtin .append, args := #[s, x], argTypes := #[t, t] })
    (hs : ac.eval s = .slice a n c) {g : Nat} (hx : ac.eval x = .slice (some ⟨g, 0, none⟩) 1 1) (h : OwnG f w e B a n c A) (y : α)
    (h0 : w.cell? ⟨g, 0, none⟩ = some (f y)) (hB : B ≤ w.heap.size) (hsmall : n + 1 ≤ 1000000)
    (hK : ∀ a2 c2 w', OwnG f w' e B a2 (n + 1) c2 (A ++ [y]) → w.grownBy w' (Value.slice a n c).ownBlock → Below B w w' → Via w a a2 → wpList P ops Q rest (ac.put o.dst (.slice a2 (n + 1) c2)) w') :
    wpList P ops Q (o :: rest) ac w := by
  obtain ⟨i, hi, hz, hsz, hby⟩ := info_parts he
  have hbytes : (n + 1) * nb ≤ 140737488355328 := Nat.le_trans (Nat.mul_le_mul hsmall hnb) (by decide)
  refine wpList_append_own_at w hg s x t ho B e i _ 1 nb ht hi hz hsz hby hzc (by omega) (.slice a n c) n _ hs h ⟨g, 0, none⟩ 1 1 ([f y] : List Value) hx rfl ?_ (by simpa using hf y) (by simp only [maxLen]; omega) hbytes hB ?_
  · intro j u hj
    match j, hj with
    | 0, hj => simp at hj; subst hj; simpa [Addr.add] using h0
  · intro v' w' h2 h3 _ h5
    have hsh : ∃ a2 c2, v' = .slice a2 (n + 1) c2 := by
      rcases h2.2 with ⟨rfl, h0⟩ | ⟨g, cap, cur, rfl, _⟩
      · omega
      · exact ⟨_, _, rfl⟩
    obtain ⟨a2, c2, rfl⟩ := hsh
    have h2' : OwnG f w' e B a2 (n + 1) c2 (A ++ [y]) := by simpa [OwnG] using h2
    refine hK a2 c2 w' h2' h3 ((Below.refl _ _).grown h3 hB (fun k hk => (World.ownsRow.lt h k hk).1)) ?_
    intro q hq
    subst hq
    rcases h5 with h5 | h5
    · left
      cases a with
      | none => simp [Value.ownBlock] at h5
      | some y0 => simp [Value.ownBlock] at h5; exact ⟨y0, rfl, h5.symm⟩
    · simp [Value.ownBlock] at h5
      exact .inr (by omega)
end
end Go.Proofs.YtpfaoagddgcmbaaDoor
namespace Go.Proofs.YtpfaoagddgcmbaaDoor
open Go.RowKit Go.ChangeShapes Go.WideShapes
/-- The type holds integers of these kinds, one a cell. -/
def FlatTy (P : Program) (t : TypeId) (ks : List IntKind) : Prop :=
  P.cellsOf t = ks.length ∧ ∀ (H : Type) (enc : TypeId × Value → H) (W : World) (base : Nat) (sp : Nat → Bool) (held : Bool) (fuel : Nat) (cs : List Value) (x : DataW H × List MemPlace), DataW.trod enc P W base sp held fuel t cs = some x →
    (∃ zs : List Int, zs.length = ks.length ∧ cs = List.zipWith Value.int ks zs ∧ ∀ i, i < ks.length → (Lit.int (ks.getD i .i64) (zs.getD i 0)).wf = true) ∧ x.2 = [] ∧
    ∀ (W' : World) (base' : Nat) (sp' : Nat → Bool) (held' : Bool), DataW.trod enc P W' base' sp' held' fuel t cs = some x
variable {P : Program}
theorem flat_int {t : TypeId} {k : IntKind} (ht : P.underlying t = some (.int k)) (hc : P.cellsOf t = 1) : FlatTy P t [k] := by
  refine ⟨hc, fun H enc W base sp held fuel cs x h => ?_⟩
  obtain ⟨n, rfl, rfl, hw⟩ := DataW.trod_int ht h
  refine ⟨⟨[n], rfl, rfl, fun i hi => ?_⟩, rfl, fun W' base' sp' held' => ?_⟩
  · obtain rfl : i = 0 := by simp at hi; omega
    simpa using hw
  · cases fuel with
    | zero => simp [DataW.trod] at h
    | succ m => simp [DataW.trod, ht, hw]
/-- Fields that lie one behind the other. -/
def FlatCh (P : Program) : List (TypeId × Nat) → List (List IntKind) → Nat → Prop
  | [], [], _ => True
  | p :: L, ks :: kss, o => p.2 = o ∧ FlatTy P p.1 ks ∧ FlatCh P L kss (o + ks.length)
  | _, _, _ => False
theorem flat_ch {H : Type} (enc : TypeId × Value → H) (W : World) (base : Nat) (sp : Nat → Bool) (held : Bool) (fuel : Nat) : ∀ (L : List (TypeId × Nat)) (kss : List (List IntKind)) (o : Nat), FlatCh P L kss o → ∀ (cs : List Value) (xs : List (DataW H × List MemPlace)), cs.length = o + kss.flatten.length →
    L.mapM (fun p => DataW.trod enc P W base sp held fuel p.1 ((cs.drop p.2).take (P.cellsOf p.1))) = some xs →
    (∃ zs : List Int, zs.length = kss.flatten.length ∧ cs.drop o = List.zipWith Value.int kss.flatten zs ∧ ∀ i, i < kss.flatten.length → (Lit.int (kss.flatten.getD i .i64) (zs.getD i 0)).wf = true) ∧ xs.flatMap (·.2) = [] ∧
    ∀ (W' : World) (base' : Nat) (sp' : Nat → Bool) (held' : Bool), L.mapM (fun p => DataW.trod enc P W' base' sp' held' fuel p.1 ((cs.drop p.2).take (P.cellsOf p.1))) = some xs
  | [], [], o, _, cs, xs, hl, h => by
    simp at h hl
    subst h
    exact ⟨⟨[], rfl, by simp [List.drop_eq_nil_iff]; omega, fun i hi => by simp at hi⟩, rfl, fun _ _ _ _ => by simp⟩
  | p :: L, ks :: kss, o, hC, cs, xs, hl, h => by
    obtain ⟨h1, h2, h3⟩ := hC
    rw [List.mapM_cons] at h
    simp only [bind, Option.bind_eq_some_iff, pure, Option.some.injEq] at h
    obtain ⟨y, hy, ys, hys, rfl⟩ := h
    simp only [List.flatten_cons, List.length_append] at hl
    obtain ⟨⟨zs, hz, hcs, hw⟩, hps, hs⟩ := flat_ch enc W base sp held fuel L kss (o + ks.length) h3 cs ys (by omega) hys
    obtain ⟨⟨zs0, hz0, hcs0, hw0⟩, hps0, hs0⟩ := h2.2 H enc W base sp held fuel _ y hy
    rw [h1, h2.1] at hcs0
    refine ⟨⟨zs0 ++ zs, by simp [hz, hz0], ?_, fun i hi => ?_⟩, by simp [hps0, hps], fun W' base' sp' held' => ?_⟩
    · rw [List.flatten_cons, List.zipWith_append hz0.symm, ← hcs0, ← hcs, ← List.drop_drop, List.take_append_drop]
    · simp only [List.flatten_cons, List.length_append] at hi ⊢
      by_cases hik : i < ks.length
      · have := hw0 i hik
        simpa [List.getD, List.getElem?_append_left hik, List.getElem?_append_left (hz0 ▸ hik)] using this
      · have := hw (i - ks.length) (by omega)
        rw [List.getD, List.getD, List.getElem?_append_right (by omega), List.getElem?_append_right (by omega), hz0]
        simpa [List.getD] using this
    · rw [List.mapM_cons]
      simp only [bind, Option.bind_eq_some_iff, pure]
      exact ⟨y, hs0 W' base' sp' held', ys, hs W' base' sp' held', rfl⟩
theorem flat_struct {t : TypeId} {fs : Array Field} {kss : List (List IntKind)} (ht : P.underlying t = some (.struct fs)) (hc : P.cellsOf t = kss.flatten.length) (h : FlatCh P (fs.toList.map fun f => (f.type, f.offset)) kss 0) : FlatTy P t kss.flatten := by
  refine ⟨hc, fun H enc W base sp held fuel cs x hx => ?_⟩
  cases fuel with
  | zero => simp [DataW.trod] at hx
  | succ m =>
    have hform : ∀ (W : World) (base : Nat) (sp : Nat → Bool) (held : Bool), DataW.trod enc P W base sp held (m + 1) t cs = if cs.length = P.cellsOf t then ((fs.toList.map fun f => (f.type, f.offset)).mapM fun p => DataW.trod enc P W base sp held m p.1 ((cs.drop p.2).take (P.cellsOf p.1))).map fun xs => (.agg (xs.map (·.1)), xs.flatMap (·.2)) else none := by
      intro W base sp held
      rw [DataW.trod_step]
      unfold DataW.trodStep
      simp only [ht, List.mapM_map]
      rfl
    rw [hform] at hx
    split at hx
    · rename_i hlen
      simp only [Option.map_eq_some_iff] at hx
      obtain ⟨xs, hxs, rfl⟩ := hx
      obtain ⟨⟨zs, hz, hcs, hw⟩, hps, hs⟩ := flat_ch enc W base sp held m _ kss 0 h cs xs (by omega) hxs
      refine ⟨⟨zs, hz, by simpa using hcs, hw⟩, hps, fun W' base' sp' held' => ?_⟩
      rw [hform, if_pos hlen, hs W' base' sp' held']
      rfl
    · cases hx
theorem flat_array {t e n : Nat} {kss : List (List IntKind)} (ht : P.underlying t = some (.array n e)) (hc : P.cellsOf t = kss.flatten.length) (h : FlatCh P ((List.range n).map fun i => (e, i * P.cellsOf e)) kss 0) : FlatTy P t kss.flatten := by
  refine ⟨hc, fun H enc W base sp held fuel cs x hx => ?_⟩
  cases fuel with
  | zero => simp [DataW.trod] at hx
  | succ m =>
    have hform : ∀ (W : World) (base : Nat) (sp : Nat → Bool) (held : Bool), DataW.trod enc P W base sp held (m + 1) t cs = if cs.length = P.cellsOf t then (((List.range n).map fun i => (e, i * P.cellsOf e)).mapM fun p => DataW.trod enc P W base sp held m p.1 ((cs.drop p.2).take (P.cellsOf p.1))).map fun xs => (.agg (xs.map (·.1)), xs.flatMap (·.2)) else none := by
      intro W base sp held
      rw [DataW.trod_step]
      unfold DataW.trodStep
      simp only [ht, List.mapM_map]
      rfl
    rw [hform] at hx
    split at hx
    · rename_i hlen
      simp only [Option.map_eq_some_iff] at hx
      obtain ⟨xs, hxs, rfl⟩ := hx
      obtain ⟨⟨zs, hz, hcs, hw⟩, hps, hs⟩ := flat_ch enc W base sp held m _ kss 0 h cs xs (by omega) hxs
      refine ⟨⟨zs, hz, by simpa using hcs, hw⟩, hps, fun W' base' sp' held' => ?_⟩
      rw [hform, if_pos hlen, hs W' base' sp' held']
      rfl
    · cases hx
/-- An argument of such a type. -/
theorem open_flat {H : Type} {enc : TypeId × Value → H} {W : World} {base : Nat} {sp : Nat → Bool} {held : Bool} {t : TypeId} {ks : List IntKind} (hF : FlatTy P t ks) (hu : (∃ fs, P.underlying t = some (.struct fs)) ∨ ∃ n e, P.underlying t = some (.array n e))
    {r : Reach} {b0 : Nat} {v : Value} {d : DataW H} {ps : List MemPlace} (hval : Value.okWide P W r b0 t v) (hd : DataW.Trod enc P W base sp held t v d ps) :
    ∃ zs : List Int, zs.length = ks.length ∧ v = .agg (List.zipWith Value.int ks zs).toArray ∧ (∀ i, i < ks.length → (Lit.int (ks.getD i .i64) (zs.getD i 0)).wf = true) ∧ ps = [] ∧
      ∀ (W' : World) (base' : Nat) (sp' : Nat → Bool) (held' : Bool), DataW.Trod enc P W' base' sp' held' t v d [] := by
  have hv : ∃ cs, v = .agg cs := by
    unfold Value.okWide at hval
    rcases hu with ⟨fs, hu⟩ | ⟨n, e, hu⟩
    · simp only [hu] at hval; obtain ⟨cs, h, _⟩ := hval; exact ⟨cs, h⟩
    · simp only [hu] at hval; obtain ⟨cs, h, _⟩ := hval; exact ⟨cs, h⟩
  obtain ⟨cs, rfl⟩ := hv
  obtain ⟨fuel, hf⟩ := hd
  obtain ⟨⟨zs, hz, hcs, hw⟩, hps, hs⟩ := hF.2 H enc W base sp held fuel _ _ hf
  simp only [Value.cells] at hcs hf hs
  simp only [] at hps
  subst hps
  refine ⟨zs, hz, by rw [← hcs], hw, rfl, fun W' base' sp' held' => ⟨fuel, hs W' base' sp' held'⟩⟩
end Go.Proofs.YtpfaoagddgcmbaaDoor
