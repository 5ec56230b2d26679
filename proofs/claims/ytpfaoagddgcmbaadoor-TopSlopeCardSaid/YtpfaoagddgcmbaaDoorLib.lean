/- Lemmas on slices of numbers that are read, and that the call itself owns: generic over the program. -/
import Derived.WalkKit
import Derived.WalkSpells
import Derived.Outline
import Derived.Handy
import Derived.Lib.Hide
import Derived.Laws.AppendOwnNone
import Derived.ArgAppend
import Derived.StillTailTactics
import Derived.Deep.QuietTactic
import Derived.BigQuiet
import Derived.Laws.IdiomCopy
import Derived.Lib.EndianMore
import Derived.OwnWalk
namespace Go.Proofs.YtpfaoagddgcmbaaDoor
open Go.RowKit

/-- The length of a slice, for a loop's measure. -/
def lenOf : Value → Nat | .slice _ n _ => n | _ => 0

theorem ret_i {k : IntKind} {a b : Int} (h : a = b) : Ending.returned (.int k a) = .returned (.int k b) := by rw [h]
theorem ret_b {a b : Bool} (h : a = b) : Ending.returned (.bool a) = .returned (.bool b) := by rw [h]
theorem ret_i2 {k : IntKind} {a b : Int} {v : Value} (h : a = b) : Ending.returned (.tuple #[.int k a, v]) = .returned (.tuple #[.int k b, v]) := by rw [h]
theorem ret_ii {k k' : IntKind} {a b a' b' : Int} (h : a = b) (h' : a' = b') : Ending.returned (.tuple #[.int k a, .int k' a']) = .returned (.tuple #[.int k b, .int k' b']) := by rw [h, h']
theorem ret_b2 {a b : Bool} {v : Value} (h : a = b) : Ending.returned (.tuple #[.bool a, v]) = .returned (.tuple #[.bool b, v]) := by rw [h]

/-- The slice (a, n, c) reads as the list l of ints. -/
structure IsL (w : World) (a : Option Addr) (n c : Nat) (l : List Int) : Prop where
  len : l.length = n
  le : n ≤ c
  cap : c ≤ 9223372036854775807
  nil : a = none → c = 0
  cells : 0 < n → ∃ b o, a = some ⟨b, o, none⟩ ∧ b < w.heap.size ∧ ∀ i, i < n → w.cell? ⟨b, o + i, none⟩ = some (.int .i64 (l.getD i 0))

/-- The slice (a, n, c) is the call's own (blocks from B on), and holds the list l. -/
def OwnL (w : World) (e B : Nat) (a : Option Addr) (n c : Nat) (l : List Int) : Prop :=
  w.ownsRow B e 1 (.slice a n c) n (l.map (Value.int .i64))

theorem IsL.nilL (w : World) : IsL w none 0 0 [] := ⟨rfl, Nat.le_refl _, by omega, fun _ => rfl, fun h => by omega⟩
theorem OwnL.nilL (w : World) (e B : Nat) : OwnL w e B none 0 0 [] := World.ownsRow_nil _ _ _ _

theorem OwnL.len {w : World} {e B : Nat} {a : Option Addr} {n c : Nat} {l : List Int} (h : OwnL w e B a n c l) : l.length = n := by
  have := h.1; simpa using this

theorem OwnL.isL {w : World} {e B : Nat} {a : Option Addr} {n c : Nat} {l : List Int} (h : OwnL w e B a n c l) : IsL w a n c l := by
  have hl := h.len
  obtain ⟨h1, h2⟩ := h
  rcases h2 with ⟨hv, hn⟩ | ⟨g, cap, cur, hv, hg, hh, hnc, hcm, hcs, ht⟩
  · simp only [Value.slice.injEq] at hv
    obtain ⟨rfl, rfl, rfl⟩ := hv
    exact ⟨hl, Nat.le_refl _, by omega, fun _ => rfl, fun h => by omega⟩
  · simp only [Value.slice.injEq] at hv
    obtain ⟨rfl, _, rfl⟩ := hv
    refine ⟨hl, hnc, by simpa [maxLen] using hcm, (fun h => by cases h), fun hpos => ⟨g, 0, rfl, (Array.getElem?_eq_some_iff.1 hh).1, fun i hi => ?_⟩⟩
    rw [World.cell?]
    simp only [hh]
    have hi2 : i < l.length := by omega
    have e1 : (l.map (Value.int IntKind.i64))[i]? = some (.int .i64 (l.getD i 0)) := by
      simp [List.getD, hi2]
    rw [← ht] at e1
    rw [List.getElem?_take] at e1
    split at e1
    · simpa using e1
    · cases e1

theorem IsL.below {w w' : World} {a : Option Addr} {n c : Nat} {l : List Int} (h : IsL w a n c l) (hb : Below w.heap.size w w') : IsL w' a n c l := by
  refine ⟨h.len, h.le, h.cap, h.nil, fun hp => ?_⟩
  obtain ⟨b, o, ha, hbl, hc⟩ := h.cells hp
  exact ⟨b, o, ha, Nat.lt_of_lt_of_le hbl hb.size, fun i hi => by rw [hb.cell (p := ⟨b, o + i, none⟩) hbl]; exact hc i hi⟩

theorem OwnL.below {w w' : World} {e B : Nat} {a : Option Addr} {n c : Nat} {l : List Int} (h : OwnL w e B a n c l) (hb : Below w.heap.size w w') : OwnL w' e B a n c l := by
  obtain ⟨h1, h2⟩ := h
  refine ⟨h1, ?_⟩
  rcases h2 with h2 | ⟨g, cap, cur, hv, hg, hh, r⟩
  · exact .inl h2
  · exact .inr ⟨g, cap, cur, hv, hg, by rw [hb.block g (Array.getElem?_eq_some_iff.1 hh).1]; exact hh, r⟩

theorem OwnL.weaken {w : World} {e B B' : Nat} {a : Option Addr} {n c : Nat} {l : List Int} (h : OwnL w e B a n c l) (hB : B' ≤ B) : OwnL w e B' a n c l := by
  obtain ⟨h1, h2⟩ := h
  refine ⟨h1, ?_⟩
  rcases h2 with h2 | ⟨g, cap, cur, hv, hg, r⟩
  · exact .inl h2
  · exact .inr ⟨g, cap, cur, hv, Nat.le_trans hB hg, r⟩

/-- Where a new value of a list lies: in the old block, or in a new one. -/
def Via (w : World) (a a2 : Option Addr) : Prop := ∀ x, a2 = some x → (∃ y, a = some y ∧ y.block = x.block) ∨ w.heap.size ≤ x.block
/-- Two lists lie in two blocks. -/
def Sep (a o : Option Addr) : Prop := ∀ x y, a = some x → o = some y → x.block ≠ y.block

theorem Via.refl (w : World) (a : Option Addr) : Via w a a := fun x hx => .inl ⟨x, hx, rfl⟩
theorem Via.of_own {w w' : World} {e B : Nat} {a a2 : Option Addr} {n c : Nat} {l : List Int} (h : OwnL w' e B a2 n c l) (hB : w.heap.size ≤ B) : Via w a a2 := by
  intro x hx
  subst hx
  rcases h.2 with ⟨hv, hn⟩ | ⟨g, cap, cur, hv, hg, r⟩
  · simp at hv
  · simp only [Value.slice.injEq, Option.some.injEq] at hv
    obtain ⟨rfl, _⟩ := hv
    exact .inr (Nat.le_trans hB hg)
theorem Via.mono {w w' : World} {a a2 : Option Addr} (h : Via w' a a2) (hs : w.heap.size ≤ w'.heap.size) : Via w a a2 := fun x hx => (h x hx).imp id fun h => Nat.le_trans hs h
theorem Sep.symm {a o : Option Addr} (h : Sep a o) : Sep o a := fun x y hx hy e => h y x hy hx e.symm
theorem Sep.none_left (o : Option Addr) : Sep none o := fun _ _ h => by cases h
theorem Sep.none_right (o : Option Addr) : Sep o none := fun _ _ _ h => by cases h
theorem OwnL.lt {w : World} {e B : Nat} {a : Option Addr} {n c : Nat} {l : List Int} (h : OwnL w e B a n c l) : ∀ x, a = some x → B ≤ x.block ∧ x.block < w.heap.size := by
  intro x hx
  subst hx
  exact World.ownsRow.lt h x.block rfl
theorem IsL.lt {w : World} {a : Option Addr} {n c : Nat} {l : List Int} (h : IsL w a n c l) (hn : 0 < n) : ∀ x, a = some x → x.block < w.heap.size := by
  intro x hx
  obtain ⟨b, o, ha, hb, _⟩ := h.cells hn
  rw [hx] at ha
  obtain rfl := Option.some.inj ha
  exact hb
theorem Sep.via {w : World} {a a2 o : Option Addr} (h : Sep a o) (hv : Via w a a2) (ho : ∀ x, o = some x → x.block < w.heap.size) : Sep a2 o := by
  intro x y hx hy
  rcases hv x hx with ⟨z, hz, hzx⟩ | hge
  · rw [← hzx]; exact h z y hz hy
  · have := ho y hy; omega
theorem IsL.grown {w w' : World} {a o : Option Addr} {n c k co : Nat} {l : List Int} (h : IsL w a n c l) (hg : w.grownBy w' (Value.slice o k co).ownBlock) (hs : Sep a o) : IsL w' a n c l := by
  refine ⟨h.len, h.le, h.cap, h.nil, fun hp => ?_⟩
  obtain ⟨b, f, ha, hb, hc⟩ := h.cells hp
  refine ⟨b, f, ha, Nat.lt_of_lt_of_le hb hg.size, fun i hi => ?_⟩
  refine (World.cell?_of_block (hg.block b hb ?_)).trans (hc i hi)
  cases o with
  | none => simp [Value.ownBlock]
  | some y => have := hs _ y ha rfl; simp [Value.ownBlock]; exact this
theorem OwnL.grown {w w' : World} {e B : Nat} {a o : Option Addr} {n c k co : Nat} {l : List Int} (h : OwnL w e B a n c l) (hg : w.grownBy w' (Value.slice o k co).ownBlock) (hs : Sep a o) : OwnL w' e B a n c l := by
  refine World.ownsRow.kept h hg ?_
  cases a with
  | none => exact .inl rfl
  | some x =>
    right
    cases o with
    | none => simp [Value.ownBlock]
    | some y => have := hs x y rfl rfl; simp [Value.ownBlock]; exact this

theorem IsL.alloc {w : World} {a : Option Addr} {n c : Nat} {l : List Int} (h : IsL w a n c l) (o : Obj) : IsL (w.alloc o) a n c l :=
  h.below ((Below.refl _ _).alloc (Nat.le_refl _) o)
theorem OwnL.alloc {w : World} {e B : Nat} {a : Option Addr} {n c : Nat} {l : List Int} (h : OwnL w e B a n c l) (o : Obj) : OwnL (w.alloc o) e B a n c l :=
  h.below ((Below.refl _ _).alloc (Nat.le_refl _) o)
theorem IsL.drew {w : World} {a : Option Addr} {n c : Nat} {l : List Int} (h : IsL w a n c l) : IsL w.drew a n c l :=
  h.below (Below.refl _ _).drew
theorem OwnL.drew {w : World} {e B : Nat} {a : Option Addr} {n c : Nat} {l : List Int} (h : OwnL w e B a n c l) : OwnL w.drew e B a n c l :=
  h.below (Below.refl _ _).drew

theorem belowN {B : Nat} {a w : World} (h : Below B a w) (n : Nat) : Below B a (w.drewN n) := h.trans ⟨rfl, rfl, rfl, Nat.le_refl _, fun _ _ => rfl⟩
theorem IsL.drewN {w : World} {a : Option Addr} {n c : Nat} {l : List Int} (h : IsL w a n c l) (k : Nat) : IsL (w.drewN k) a n c l := h.below (belowN (Below.refl _ _) k)
theorem OwnL.drewN {w : World} {e B : Nat} {a : Option Addr} {n c : Nat} {l : List Int} (h : OwnL w e B a n c l) (k : Nat) : OwnL (w.drewN k) e B a n c l := h.below (belowN (Below.refl _ _) k)

theorem add_lit0 (b o j : Nat) : (⟨b, o, none⟩ : Addr).add j = ⟨b, o + j, none⟩ := by unfold Addr.add; split <;> simp_all

/-- A cut [lo:hi] (capacity m) of a slice of ints. -/
theorem IsL.cut {w : World} {a : Option Addr} {n c : Nat} {l : List Int} (h : IsL w a n c l) (lo hi m : Nat) (h1 : lo ≤ hi) (h2 : hi ≤ n) (h3 : hi ≤ m) (h4 : m ≤ c) :
    IsL w (if m = lo then a else a.map (fun x => x.add lo)) (hi - lo) (m - lo) ((l.take hi).drop lo) := by
  refine ⟨by have := h.len; simp; omega, by omega, by have := h.cap; omega, fun hn => ?_, fun hp => ?_⟩
  · by_cases hm : m = lo
    · omega
    · rw [if_neg hm] at hn
      have : a = none := by simpa using hn
      have := h.nil this
      omega
  · obtain ⟨b, o, ha, hb, hc⟩ := h.cells (by omega)
    refine ⟨b, o + lo, ?_, hb, fun i hi' => ?_⟩
    · rw [if_neg (by omega), ha]; simp [add_lit0]
    · have := hc (lo + i) (by omega)
      rw [show o + lo + i = o + (lo + i) by omega, this]
      have hl := h.len
      have e1 : (l.take hi).drop lo = (l.drop lo).take (hi - lo) := by rw [List.drop_take]
      rw [e1]
      simp only [List.getD, List.getElem?_take, List.getElem?_drop]
      rw [if_pos (by omega)]

theorem IsL.pre {w : World} {a : Option Addr} {n c : Nat} {l : List Int} (h : IsL w a n c l) (hi m : Nat) (h2 : hi ≤ n) (h3 : hi ≤ m) (h4 : m ≤ c) : IsL w a hi m (l.take hi) := by
  refine ⟨by have := h.len; simp; omega, h3, by have := h.cap; omega, fun hn => by have := h.nil hn; omega, fun hp => ?_⟩
  obtain ⟨b, o, ha, hb, hc⟩ := h.cells (by omega)
  refine ⟨b, o, ha, hb, fun i hi' => ?_⟩
  rw [hc i (by omega)]
  simp [List.getD, hi']

/-- A block of one cell that was just laid, as a slice. -/
theorem isL_one (w : World) (x : Int) (t : TypeId) : IsL (w.alloc (.cells #[.int .i64 x] t)) (some ⟨w.heap.size, 0, none⟩) 1 1 [x] :=
  ⟨rfl, Nat.le_refl _, by omega, (fun h => by cases h), fun _ => ⟨w.heap.size, 0, rfl, by simp, fun i hi => by
    obtain rfl : i = 0 := by omega
    simp⟩⟩

/-- A block of literal cells that was just laid, as a slice. -/
theorem isL_lit (w : World) (xs : List Int) (cs : Array Value) (t : TypeId) (n : Nat) (hn : n = xs.length) (hc : cs = (xs.map (Value.int .i64)).toArray) (hb : n ≤ 9223372036854775807) :
    IsL (w.alloc (.cells cs t)) (some ⟨w.heap.size, 0, none⟩) n n xs :=
  ⟨hn.symm, Nat.le_refl _, hb, (fun h => by cases h), fun _ => ⟨w.heap.size, 0, rfl, by simp, fun i hi => by
    subst hc
    have : i < xs.length := by omega
    simp [List.getD, this]⟩⟩

/-- A literal '[]int{..}' that was just laid is the call's own. -/
theorem own_lit (w : World) (e B : Nat) (hB : B ≤ w.heap.size) (xs : List Int) (cs : Array Value) (n : Nat) (hn : n = xs.length) (hc : cs = (xs.map (Value.int .i64)).toArray) (hb : n ≤ 9223372036854775807) :
    OwnL (w.alloc (.cells cs e)) e B (some ⟨w.heap.size, 0, none⟩) n n xs := by
  subst hc
  refine ⟨by simp [hn], .inr ⟨w.heap.size, n, _, rfl, hB, heap_alloc_new w _, Nat.le_refl _, by unfold maxLen; omega, by simp [hn], by subst hn; simp; exact List.take_of_length_le (by simp)⟩⟩

theorem news_of_isL {w : World} {ad : Addr} {n c : Nat} {l : List Int} (h : IsL w (some ad) n c l) : ∀ j u, (l.map (Value.int .i64))[j]? = some u → w.cell? (ad.add j) = some u := by
  intro j u hu
  have hj : j < l.length := by have := (List.getElem?_eq_some_iff.1 hu).1; simpa using this
  have hn := h.len
  obtain ⟨b, o, ha, hb, hc⟩ := h.cells (by omega)
  obtain rfl := Option.some.inj ha
  rw [add_lit0, hc j (by omega)]
  have e1 : (l.map (Value.int IntKind.i64))[j]? = some (.int .i64 (l.getD j 0)) := by simp [List.getD, hj]
  rw [e1] at hu
  exact hu

section
variable {P : Program} {t e : TypeId} (ht : P.underlying t = some (.slice e))
  (he : (P.info? e).map (fun i => (i.zero, i.size, i.bytes)) = some (some (.int .i64 0), 1, 8))
include ht he

theorem run_app_own (w : World) (B ty : Nat) (a a' : Option Addr) (n c m c' : Nat) (l l' : List Int) (h : OwnL w e B a n c l) (h' : IsL w a' m c' l') (hB : B ≤ w.heap.size) (hsmall : n + m ≤ 17592186044416) :
    ∃ a2 c2 w', (Builtin.append_ #[t, t] ty #[.slice a n c, .slice a' m c']).run P w = .ok (.slice a2 (n + m) c2) w' ∧ OwnL w' e B a2 (n + m) c2 (l ++ l') ∧ w.grownBy w' (Value.slice a n c).ownBlock ∧ Via w a a2 := by
  obtain ⟨i, hi, hz, hs, hby⟩ := info_parts he
  cases a' with
  | none =>
    have hm0 : c' = 0 := h'.nil rfl
    subst hm0
    have hm : m = 0 := by have := h'.le; omega
    subst hm
    have hl' : l' = [] := List.eq_nil_of_length_eq_zero h'.len
    subst hl'
    have hr := run_append_owned_none (P := P) (w := w) B t ty e i 1 ht hi (.slice a n c) n _ h
    exact ⟨a, c, w, by simpa using hr, by simpa using h, World.grownBy.refl _ _, Via.refl _ _⟩
  | some ad =>
    have hnews := news_of_isL h'
    have hnl : (l'.map (Value.int IntKind.i64)).length = m * 1 := by simp [h'.len]
    have fresh : ∀ v' w', w'.ownsRow w.heap.size e 1 v' (n + m) (l.map (Value.int .i64) ++ l'.map (Value.int .i64)) →
        ∃ a2 c2, v' = .slice a2 (n + m) c2 ∧ OwnL w' e B a2 (n + m) c2 (l ++ l') ∧ Via w a a2 := by
      intro v' w' h2
      have hsh : ∃ a2 c2, v' = .slice a2 (n + m) c2 := by
        rcases h2.2 with ⟨rfl, h0⟩ | ⟨g, cap, cur, rfl, _⟩
        · exact ⟨none, 0, by rw [h0]⟩
        · exact ⟨_, _, rfl⟩
      obtain ⟨a2, c2, rfl⟩ := hsh
      have h3 : OwnL w' e w.heap.size a2 (n + m) c2 (l ++ l') := by simpa [OwnL] using h2
      exact ⟨a2, c2, rfl, h3.weaken hB, Via.of_own h3 (Nat.le_refl _)⟩
    rcases h.2 with ⟨hv, hn⟩ | ⟨g, cap, cur, hv, hg, hh, hnc, hcm, hcs, htk⟩
    · simp only [Value.slice.injEq] at hv
      obtain ⟨rfl, rfl, rfl⟩ := hv
      have hl : l = [] := List.eq_nil_of_length_eq_zero h.len
      subst hl
      obtain ⟨v', w', hr, h2, h3, _⟩ := run_append_own (P := P) w w.heap.size t ty e i (.int .i64 0) 1 8 ht hi hz hs hby rfl (by decide) (.slice none 0 0) 0 [] (World.ownsRow_nil w _ e 1) ad m c' (l'.map (Value.int .i64))
        hnl hnews (ints_oneCell _ _) (by unfold maxLen; omega) (by omega) (Nat.le_refl _)
      obtain ⟨a2, c2, rfl, h5, h6⟩ := fresh v' w' (by simpa using h2)
      exact ⟨a2, c2, w', hr, by simpa using h5, h3, h6⟩
    · simp only [Value.slice.injEq] at hv
      obtain ⟨rfl, _, rfl⟩ := hv
      by_cases hroom : n + m ≤ c
      · obtain ⟨w', hr, h2, h3⟩ := run_append_fits (P := P) w B t ty e i 1 ht hi hs g n c (l.map (Value.int .i64)) h ad m c' (l'.map (Value.int .i64)) hnl hnews (ints_oneCell _ _) hroom
        exact ⟨_, _, w', hr, by simpa [OwnL] using h2, h3, Via.refl _ _⟩
      · obtain ⟨v', w', hr, h2, h3⟩ := run_append_arg_grows (P := P) w t ty e i (.int .i64 0) 1 8 ht hi hz hs hby rfl (by decide) ⟨g, 0, none⟩ n c (l.map (Value.int .i64)) (by simp [h.len]) (news_of_isL h.isL) ad m c' (l'.map (Value.int .i64))
          hnl hnews (by omega) (by unfold maxLen; omega) (by omega)
        obtain ⟨a2, c2, rfl, h5, h6⟩ := fresh v' w' h2
        exact ⟨a2, c2, w', hr, h5, ⟨h3.os, h3.tape, h3.output, h3.size, fun k hk _ => h3.block k hk (by simp)⟩, h6⟩

/-- append to a slice whose capacity is its length: a new array, or nothing. -/
theorem run_app_full (w : World) (ty : Nat) (a a' : Option Addr) (n m c' : Nat) (l l' : List Int) (h : IsL w a n n l) (h' : IsL w a' m c' l') (hsmall : n + m ≤ 17592186044416) :
    ∃ a2 c2 w', (Builtin.append_ #[t, t] ty #[.slice a n n, .slice a' m c']).run P w = .ok (.slice a2 (n + m) c2) w' ∧ IsL w' a2 (n + m) c2 (l ++ l') ∧ Below w.heap.size w w' ∧ Via w a a2 := by
  obtain ⟨i, hi, hz, hs, hby⟩ := info_parts he
  by_cases hm : m = 0
  · subst hm
    have hl' : l' = [] := List.eq_nil_of_length_eq_zero h'.len
    subst hl'
    refine ⟨a, n, w, ?_, by simpa using h, Below.refl _ _, Via.refl _ _⟩
    cases a with
    | none =>
      have : n = 0 := h.nil rfl
      subst this
      simp [Builtin.append_, run_underlying ht, sizeOf, typeInfo, hi, Builtin.lenOf, Builtin.firstCells, loadCells, loadCellsFrom]
      cases a' with
      | none => simp
      | some ad => simp
    | some ad =>
      cases a' with
      | none => simp [Builtin.append_, run_underlying ht, sizeOf, typeInfo, hi, Builtin.lenOf, Builtin.firstCells, loadCells, storeCells]
      | some ad' => simp [Builtin.append_, run_underlying ht, sizeOf, typeInfo, hi, Builtin.lenOf, Builtin.firstCells, loadCells, loadCellsFrom, storeCells]
  · obtain ⟨b', o', ha', _, _⟩ := h'.cells (by omega)
    subst ha'
    have key : ∀ v' w', w'.ownsRow w.heap.size e 1 v' (n + m) (l.map (Value.int .i64) ++ l'.map (Value.int .i64)) → w.grownBy w' none →
        ∃ a2 c2, v' = .slice a2 (n + m) c2 ∧ IsL w' a2 (n + m) c2 (l ++ l') ∧ Below w.heap.size w w' ∧ Via w a a2 := by
      intro v' w' h2 h3
      have hsh : ∃ a2 c2, v' = .slice a2 (n + m) c2 := by
        rcases h2.2 with ⟨rfl, h0⟩ | ⟨g, cap, cur, rfl, _⟩
        · exact ⟨none, 0, by rw [h0]⟩
        · exact ⟨_, _, rfl⟩
      obtain ⟨a2, c2, rfl⟩ := hsh
      have h4 : OwnL w' e w.heap.size a2 (n + m) c2 (l ++ l') := by simpa [OwnL] using h2
      exact ⟨a2, c2, rfl, h4.isL, (Below.refl _ _).grown h3 (Nat.le_refl _) (fun k hk => by cases hk), Via.of_own h4 (Nat.le_refl _)⟩
    cases a with
    | none =>
      have : n = 0 := h.nil rfl
      subst this
      have hl : l = [] := List.eq_nil_of_length_eq_zero h.len
      subst hl
      obtain ⟨v', w', hr, h2, h3, _⟩ := run_append_own (P := P) w w.heap.size t ty e i (.int .i64 0) 1 8 ht hi hz hs hby rfl (by decide) (.slice none 0 0) 0 [] (World.ownsRow_nil w _ e 1) ⟨b', o', none⟩ m c' (l'.map (Value.int .i64))
        (by simp [h'.len]) (news_of_isL h') (ints_oneCell _ _) (by unfold maxLen; omega) (by omega) (Nat.le_refl _)
      obtain ⟨a2, c2, rfl, h5, h6⟩ := key v' w' (by simpa using h2) h3
      exact ⟨a2, c2, w', hr, by simpa using h5, h6⟩
    | some ad =>
      obtain ⟨v', w', hr, h2, h3⟩ := run_append_arg_grows (P := P) w t ty e i (.int .i64 0) 1 8 ht hi hz hs hby rfl (by decide) ad n n (l.map (Value.int .i64)) (by simp [h.len]) (news_of_isL h) ⟨b', o', none⟩ m c' (l'.map (Value.int .i64))
        (by simp [h'.len]) (news_of_isL h') (by omega) (by unfold maxLen; omega) (by omega)
      obtain ⟨a2, c2, rfl, h5, h6⟩ := key v' w' h2 h3
      exact ⟨a2, c2, w', hr, h5, h6⟩

/-- THE WALK's LAW: append to a slice of the call's own. -/
theorem wl_app_own (B : Nat) {w : World} {ops : Array Oper} {rest : List Oper} {o : Oper} {ac : Act} {Q : Exit → Act → World → Prop} {a a' : Option Addr} {n c m c' : Nat} {l l' : List Int}
    (s x : Operand) (hg : o.guard = none) (ho : o.op = .call { callee := .builtin .append, args := #[s, x], argTypes := #[t, t] })
    (hs : ac.eval s = .slice a n c) (hx : ac.eval x = .slice a' m c') (h : OwnL w e B a n c l) (h' : IsL w a' m c' l') (hB : B ≤ w.heap.size) (hsmall : n + m ≤ 17592186044416)
    (hK : ∀ a2 c2 w', OwnL w' e B a2 (n + m) c2 (l ++ l') → w.grownBy w' (Value.slice a n c).ownBlock → Below B w w' → Via w a a2 → wpList P ops Q rest (ac.put o.dst (.slice a2 (n + m) c2)) w') :
    wpList P ops Q (o :: rest) ac w := by
  refine wpList_plain hg fun K hK' => ?_
  obtain ⟨a2, c2, w', hr, h2, h3, h4⟩ := run_app_own ht he w B o.type a a' n c m c' l l' h h' hB hsmall
  unfold Oper.wp
  simp [execOp, ho, resolve, invoke, builtin, hs, hx, hr, Result.andThen]
  exact hK' _ _ (hK a2 c2 w' h2 h3 ((Below.refl _ _).grown h3 hB (fun k hk => (World.ownsRow.lt h k hk).1)) h4)

/-- THE WALK's LAW: append to a slice whose capacity is its length. -/
theorem wl_app_full {w : World} {ops : Array Oper} {rest : List Oper} {o : Oper} {ac : Act} {Q : Exit → Act → World → Prop} {a a' : Option Addr} {n m c' : Nat} {l l' : List Int}
    (s x : Operand) (hg : o.guard = none) (ho : o.op = .call { callee := .builtin .append, args := #[s, x], argTypes := #[t, t] })
    (hs : ac.eval s = .slice a n n) (hx : ac.eval x = .slice a' m c') (h : IsL w a n n l) (h' : IsL w a' m c' l') (hsmall : n + m ≤ 17592186044416)
    (hK : ∀ a2 c2 w', IsL w' a2 (n + m) c2 (l ++ l') → Below w.heap.size w w' → Via w a a2 → wpList P ops Q rest (ac.put o.dst (.slice a2 (n + m) c2)) w') :
    wpList P ops Q (o :: rest) ac w := by
  refine wpList_plain hg fun K hK' => ?_
  obtain ⟨a2, c2, w', hr, h2, h3, h4⟩ := run_app_full ht he w o.type a a' n m c' l l' h h' hsmall
  unfold Oper.wp
  simp [execOp, ho, resolve, invoke, builtin, hs, hx, hr, Result.andThen]
  exact hK' _ _ (hK a2 c2 w' h2 h3 h4)
end
end Go.Proofs.YtpfaoagddgcmbaaDoor
namespace Go.Proofs.YtpfaoagddgcmbaaDoor
open Go.RowKit

theorem chain {w w1 w2 : World} (h : Below w.heap.size w w1) (h' : Below w1.heap.size w1 w2) : Below w.heap.size w w2 := h.trans (h'.mono h.size)

/-- A slice of integers that came in, as the rows' frames say it. -/
def RowIn (k : IntKind) (w : World) (a : Option Addr) (len cap : Nat) (zs : List Int) : Prop :=
  (a = none ∧ len = 0 ∧ cap = 0 ∧ zs = []) ∨
  ∃ x, a = some x ∧ len ≤ cap ∧ cap ≤ maxLen ∧ zs.length = cap ∧ (∀ i, i < zs.length → w.cell? (x.add i) = some (.int k (zs.getD i 0))) ∧ ∀ n ∈ zs, (Lit.int k n).wf = true

theorem RowIn.isL {w : World} {a : Option Addr} {n c : Nat} {zs : List Int} (h : RowIn .i64 w a n c zs) : IsL w a n c (zs.take n) := by
  rcases h with ⟨rfl, rfl, rfl, rfl⟩ | ⟨x, rfl, h1, h2, h3, h4, _⟩
  · simpa using IsL.nilL w
  · refine ⟨by simp; omega, h1, by simpa [maxLen] using h2, (fun h => by cases h), fun hp => ?_⟩
    obtain ⟨b, o, sp⟩ := x
    have hc := h4 0 (by omega)
    have hsp : sp = none := by simpa [Addr.add] using World.cell?_spot hc
    subst hsp
    refine ⟨b, o, rfl, World.block_lt_of_cell? w _ hc, fun i hi => ?_⟩
    have := h4 i (by omega)
    rw [add_lit0] at this
    rw [this]
    simp [List.getD, hi]
end Go.Proofs.YtpfaoagddgcmbaaDoor
namespace Go.Proofs.YtpfaoagddgcmbaaDoor
open Go.RowKit

theorem setCell_own {w : World} {g : Nat} {cur : Array Value} {e : TypeId} (h : w.heap[g]? = some (.cells cur e (0, 0))) (i : Nat) (v : Value) :
    (w.setCell ⟨g, i, none⟩ v).heap[g]? = some (.cells (cur.setIfInBounds i v) e (0, 0)) := by
  simp [World.setCell, Array.getElem?_modify, h]
/-- A block of one cell that was just laid, its number spelled otherwise. -/
theorem isL_oneAt (w : World) (x : Int) (t : TypeId) (g : Nat) (hg : g = w.heap.size) : IsL (w.alloc (.cells #[.int .i64 x] t)) (some ⟨g, 0, none⟩) 1 1 [x] := by
  subst hg; exact isL_one w x t
theorem setCell_size (w : World) (p : Addr) (v : Value) : (w.setCell p v).heap.size = w.heap.size := by simp [World.setCell]
theorem grown_setCell (w : World) (g i : Nat) (v : Value) : w.grownBy (w.setCell ⟨g, i, none⟩ v) (some g) :=
  ⟨rfl, rfl, rfl, by simp [World.setCell], fun k hk hne => by
    have : g ≠ k := fun e => hne (by rw [e])
    simp [World.setCell, Array.getElem?_modify, this]⟩
theorem grown_trans {w w1 w2 : World} {r : Option Nat} (h : w.grownBy w1 r) (h' : w1.grownBy w2 r) : w.grownBy w2 r :=
  ⟨h'.os.trans h.os, h'.tape.trans h.tape, h'.output.trans h.output, Nat.le_trans h.size h'.size, fun k hk hne => (h'.block k (Nat.lt_of_lt_of_le hk h.size) hne).trans (h.block k hk hne)⟩
theorem setCells_own {g : Nat} {e : TypeId} : ∀ (vs : List Value) (o : Nat) (w : World) (cur : Array Value), w.heap[g]? = some (.cells cur e (0, 0)) →
    ∃ cur', (w.setCells g o vs).heap[g]? = some (.cells cur' e (0, 0)) ∧ cur'.size = cur.size
  | [], _, _, cur, h => ⟨cur, h, rfl⟩
  | v :: r, o, w, cur, h => by
    obtain ⟨c, h1, h2⟩ := setCells_own r (o + 1) (w.setCell ⟨g, o, none⟩ v) _ (setCell_own h o v)
    exact ⟨c, h1, by simpa using h2⟩
theorem grown_setCells (g : Nat) : ∀ (vs : List Value) (o : Nat) (w : World), w.grownBy (w.setCells g o vs) (some g)
  | [], _, w => World.grownBy.refl _ _
  | v :: r, o, w => grown_trans (grown_setCell w g o v) (grown_setCells g r (o + 1) _)
theorem grown_drew (w : World) (r : Option Nat) : w.grownBy w.drew r := ⟨rfl, rfl, rfl, Nat.le_refl _, fun _ _ _ => rfl⟩

/-- A row of the call's own, by its cells. -/
theorem own_of_cells {w : World} {e : TypeId} {B g n c : Nat} {cur : Array Value} {l : List Int} (hg : B ≤ g) (h : w.heap[g]? = some (.cells cur e (0, 0))) (hs : cur.size = c) (hc : c ≤ maxLen) (hn : n ≤ c) (hl : l.length = n)
    (hx : ∀ i, i < n → w.cell? ⟨g, i, none⟩ = some (.int .i64 (l.getD i 0))) : OwnL w e B (some ⟨g, 0, none⟩) n c l := by
  refine ⟨by simp [hl], .inr ⟨g, c, cur, rfl, hg, h, hn, hc, by omega, ?_⟩⟩
  apply List.ext_getElem?
  intro i
  rw [List.getElem?_take]
  split
  · have := hx i (by omega)
    rw [World.cell?] at this
    simp only [h] at this
    have hi : i < l.length := by omega
    simp at this
    simp [this, hi]
  · symm; simp; omega

/-- What is known of a row of the call's own that has a capacity. -/
theorem OwnL.parts {w : World} {e : TypeId} {B g n c : Nat} {l : List Int} (h : OwnL w e B (some ⟨g, 0, none⟩) n c l) :
    ∃ cur, B ≤ g ∧ w.heap[g]? = some (.cells cur e (0, 0)) ∧ n ≤ c ∧ c ≤ maxLen ∧ cur.size = c ∧ l.length = n ∧ (∀ i, i < n → w.cell? ⟨g, i, none⟩ = some (.int .i64 (l.getD i 0))) ∧ (∀ i, i < c → (w.cell? ⟨g, i, none⟩).isSome = true) ∧ ∀ i, w.frozen? ⟨g, i, none⟩ = false := by
  have hL := h.isL
  rcases h.2 with ⟨hv, hn⟩ | ⟨g', cap, cur, hv, hg, hh, hnc, hcm, hcs, ht⟩
  · cases hv
  · simp only [Value.slice.injEq, Option.some.injEq, Addr.mk.injEq] at hv
    obtain ⟨⟨rfl, _⟩, _, rfl⟩ := hv
    refine ⟨cur, hg, hh, hnc, hcm, by omega, h.len, fun i hi => ?_, fun i hi => ?_, fun i => ?_⟩
    · obtain ⟨b, o, ha, hb, hc⟩ := hL.cells (by omega)
      simp only [Option.some.injEq, Addr.mk.injEq] at ha
      obtain ⟨rfl, rfl, _⟩ := ha
      simpa using hc i hi
    · rw [World.cell?]; simp only [hh]; simp; omega
    · simp [World.frozen?, hh]

theorem OwnL.addr {w : World} {e : TypeId} {B n c : Nat} {a : Option Addr} {l : List Int} (h : OwnL w e B a n c l) (hn : 0 < n) : ∃ g, a = some ⟨g, 0, none⟩ := by
  rcases h.2 with ⟨hv, h0⟩ | ⟨g, cap, cur, hv, _⟩
  · omega
  · simp only [Value.slice.injEq] at hv
    exact ⟨g, hv.1⟩
theorem sep_ne {g : Nat} {o : Option Addr} (h : Sep (some ⟨g, 0, none⟩) o) (n c : Nat) : (Value.slice o n c).ownBlock ≠ some g := by
  cases o with
  | none => simp [Value.ownBlock]
  | some y => have := h _ y rfl rfl; simp [Value.ownBlock]; exact fun e => this e.symm
theorem OwnL.grownS {w w' : World} {e : TypeId} {B n c g : Nat} {a : Option Addr} {l : List Int} (h : OwnL w e B a n c l) (hg : w.grownBy w' (some g)) (hs : Sep a (some ⟨g, 0, none⟩)) : OwnL w' e B a n c l :=
  OwnL.grown (o := some ⟨g, 0, none⟩) (k := 0) (co := 0) h (by simpa [Value.ownBlock] using hg) hs

/-- A store into a row of the call's own. -/
theorem OwnL.set {w : World} {e : TypeId} {B g n c : Nat} {l : List Int} (h : OwnL w e B (some ⟨g, 0, none⟩) n c l) (i : Nat) (x : Int) (hi : i < n) :
    OwnL (w.setCell ⟨g, i, none⟩ (.int .i64 x)) e B (some ⟨g, 0, none⟩) n c (l.set i x) := by
  obtain ⟨cur, hg, hh, hnc, hcm, hcs, hl, hx, hs, hf⟩ := h.parts
  refine own_of_cells hg (setCell_own hh i _) (by simpa using hcs) hcm hnc (by simpa using hl) fun j hj => ?_
  by_cases hij : i = j
  · subst hij
    obtain ⟨u, hu⟩ := Option.isSome_iff_exists.1 (hs i (by omega))
    rw [World.cell?_setCell_same _ _ _ hu]
    simp [List.getD, hl, hj]
  · rw [World.cell?_setCell_other _ _ _ _ (by simp [hij]), hx j hj]
    simp [List.getD, List.getElem?_set_ne hij]
end Go.Proofs.YtpfaoagddgcmbaaDoor
namespace Go.Proofs.YtpfaoagddgcmbaaDoor
open Go.RowKit

/-- The slice (a, n, c) is the call's own (blocks from B on), and holds the list l. -/
def OwnG {α : Type} (f : α → Value) (w : World) (e B : Nat) (a : Option Addr) (n c : Nat) (l : List α) : Prop :=
  w.ownsRow B e 1 (.slice a n c) n (l.map f)

variable {α : Type} {f : α → Value} {w w' : World} {e B : Nat} {a : Option Addr} {n c : Nat} {l : List α}

theorem OwnG.len (h : OwnG f w e B a n c l) : l.length = n := by
  have := h.1; simpa using this
theorem OwnG.below (h : OwnG f w e B a n c l) (hb : Below w.heap.size w w') : OwnG f w' e B a n c l := by
  obtain ⟨h1, h2⟩ := h
  refine ⟨h1, ?_⟩
  rcases h2 with h2 | ⟨g, cap, cur, hv, hg, hh, r⟩
  · exact .inl h2
  · exact .inr ⟨g, cap, cur, hv, hg, by rw [hb.block g (Array.getElem?_eq_some_iff.1 hh).1]; exact hh, r⟩
theorem OwnG.lt (h : OwnG f w e B a n c l) : ∀ x, a = some x → B ≤ x.block ∧ x.block < w.heap.size := by
  intro x hx
  subst hx
  exact World.ownsRow.lt h x.block rfl
theorem OwnG.grown {o : Option Addr} {k co : Nat} (h : OwnG f w e B a n c l) (hg : w.grownBy w' (Value.slice o k co).ownBlock) (hs : Sep a o) : OwnG f w' e B a n c l := by
  refine World.ownsRow.kept h hg ?_
  cases a with
  | none => exact .inl rfl
  | some x =>
    right
    cases o with
    | none => simp [Value.ownBlock]
    | some y => have := hs x y rfl rfl; simp [Value.ownBlock]; exact this
theorem OwnG.grownN (h : OwnG f w e B a n c l) (hg : w.grownBy w' none) : OwnG f w' e B a n c l :=
  OwnG.grown (o := none) (k := 0) (co := 0) h (by simpa [Value.ownBlock] using hg) (Sep.none_right _)
theorem OwnG.grownS {g : Nat} (h : OwnG f w e B a n c l) (hg : w.grownBy w' (some g)) (hs : Sep a (some ⟨g, 0, none⟩)) : OwnG f w' e B a n c l :=
  OwnG.grown (o := some ⟨g, 0, none⟩) (k := 0) (co := 0) h (by simpa [Value.ownBlock] using hg) hs
theorem OwnG.alloc (h : OwnG f w e B a n c l) (o : Obj) : OwnG f (w.alloc o) e B a n c l := h.below ((Below.refl _ _).alloc (Nat.le_refl _) o)
theorem OwnG.drew (h : OwnG f w e B a n c l) : OwnG f w.drew e B a n c l := h.below (Below.refl _ _).drew
theorem OwnG.addr (h : OwnG f w e B a n c l) (hn : 0 < n) : ∃ g, a = some ⟨g, 0, none⟩ := by
  rcases h.2 with ⟨hv, h0⟩ | ⟨g, cap, cur, hv, _⟩
  · omega
  · simp only [Value.slice.injEq] at hv
    exact ⟨g, hv.1⟩
theorem OwnG.set {g : Nat} (h : OwnG f w e B (some ⟨g, 0, none⟩) n c l) (i : Nat) (x : α) : OwnG f (w.setCell ⟨g, i, none⟩ (f x)) e B (some ⟨g, 0, none⟩) n c (l.set i x) := by
  have := (World.ownsRow.stored h i (f x)).1
  rw [← List.map_set] at this
  exact this
theorem OwnG.cell {g : Nat} (h : OwnG f w e B (some ⟨g, 0, none⟩) n c l) (i : Nat) (d : α) (hi : i < n) : w.cell? ⟨g, i, none⟩ = some (f (l.getD i d)) ∧ w.frozen? ⟨g, i, none⟩ = false := by
  have hl := h.len
  rcases h.2 with ⟨hv, hn⟩ | ⟨g', cap, cur, hv, hg, hh, hnc, hcm, hcs, ht⟩
  · cases hv
  · simp only [Value.slice.injEq, Option.some.injEq, Addr.mk.injEq] at hv
    obtain ⟨⟨rfl, _⟩, _, rfl⟩ := hv
    constructor
    · rw [World.cell?]
      simp only [hh]
      have hi2 : i < l.length := by omega
      have e1 : (l.map f)[i]? = some (f (l.getD i d)) := by simp [List.getD, hi2]
      rw [← ht] at e1
      rw [List.getElem?_take] at e1
      split at e1
      · simpa using e1
      · cases e1
    · simp [World.frozen?, hh]
theorem OwnG.caps {g : Nat} (h : OwnG f w e B (some ⟨g, 0, none⟩) n c l) : n ≤ c ∧ c ≤ 9223372036854775807 := by
  rcases h.2 with ⟨hv, hn⟩ | ⟨g', cap, cur, hv, hg, hh, hnc, hcm, hcs, ht⟩
  · cases hv
  · simp only [Value.slice.injEq, Option.some.injEq, Addr.mk.injEq] at hv
    obtain ⟨⟨rfl, _⟩, _, rfl⟩ := hv
    exact ⟨hnc, by simpa [maxLen] using hcm⟩
theorem OwnG.ints {l : List Int} (h : OwnG (Value.int .i64) w e B a n c l) : OwnL w e B a n c l := h
theorem OwnL.gen {l : List Int} (h : OwnL w e B a n c l) : OwnG (Value.int .i64) w e B a n c l := h
theorem OwnG.nilG (w : World) (e B : Nat) : OwnG f w e B none 0 0 [] := World.ownsRow_nil _ _ _ _
theorem made_list (z : Value) (n : Nat) : (madeCells #[z] (n * 1)).toList = List.replicate n z := by
  apply List.ext_getElem?
  intro i
  simp only [madeCells, Array.toList_map, Array.toList_range, List.getElem?_map, List.getElem?_range, List.getElem?_replicate, Nat.mul_one]
  by_cases hi : i < n
  · simp [hi, Nat.mod_one]
  · simp [hi]
section
variable {P : Program} {t : TypeId}
/-- THE WALK's LAW: make([]T, n). -/
theorem wl_make {w : World} {ops : Array Oper} {rest : List Oper} {o : Oper} {ac : Act} {Q : Exit → Act → World → Prop} (f : α → Value) (d : α) (z : Value) (nb : Nat) (B : Nat) (ht : P.underlying t = some (.slice e))
    (he : (P.info? e).map (fun i => (i.zero, i.size, i.bytes)) = some (some z, 1, nb)) (hz : z.cells = #[z]) (hfd : f d = z)
    (s x : Operand) (hg : o.guard = none) (ho : o.op = Op.makeSlice t s x) (m : Nat) (hs : ac.eval s = .int .i64 m) (hx : ac.eval x = .int .i64 m) (hb : nb * m ≤ 281474976710656) (hm : m ≤ 9223372036854775807) (hB : B ≤ w.heap.size)
    (hK : ∀ w', OwnG f w' e B (some ⟨w.heap.size, 0, none⟩) m m (List.replicate m d) → w.grownBy w' none → Below B w w' → wpList P ops Q rest (ac.put o.dst (.slice (some ⟨w.heap.size, 0, none⟩) m m)) w') :
    wpList P ops Q (o :: rest) ac w := by
  obtain ⟨i, hi, hz2, hs2, hb2⟩ := info_parts he
  refine wpList_make_full w hg s x t ho B e i z 1 ht hi hz2 hs2 .i64 .i64 m m m hs hx rfl rfl (by rw [hb2]; exact hb) (by simpa [maxLen] using hm) hB fun w' h1 h2 => hK w' ?_ h2 ((Below.refl _ _).grown h2 hB (fun k hk => by cases hk))
  rw [hz, made_list] at h1
  rw [← hfd, ← List.map_replicate] at h1
  exact h1
end
end Go.Proofs.YtpfaoagddgcmbaaDoor
