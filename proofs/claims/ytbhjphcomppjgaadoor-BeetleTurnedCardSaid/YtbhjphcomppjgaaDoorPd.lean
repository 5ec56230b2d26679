/- Plain facts of chapter 9: the search for the first list. -/
import Derived.Test.YtbhjphcomppjgaaDoorPc
namespace Beetle09
set_option maxRecDepth 100000

/-- The first list of so many bales, out of some, behind some, that is good. -/
def dfs (p : List Nat → Nat → Bool) (g : List Nat → Bool) : List Nat → Nat → List Nat → Option (List Nat)
  | _, 0, b => if g b then some b else none
  | [], _ + 1, _ => none
  | n :: r, m + 1, b => if p (b ++ [n]) m then (dfs p g r m (b ++ [n])).or (dfs p g r (m + 1) b) else dfs p g r (m + 1) b
theorem dfs_zero (p : List Nat → Nat → Bool) (g : List Nat → Bool) (c b : List Nat) : dfs p g c 0 b = if g b then some b else none := by
  cases c <;> rfl
theorem dfs_some {p : List Nat → Nat → Bool} {g : List Nat → Bool} : ∀ {c : List Nat} {m : Nat} {b l : List Nat}, dfs p g c m b = some l → ∃ t, l = b ++ t ∧ t.Sublist c ∧ t.length = m ∧ g l = true
  | c, 0, b, l, h => by
    rw [dfs_zero] at h
    split at h
    · obtain rfl := Option.some.inj h
      exact ⟨[], by simp, List.nil_sublist _, rfl, ‹_›⟩
    · cases h
  | [], m + 1, b, l, h => by cases h
  | n :: r, m + 1, b, l, h => by
    have go : dfs p g r (m + 1) b = some l → ∃ t, l = b ++ t ∧ t.Sublist (n :: r) ∧ t.length = m + 1 ∧ g l = true := fun h => by
      obtain ⟨t, h1, h2, h3, h4⟩ := dfs_some h
      exact ⟨t, h1, h2.cons _, h3, h4⟩
    rw [dfs] at h
    split at h
    · cases h1 : dfs p g r m (b ++ [n]) with
      | some l1 =>
        rw [h1, Option.some_or] at h
        obtain rfl := Option.some.inj h
        obtain ⟨t, g1, g2, g3, g4⟩ := dfs_some h1
        exact ⟨n :: t, by rw [g1]; simp, g2.cons_cons _, by simp [g3], g4⟩
      | none =>
        rw [h1, Option.none_or] at h
        exact go h
    · exact go h
/-- Lists of one length in their order. -/
def lexlt : List Nat → List Nat → Prop
  | a :: x, b :: y => a < b ∨ (a = b ∧ lexlt x y)
  | _, _ => False
theorem dfs_first {p : List Nat → Nat → Bool} {g : List Nat → Bool} : ∀ {c : List Nat} {m : Nat} {b t : List Nat}, c.Pairwise (· < ·) → t.Sublist c → t.length = m → g (b ++ t) = true → (∀ t1 n t2, t = t1 ++ n :: t2 → p (b ++ (t1 ++ [n])) t2.length = true) → ∃ t', dfs p g c m b = some (b ++ t') ∧ (t' = t ∨ lexlt t' t)
  | c, 0, b, t, hc, ht, hl, hg, hp => by
    obtain rfl := List.eq_nil_of_length_eq_zero hl
    rw [List.append_nil] at hg
    exact ⟨[], by rw [dfs_zero, if_pos hg, List.append_nil], Or.inl rfl⟩
  | [], m + 1, b, t, hc, ht, hl, hg, hp => by
    rw [List.sublist_nil.1 ht] at hl; cases hl
  | n :: r, m + 1, b, t, hc, ht, hl, hg, hp => by
    have hc' := List.pairwise_cons.1 hc
    rw [dfs]
    cases ht with
    | cons _ ht =>
      obtain ⟨t', h1, h2⟩ := dfs_first hc'.2 ht hl hg hp
      have hlt : ∀ t1, lexlt (n :: t1) t := fun t1 => by
        cases t with
        | nil => cases hl
        | cons x t => exact Or.inl (hc'.1 x (ht.subset List.mem_cons_self))
      split
      · cases h3 : dfs p g r m (b ++ [n]) with
        | some l1 =>
          obtain ⟨t1, g1, _⟩ := dfs_some h3
          exact ⟨n :: t1, by rw [Option.some_or, g1]; simp, Or.inr (hlt t1)⟩
        | none => exact ⟨t', by rw [Option.none_or]; exact h1, h2⟩
      · exact ⟨t', h1, h2⟩
    | cons_cons _ ht =>
      rename_i t
      have hl' : t.length = m := by simpa using hl
      have hpn : p (b ++ [n]) m = true := by rw [← hl']; simpa using hp [] n t rfl
      rw [if_pos hpn]
      obtain ⟨t', h1, h2⟩ := dfs_first (b := b ++ [n]) hc'.2 ht hl' (by simpa using hg) (fun t1 x t2 e => by have := hp (n :: t1) x t2 (by rw [e]; rfl); simpa using this)
      refine ⟨n :: t', by rw [h1, Option.some_or]; simp, ?_⟩
      rcases h2 with rfl | h2
      · exact Or.inl rfl
      · exact Or.inr (Or.inr ⟨rfl, h2⟩)
theorem els_sorted (N s : Nat) : (els N s).Pairwise (· < ·) := List.Pairwise.filter _ List.pairwise_lt_range
theorem els_sub {N o s : Nat} (h : Sub o s) : (els N o).Sublist (els N s) := by
  have : els N o = (els N s).filter o.testBit := by
    unfold els
    rw [List.filter_filter]
    refine List.filter_congr fun x _ => ?_
    cases hx : o.testBit x with
    | true => rw [h x hx]; rfl
    | false => rfl
  rw [this]
  exact List.filter_sublist
theorem sub_setL {l : List Nat} {N s : Nat} (h : l.Sublist (els N s)) : Sub (setL l) s ∧ setL l < 2 ^ N ∧ els N (setL l) = l := by
  have hm : ∀ i ∈ l, i < N ∧ s.testBit i = true := fun i hi => mem_els.1 (h.subset hi)
  refine ⟨fun i hi => ?_, setL_lt fun i hi => (hm i hi).1, ?_⟩
  · rw [setL_bit, decide_eq_true_eq] at hi; exact (hm i hi).2
  · have hs := (els_sorted N s).sublist h
    refine List.Perm.eq_of_pairwise (le := (· < ·)) (fun a b _ _ h1 h2 => by omega) (els_sorted _ _) hs ?_
    rw [List.perm_ext_iff_of_nodup (els_nodup _ _) (hs.imp fun h => by omega)]
    intro a
    rw [mem_els, setL_bit, decide_eq_true_eq]
    exact ⟨fun h => h.2, fun h => ⟨(hm a h).1, h⟩⟩
end Beetle09
