/- Chapter 3, plain: the way's exchanges, the pairs that differ. -/
import Derived.Test.YtmcckngodaeojaaPa
namespace Grade03
theorem lead_way {b : List Int} (hb : IsO b) : ∀ (d : Nat) (l : List Int), IsO l → b.length = l.length → dist l b = (d : Int) → runW l (wayR b l) = some b
  | 0, l, h, hl, hd => by
    rw [wayR_none ((fd_dist h hb hl).2 hd), (dist_zero h hb hl).1 hd]; rfl
  | d + 1, l, h, hl, hd => by
    cases hk : fd b l with
    | none => have := (fd_dist h hb hl).1 hk; omega
    | some k =>
      obtain ⟨h1, h2⟩ := wayR_some h hb hl hk
      obtain ⟨h3, _, _⟩ := fd_some hk
      rw [h2, runW, if_pos (by omega), Int.toNat_natCast]
      exact lead_way hb d (swp l k) (swp_ord h k h3) (by rw [swp_len]; exact hl) (by omega)
/-- the exchanges so far -/
structure ExS (a b now : List Int) (i : Nat) : Prop where
  ord : IsO now
  len : now.length = a.length
  way : wayR b now = (wayR b a).drop i
theorem ExS.start {a b : List Int} (h : IsO a) : ExS a b a 0 := ⟨h, rfl, by simp⟩
theorem ExS.step {a b now : List Int} {i : Nat} (h : ExS a b now i) (hb : IsO b) (hl : b.length = a.length) (hi : i < (wayR b a).length) : ∃ k : Nat, (wayR b a).getD i 0 = (k : Int) ∧ k + 1 < a.length ∧ (∀ j, j < k → dist (swp now j) b = dist now b + 1) ∧ dist (swp now k) b = dist now b - 1 ∧ ExS a b (swp now k) (i + 1) := by
  have hw := h.way
  have hlen := h.len
  rw [drop_cons _ _ hi] at hw
  cases hk : fd b now with
  | none => rw [wayR_none hk] at hw; cases hw
  | some k =>
    obtain ⟨h1, h2⟩ := wayR_some h.ord hb (by omega) hk
    obtain ⟨h3, h4, h5⟩ := fd_some hk
    rw [h2] at hw
    simp only [List.cons.injEq] at hw
    refine ⟨k, hw.1.symm, by omega, fun j hj => ?_, h1, ⟨swp_ord h.ord k h3, by rw [swp_len]; exact hlen, hw.2⟩⟩
    have := swp_dist h.ord hb (by omega) j (by omega)
    have h6 : pos b (now.getD j 0) < pos b (now.getD (j + 1) 0) := h5 j hj
    rw [if_pos h6] at this
    exact this
theorem ExS.fin {a b now : List Int} {i : Nat} (h : ExS a b now i) (hb : IsO b) (hl : b.length = a.length) (hi : (wayR b a).length ≤ i) : now = b := by
  have hw := h.way
  have hlen := h.len
  rw [List.drop_eq_nil_of_le hi] at hw
  refine (dist_zero h.ord hb (by omega)).1 ((fd_dist h.ord hb (by omega)).1 ?_)
  cases hk : fd b now with
  | none => rfl
  | some k => rw [(wayR_some h.ord hb (by omega) hk).2] at hw; cases hw
def lexP (p q : Int × Int) : Prop := p.1 < q.1 ∨ (p.1 = q.1 ∧ p.2 < q.2)
/-- a pair that differs -/
def dfP (n : Nat) (a b : List Int) (p : Int × Int) : Prop := (0 ≤ p.1 ∧ p.1 < n) ∧ (0 ≤ p.2 ∧ p.2 < n) ∧ pos a p.1 < pos a p.2 ∧ pos b p.2 < pos b p.1
theorem difR_all {n : Nat} {a b : List Int} {x : Nat} (hx : x < n) : ∀ y, y ≤ n → (difR a b x y).Pairwise lexP ∧ ∀ p ∈ difR a b x y, p.1 = (x : Int) ∧ p.2 < (y : Int) ∧ dfP n a b p
  | 0, _ => ⟨List.Pairwise.nil, fun p hp => by cases hp⟩
  | y + 1, hy => by
    obtain ⟨h1, h2⟩ := difR_all (a := a) (b := b) hx y (by omega)
    rw [difR]
    split
    · rename_i hb
      refine ⟨List.pairwise_append.2 ⟨h1, List.pairwise_singleton _ _, fun p hp q hq => ?_⟩, fun p hp => ?_⟩
      · rw [List.mem_singleton] at hq
        subst hq
        obtain ⟨e1, e2, _⟩ := h2 p hp
        exact .inr ⟨e1, e2⟩
      · rcases List.mem_append.1 hp with hp | hp
        · obtain ⟨e1, e2, e3⟩ := h2 p hp
          exact ⟨e1, by omega, e3⟩
        · rw [List.mem_singleton] at hp
          subst hp
          exact ⟨rfl, by simp only []; omega, ⟨by omega, by simp only []; omega⟩, ⟨by omega, by simp only []; omega⟩, hb.1, hb.2⟩
    · rw [List.append_nil]
      exact ⟨h1, fun p hp => ⟨(h2 p hp).1, by have := (h2 p hp).2.1; omega, (h2 p hp).2.2⟩⟩
theorem difA_all {a b : List Int} : ∀ x, x ≤ a.length → (difA a b x).Pairwise lexP ∧ ∀ p ∈ difA a b x, p.1 < (x : Int) ∧ dfP a.length a b p
  | 0, _ => ⟨List.Pairwise.nil, fun p hp => by cases hp⟩
  | x + 1, hx => by
    obtain ⟨h1, h2⟩ := difA_all (a := a) (b := b) x (by omega)
    obtain ⟨h3, h4⟩ := difR_all (n := a.length) (a := a) (b := b) (x := x) (by omega) a.length (Nat.le_refl _)
    rw [difA]
    refine ⟨List.pairwise_append.2 ⟨h1, h3, fun p hp q hq => .inl ?_⟩, fun p hp => ?_⟩
    · have e1 := (h2 p hp).1
      have e2 := (h4 q hq).1
      omega
    · rcases List.mem_append.1 hp with hp | hp
      · exact ⟨by have := (h2 p hp).1; omega, (h2 p hp).2⟩
      · exact ⟨by have := (h4 p hp).1; omega, (h4 p hp).2.2⟩
theorem difL_at {a b : List Int} {i : Nat} (hi : i < (difL a b).length) : dfP a.length a b ((difL a b).getD i (0, 0)) := by
  rw [List.getD, List.getElem?_eq_getElem hi]
  exact ((difA_all a.length (Nat.le_refl _)).2 _ (List.getElem_mem hi)).2
theorem difL_lex {a b : List Int} {i : Nat} (hi : i + 1 < (difL a b).length) : lexP ((difL a b).getD i (0, 0)) ((difL a b).getD (i + 1) (0, 0)) := by
  rw [List.getD, List.getElem?_eq_getElem (by omega), List.getD, List.getElem?_eq_getElem hi]
  exact List.pairwise_iff_getElem.1 (difA_all (a := a) (b := b) a.length (Nat.le_refl _)).1 i (i + 1) (by unfold difL at hi; omega) hi (by omega)
end Grade03
