/- Plain law of Join: a forest of parents, and its roots. -/
import Derived.Test.YtjedmiegcbdedaaSpec
namespace Store11

structure Forest (P rt : Nat → Nat) : Prop where
  lt : ∀ x, x < 18 → rt x < 18
  plt : ∀ x, x < 18 → P x < 18
  fix : ∀ x, x < 18 → P (rt x) = rt x
  root : ∀ x, x < 18 → P x = x → rt x = x
  par : ∀ x, x < 18 → rt (P x) = rt x
  dep : ∃ d : Nat → Nat, ∀ x, x < 18 → P x ≠ x → d (P x) < d x

theorem Forest.start : Forest (fun x => x) (fun x => x) := ⟨fun _ h => h, fun _ h => h, fun _ _ => rfl, fun _ _ _ => rfl, fun _ _ => rfl, fun _ => 0, fun _ _ h => absurd rfl h⟩
theorem Forest.idem {P rt : Nat → Nat} (h : Forest P rt) (x : Nat) (hx : x < 18) : rt (rt x) = rt x := h.root _ (h.lt x hx) (h.fix x hx)

def linkR (rt : Nat → Nat) (x y : Nat) : Nat → Nat := fun z => if rt z = rt x then rt y else rt z
def linkP (P rt : Nat → Nat) (x y : Nat) : Nat → Nat := fun z => if z = rt x then rt y else P z

theorem Forest.link {P rt : Nat → Nat} (h : Forest P rt) {x y : Nat} (hx : x < 18) (hy : y < 18) : Forest (linkP P rt x y) (linkR rt x y) := by
  have ix := h.idem x hx
  have iy := h.idem y hy
  refine ⟨fun z hz => ?_, fun z hz => ?_, fun z hz => ?_, fun z hz hp => ?_, fun z hz => ?_, ?_⟩
  · unfold linkR; split
    · exact h.lt y hy
    · exact h.lt z hz
  · unfold linkP; split
    · exact h.lt y hy
    · exact h.plt z hz
  · unfold linkR linkP
    by_cases h1 : rt z = rt x
    · rw [if_pos h1]
      by_cases h2 : rt y = rt x
      · rw [if_pos h2]
      · rw [if_neg h2]; exact h.fix y hy
    · rw [if_neg h1, if_neg h1]; exact h.fix z hz
  · unfold linkP at hp
    unfold linkR
    by_cases h1 : z = rt x
    · rw [if_pos h1] at hp
      rw [if_pos (by rw [h1, ix]), hp]
    · rw [if_neg h1] at hp
      have := h.root z hz hp
      rw [if_neg (by rw [this]; exact h1), this]
  · unfold linkP linkR
    by_cases h1 : z = rt x
    · rw [if_pos h1]
      subst h1
      rw [ix, if_pos rfl, iy]
      split <;> rfl
    · rw [if_neg h1, h.par z hz]
  · obtain ⟨d, hd⟩ := h.dep
    by_cases hxy : rt y = rt x
    · refine ⟨d, fun z hz hp => ?_⟩
      unfold linkP at hp ⊢
      by_cases h1 : z = rt x
      · rw [if_pos h1] at hp; exact absurd (by rw [hxy, h1]) hp
      · rw [if_neg h1] at hp ⊢; exact hd z hz hp
    · refine ⟨fun z => if rt z = rt x then d z + d (rt y) + 1 else d z, fun z hz hp => ?_⟩
      unfold linkP at hp ⊢
      by_cases h1 : z = rt x
      · rw [if_pos h1]
        simp only
        rw [if_neg (by rw [iy]; exact hxy), if_pos (by rw [h1, ix])]
        omega
      · rw [if_neg h1] at hp ⊢
        simp only
        rw [h.par z hz]
        have := hd z hz hp
        split <;> omega

/-- the roots behind all boxes up to k -/
def rtK (a b : List Int) : Nat → Nat → Nat
  | 0 => fun x => x
  | k + 1 => linkR (rtK a b k) (a.getD k 0).toNat (9 + (b.getD k 0).toNat)
def pK (a b : List Int) : Nat → Nat → Nat
  | 0 => fun x => x
  | k + 1 => linkP (pK a b k) (rtK a b k) (a.getD k 0).toNat (9 + (b.getD k 0).toNat)
theorem forest_K (a b : List Int) (n : Nat) (ha : ∀ k, k < n → 0 ≤ a.getD k 0 ∧ a.getD k 0 < 9) (hb : ∀ k, k < n → 0 ≤ b.getD k 0 ∧ b.getD k 0 < 9) : ∀ k, k ≤ n → Forest (pK a b k) (rtK a b k)
  | 0, _ => Forest.start
  | k + 1, h => by
    have h1 := ha k (by omega)
    have h2 := hb k (by omega)
    exact (forest_K a b n ha hb k (by omega)).link (by omega) (by omega)

/-- the keys of Join -/
def joinK (a b : List Int) : List Int := a.map fun x => ((rtK a b a.length x.toNat : Nat) : Int)
def joinR (a b : List Int) : List Int := divL (joinK a b)
def joinL (a b : List Int) : List Int := if bothE a b = 0 then joinR a b else []

theorem chkG_bound : ∀ (l : List Int) (x : Nat), chkG x l = 0 → ∀ k, k < l.length → 0 ≤ l.getD k 0 ∧ l.getD k 0 ≤ x + k
  | [], _, _, k, hk => by simp at hk
  | r :: l, x, h, k, hk => by
    rw [chkG] at h
    split at h
    · omega
    · split at h
      · omega
      · split at h
        · have ih := chkG_bound l (x + 1) h
          cases k with
          | zero => simp; omega
          | succ k => have := ih k (by simpa using hk); simp only [List.getD_cons_succ]; omega
        · have ih := chkG_bound l x h
          cases k with
          | zero => simp; omega
          | succ k => have := ih k (by simpa using hk); simp only [List.getD_cons_succ]; omega
theorem chkL_bound {l : List Int} (h : chkL l = 0) (k : Nat) (hk : k < l.length) : 0 ≤ l.getD k 0 ∧ l.getD k 0 ≤ k := by
  unfold chkL at h
  split at h
  · omega
  · have := chkG_bound l 0 h k hk; omega
end Store11
