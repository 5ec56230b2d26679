/- Plain functions: gaps of gaps; what two flat divisions have in common. -/
import Derived.Test.YtjedmiegcbdedaaPu
namespace Store11
theorem first_of (P : Nat → Prop) : ∀ x, P x → ∃ lo, lo ≤ x ∧ P lo ∧ ∀ y, y < lo → ¬ P y := by
  intro x
  induction x using Nat.strongRecOn with
  | _ x ih =>
    intro hx
    by_cases h : ∃ y, y < x ∧ P y
    · obtain ⟨y, h1, h2⟩ := h
      obtain ⟨lo, h3, h4, h5⟩ := ih y h1 h2
      exact ⟨lo, by omega, h4, h5⟩
    · exact ⟨x, Nat.le_refl _, hx, fun y hy hp => h ⟨y, hy, hp⟩⟩
theorem last_of (P : Nat → Prop) (n : Nat) : ∀ s x, n - x ≤ s → x < n → P x → ∃ hi, x ≤ hi ∧ hi < n ∧ P hi ∧ ∀ y, hi < y → y < n → ¬ P y
  | 0, x, h, hx, _ => by omega
  | s + 1, x, h, hx, hp => by
    by_cases he : ∃ y, x < y ∧ y < n ∧ P y
    · obtain ⟨y, h1, h2, h3⟩ := he
      obtain ⟨hi, h4, h5, h6, h7⟩ := last_of P n s y (by omega) h2 h3
      exact ⟨hi, by omega, h5, h6, h7⟩
    · exact ⟨x, Nat.le_refl _, hx, hp, fun y h1 h2 h3 => he ⟨y, h1, h2, h3⟩⟩
theorem hull {l : List Int} (hf : NoC l) (x : Nat) (hx : x < l.length) : ∃ lo hi, lo ≤ x ∧ x ≤ hi ∧ hi < l.length ∧ l.getD lo 0 = l.getD x 0 ∧ l.getD hi 0 = l.getD x 0 ∧
    ∀ y z, y < l.length → z < l.length → l.getD y 0 = l.getD z 0 → lo ≤ y → y ≤ hi → lo ≤ z ∧ z ≤ hi := by
  obtain ⟨lo, h1, h2, h3⟩ := first_of (fun y => l.getD y 0 = l.getD x 0) x rfl
  obtain ⟨hi, h4, h5, h6, h7⟩ := last_of (fun y => l.getD y 0 = l.getD x 0) l.length (l.length - x) x (Nat.le_refl _) hx rfl
  refine ⟨lo, hi, h1, h4, h5, h2, h6, fun y z hy hz e h8 h9 => ?_⟩
  by_cases hc : l.getD y 0 = l.getD x 0
  · have hz2 : l.getD z 0 = l.getD x 0 := e.symm.trans hc
    exact ⟨Nat.le_of_not_lt fun hlt => h3 z hlt hz2, Nat.le_of_not_lt fun hlt => h7 z hlt hz hz2⟩
  · have hlo : lo ≠ y := fun e => hc (e ▸ h2)
    have hhi : hi ≠ y := fun e => hc (e ▸ h6)
    refine ⟨Nat.le_of_not_lt fun hlt => ?_, Nat.le_of_not_lt fun hlt => ?_⟩
    · exact hc (e.trans ((hf z lo y hi hlt (by omega) (by omega) h5 e.symm (h2.trans h6.symm)).trans h2))
    · exact hc ((hf lo y hi z (by omega) (by omega) hlt hz (h2.trans h6.symm) e).symm.trans h2)
theorem twice_iff {l : List Int} (h : chkL l = 0) (hf : NoC l) (i j : Nat) (hij : i < j) (hj : j < l.length) :
    (divL (gapK (divL (gapK l)))).getD i 0 = (divL (gapK (divL (gapK l)))).getD j 0 ↔ l.getD ((i + 1) % l.length) 0 = l.getD ((j + 1) % l.length) 0 := by
  obtain ⟨_, _, hgl, hgc⟩ := gapL_eq h hf
  rw [gap_iff hgc i j (by omega) (by omega), Nat.mod_eq_of_lt (show i + 1 < l.length by omega)]
  have gp : ∀ p q, p ≤ q → q < l.length → ((divL (gapK l)).getD p 0 = (divL (gapK l)).getD q 0 ↔ Tog l (p + 1) (q + 1)) := fun p q => gap_iff h p q
  have hJ : (j + 1 < l.length ∧ (j + 1) % l.length = j + 1) ∨ (j + 1 = l.length ∧ (j + 1) % l.length = 0) := by
    by_cases e : j + 1 < l.length
    · exact .inl ⟨e, Nat.mod_eq_of_lt e⟩
    · have : j + 1 = l.length := by omega
      exact .inr ⟨this, by rw [this, Nat.mod_self]⟩
  generalize hJJ : (j + 1) % l.length = J at *
  have hJl : J < l.length := by omega
  constructor
  · intro ht
    refine Decidable.byContradiction fun hne => ?_
    obtain ⟨lb, hb, b1, b2, b3, b4, b5, b6⟩ := hull hf J hJl
    by_cases hin : lb ≤ i + 1 ∧ i + 1 ≤ hb
    · obtain ⟨la, ha, a1, a2, a3, a4, a5, a6⟩ := hull hf (i + 1) (by omega)
      have hla := b6 (i + 1) la (by omega) (by omega) a4.symm hin.1 hin.2
      have hJn : ¬ (la ≤ J ∧ J ≤ ha) := fun hh => by
        have := (a6 J lb hJl (by omega) b4.symm hh.1 hh.2).1
        have : la = lb := by omega
        exact hne (a4.symm.trans (this ▸ b4))
      have hne2 : la ≠ lb := fun e => hne (a4.symm.trans (e ▸ b4))
      have hT : Tog l (la - 1 + 1) (ha + 1) := fun t t' ht ht' e h1 h2 => by
        have := a6 t t' ht ht' e (by omega) (by omega)
        omega
      have hg := (gp (la - 1) ha (by omega) a3).2 hT
      have := ht ha (la - 1) (by omega) (by omega) hg.symm (by omega) (by omega)
      omega
    · rcases hJ with ⟨e1, e2⟩ | ⟨e1, e2⟩
      · have hlo : i + 1 < lb := by omega
        have hT : Tog l (lb - 1 + 1) (hb + 1) := fun t t' ht ht' e h1 h2 => by
          have := b6 t t' ht ht' e (by omega) (by omega)
          omega
        have hg := (gp (lb - 1) hb (by omega) b3).2 hT
        have := ht (lb - 1) hb (by omega) (by omega) hg (by omega) (by omega)
        omega
      · have hT : Tog l (hb + 1) (j + 1) := fun t t' ht ht' e h1 h2 => by
          refine ⟨Nat.lt_of_not_le fun hle => ?_, by omega⟩
          have := b6 t' t ht' ht e.symm (by omega) (by omega)
          omega
        have hg := (gp hb j (by omega) hj).2 hT
        have := ht j hb (by omega) (by omega) hg.symm (by omega) (by omega)
        omega
  · intro e p q hp hq hpq h1 h2
    rw [hgl] at hp hq
    refine ⟨Nat.le_of_not_lt fun hlt => ?_, Nat.lt_of_not_le fun hle => ?_⟩
    · have := (gp q p (by omega) hp).1 hpq.symm (i + 1) J (by omega) hJl e (by omega) (by omega)
      omega
    · have := (gp p q (by omega) hq).1 hpq J (i + 1) hJl (by omega) e.symm (by omega) (by omega)
      omega
/-- the division of gaps is flat -/
theorem gap_flat {l : List Int} (h : chkL l = 0) (hf : NoC l) : NoC (divL (gapK l)) := by
  obtain ⟨_, _, hgl, hgc⟩ := gapL_eq h hf
  intro i j k m h1 h2 h3 h4 h5 h6
  rw [hgl] at h4
  have t1 := (gap_iff h i k (by omega) (by omega)).1 h5
  have t2 := (gap_iff h j m (by omega) (by omega)).1 h6
  refine (gap_iff h i j (by omega) (by omega)).2 fun t t' ht ht' e h7 h8 => ?_
  have a1 := t1 t t' ht ht' e (by omega) (by omega)
  refine ⟨by omega, Nat.lt_of_not_le fun hle => ?_⟩
  have a2 := t2 t' t ht' ht e.symm (by omega) (by omega)
  omega
/-- flat divisions: what they have in common is flat -/
theorem meet_flat {a b : List Int} (hab : bothE a b = 0) (ha : NoC a) (hb : NoC b) : NoC (meetR a b) ∧ (meetR a b).length = a.length ∧ chkL (meetR a b) = 0 ∧ ∀ i k, i < a.length → k < a.length → ((meetR a b).getD i 0 = (meetR a b).getD k 0 ↔ a.getD i 0 = a.getD k 0 ∧ b.getD i 0 = b.getD k 0) := by
  obtain ⟨h1, h2, h3⟩ := both_parts hab
  have hz := zip2_len a b h3
  have hlen : (meetR a b).length = a.length := by rw [meetR, divL_len _ [], hz]
  have hs := chkL_size h1
  have hiff : ∀ i k, i < a.length → k < a.length → ((meetR a b).getD i 0 = (meetR a b).getD k 0 ↔ a.getD i 0 = a.getD k 0 ∧ b.getD i 0 = b.getD k 0) := fun i k hi hk => by
    rw [meetR, divL_iff _ [] i k (by omega) (by omega), zip2_get a b i hi (by omega), zip2_get a b k hk (by omega)]
    simp
  refine ⟨fun i j k m h4 h5 h6 h7 h8 h9 => ?_, hlen, divL_chk _ (by omega) (by omega) (by rw [← meetR, hlen, hz]), hiff⟩
  rw [hlen] at h7
  have e1 := (hiff i k (by omega) (by omega)).1 h8
  have e2 := (hiff j m (by omega) (by omega)).1 h9
  exact (hiff i j (by omega) (by omega)).2 ⟨ha i j k m h4 h5 h6 h7 e1.1 e2.1, hb i j k m h4 h5 h6 (by omega) e1.2 e2.2⟩
theorem both_of {a b : List Int} (ha : chkL a = 0) (hb : chkL b = 0) (h : a.length = b.length) : bothE a b = 0 := by
  unfold bothE
  rw [if_neg (fun hn => hn ha), if_neg (fun hn => hn hb), if_neg (fun hn => hn h)]
end Store11
