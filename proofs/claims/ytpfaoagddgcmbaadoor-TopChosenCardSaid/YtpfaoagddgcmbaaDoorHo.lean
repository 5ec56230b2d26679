/- TopHome: plain facts. -/
import Derived.Test.YtpfaoagddgcmbaaDoorBa
import Derived.Test.YtpfaoagddgcmbaaDoorPu
import Derived.Test.YtpfaoagddgcmbaaDoorPl
import Derived.Test.YtpfaoagddgcmbaaDoorPt
namespace Home06
open Bench06
set_option maxRecDepth 100000
def homN (n k m i : Nat) : List Nat := (List.range i).filter fun r : Nat => decide (whenG (k : Int) n (r : Int) 0 < (m : Int))
def homK (n k m i : Nat) : List Int := (homN n k m i).map fun r : Nat => (r : Int)
def hom (n k m : Nat) : List Int := homK n k m n
theorem homK_next (n k m i : Nat) : homK n k m (i + 1) = homK n k m i ++ (if whenG (k : Int) n (i : Int) 0 < (m : Int) then [(i : Int)] else []) := by
  simp only [homK, homN, List.range_succ, List.filter_append, List.map_append]
  congr 1
  by_cases h : whenG (k : Int) n (i : Int) 0 < (m : Int) <;> simp [h]
theorem homK_le (n k m i : Nat) : (homK n k m i).length ≤ i := by
  rw [homK, List.length_map, homN]
  exact Nat.le_trans (List.length_filter_le _ _) (by simp)
theorem hom_pair (n k m : Nat) : (hom n k m).Pairwise (· < ·) := by
  rw [hom, homK, List.pairwise_map]
  have : (homN n k m n).Pairwise (· < ·) := List.Pairwise.filter _ List.pairwise_lt_range
  exact this.imp (fun h => by omega)
theorem hom_rng {n k m : Nat} {x : Int} (h : x ∈ hom n k m) : 0 ≤ x ∧ x ≤ (n : Int) - 1 := by
  obtain ⟨r, hr, rfl⟩ := List.mem_map.1 h
  have := List.mem_range.1 (List.mem_filter.1 hr).1
  omega
theorem hom_nd (n k m : Nat) : (hom n k m).Nodup := (hom_pair n k m).imp (fun h => by omega)
theorem ord_len (n k : Nat) : (ordL n k).length = n := ordG_length k n _
theorem idx_take : ∀ (l : List Int) (x : Int) (m : Nat), x ∈ l → (idxI l x < (m : Int) ↔ x ∈ l.take m) := by
  intro l
  induction l with
  | nil => intro x m h; simp at h
  | cons y l ih =>
    intro x m hx
    by_cases e : x = y
    · subst e
      cases m with
      | zero => simp [idxI]
      | succ m => simp [idxI]
    · have hxl : x ∈ l := by
        rcases List.mem_cons.1 hx with h | h
        · exact absurd h e
        · exact h
      have h0 := (idxI_mem l x hxl).1
      have e1 : idxI (y :: l) x = idxI l x + 1 := by
        rw [idxI, if_neg e, if_neg (by omega)]
      cases m with
      | zero => simp [e1]; omega
      | succ m =>
        have := ih x m hxl
        rw [e1, List.take_succ_cons, List.mem_cons]
        constructor
        · intro h; exact .inr (this.1 (by omega))
        · rintro (h | h)
          · exact absurd h e
          · have := this.2 h; omega
theorem sub_len : ∀ (l l' : List Int), l.Nodup → (∀ x ∈ l, x ∈ l') → l.length ≤ l'.length
  | [], _, _, _ => Nat.zero_le _
  | x :: l, l', hn, hs => by
    have h1 := List.nodup_cons.1 hn
    have h2 := sub_len l (l'.erase x) h1.2 (fun y hy => by
      have hne : y ≠ x := fun e => h1.1 (e ▸ hy)
      exact (List.mem_erase_of_ne hne).2 (hs y (by simp [hy])))
    have h3 := List.length_erase_of_mem (hs x (by simp))
    have h4 : 0 < l'.length := List.length_pos_of_mem (hs x (by simp))
    simp only [List.length_cons]
    omega
theorem fnd_spec (p : Nat → Bool) : ∀ K, (fnd p K ≠ 0 → p (fnd p K) = true) ∧ ∀ k, 1 ≤ k → k ≤ K → p k = true → fnd p K ≠ 0 ∧ fnd p K ≤ k
  | 0 => ⟨fun h => absurd rfl h, fun k h1 h2 _ => by omega⟩
  | K + 1 => by
    obtain ⟨h1, h2⟩ := fnd_spec p K
    by_cases h0 : fnd p K = 0
    · by_cases hp : p (K + 1) = true
      · rw [fnd_hit p K h0 hp]
        refine ⟨fun _ => hp, fun k a b c => ⟨by omega, ?_⟩⟩
        by_cases e : k ≤ K
        · exact absurd h0 (h2 k a e c).1
        · omega
      · have hp : p (K + 1) = false := by simpa using hp
        rw [fnd_miss p K h0 hp]
        refine ⟨fun h => absurd rfl h, fun k a b c => ?_⟩
        by_cases e : k ≤ K
        · exact absurd h0 (h2 k a e c).1
        · obtain rfl : k = K + 1 := by omega
          rw [hp] at c; cases c
    · rw [fnd_keep p K h0]
      refine ⟨h1, fun k a b c => ?_⟩
      by_cases e : k ≤ K
      · exact h2 k a e c
      · exact ⟨h0, by have := fnd_le p K; omega⟩
theorem ord_mem {n k : Nat} (r : Nat) (h : r < n) : (r : Int) ∈ ordL n k := by
  rcases Decidable.em ((r : Int) ∈ ordL n k) with hm | hm
  · exact hm
  · exfalso
    have := sub_len ((r : Int) :: ordL n k) (rng n) (List.nodup_cons.2 ⟨hm, ordL_nodup n k⟩) (fun x hx => by
      rcases List.mem_cons.1 hx with rfl | hx
      · exact (mem_rng n _).2 (by omega)
      · exact ordL_mem n k x hx)
    rw [List.length_cons, ord_len, rng_length] at this
    omega
theorem hom_mem {n k m : Nat} (hk : 1 ≤ k) (x : Int) : x ∈ hom n k m ↔ x ∈ (ordL n k).take m := by
  constructor
  · intro h
    obtain ⟨r, hr, rfl⟩ := List.mem_map.1 h
    obtain ⟨h1, h2⟩ := List.mem_filter.1 hr
    have h1 := List.mem_range.1 h1
    rw [when_eq n k r hk h1] at h2
    exact (idx_take _ _ m (ord_mem r h1)).1 (by simpa using h2)
  · intro h
    have hx : x ∈ ordL n k := List.mem_of_mem_take h
    have hr := (mem_rng n x).1 (ordL_mem n k x hx)
    obtain ⟨r, rfl⟩ : ∃ r : Nat, x = (r : Int) := ⟨x.toNat, by omega⟩
    refine List.mem_map.2 ⟨r, List.mem_filter.2 ⟨List.mem_range.2 (by omega), ?_⟩, rfl⟩
    rw [when_eq n k r hk (by omega)]
    simpa using (idx_take _ _ m hx).2 h
theorem take_nd (n k m : Nat) : ((ordL n k).take m).Nodup := (List.take_sublist m _).nodup (ordL_nodup n k)
theorem hom_len {n k m : Nat} (hk : 1 ≤ k) (hm : m ≤ n) : (hom n k m).length = m := by
  have h1 := sub_len (hom n k m) ((ordL n k).take m) (hom_nd n k m) (fun x hx => (hom_mem hk x).1 hx)
  have h2 := sub_len ((ordL n k).take m) (hom n k m) (take_nd n k m) (fun x hx => (hom_mem hk x).2 hx)
  rw [List.length_take, ord_len] at h1 h2
  omega
theorem hom_ok (n k m : Nat) : homeL n (hom n k m) = 0 := homeG_zero n _ _ (fun x hx => hom_rng hx) (fun x hx => by have := hom_rng hx; omega) (hom_pair n k m)
theorem hom_eq {n k c m : Nat} (hk : 1 ≤ k) (hc : 1 ≤ c) (hm : m ≤ n) (h : ∀ x ∈ hom n c m, x ∈ hom n k m) : hom n c m = hom n k m := by
  have hb : ∀ x ∈ hom n k m, x ∈ hom n c m := fun x hx => by
    rcases Decidable.em (x ∈ hom n c m) with h1 | h1
    · exact h1
    · exfalso
      have := sub_len (x :: hom n c m) (hom n k m) (List.nodup_cons.2 ⟨h1, hom_nd n c m⟩) (fun y hy => by
        rcases List.mem_cons.1 hy with rfl | hy
        · exact hx
        · exact h y hy)
      rw [List.length_cons, hom_len hc hm, hom_len hk hm] at this
      omega
  have key : homN n c m n = homN n k m n := by
    apply List.filter_congr
    intro r hr
    have hr := List.mem_range.1 hr
    have e : ((r : Int) ∈ hom n c m) ↔ ((r : Int) ∈ hom n k m) := ⟨h _, hb _⟩
    have f : ∀ q, ((r : Int) ∈ hom n q m) ↔ decide (whenG (q : Int) n (r : Int) 0 < (m : Int)) = true := fun q => by
      constructor
      · intro h1
        obtain ⟨r2, hr2, e2⟩ := List.mem_map.1 h1
        obtain rfl : r2 = r := by omega
        exact (List.mem_filter.1 hr2).2
      · intro h1
        exact List.mem_map.2 ⟨r, List.mem_filter.2 ⟨List.mem_range.2 hr, h1⟩, rfl⟩
    rw [f, f] at e
    exact Bool.eq_iff_iff.2 e
  rw [hom, hom, homK, homK, key]
theorem hom_first {n k m : Nat} (hk : 1 ≤ k) (h1000 : k ≤ 1000) (hm : m ≤ n) : ∃ c : Nat, tryL (firstP n (hom n k m)) = ((c : Int), 0) ∧ 1 ≤ c ∧ c ≤ k ∧ hom n c m = hom n k m := by
  have hl := hom_len (n := n) hk hm
  have hP : ∀ c, firstP n (hom n k m) c = ((ordL n c).take m).all fun x => decide (x ∈ hom n k m) := fun c => by
    rw [firstP_all n c _ (by omega), hl]
  have hpk : firstP n (hom n k m) k = true := by
    rw [hP, List.all_eq_true]
    intro x hx
    exact decide_eq_true ((hom_mem hk x).2 hx)
  obtain ⟨s1, s2⟩ := fnd_spec (firstP n (hom n k m)) 1000
  obtain ⟨s3, s4⟩ := s2 k hk h1000 hpk
  refine ⟨fnd (firstP n (hom n k m)) 1000, by rw [tryL_fnd, if_neg s3], by omega, s4, hom_eq hk (by omega) hm (fun x hx => ?_)⟩
  have hp := s1 s3
  rw [hP, List.all_eq_true] at hp
  exact of_decide_eq_true (hp x ((hom_mem (by omega) x).1 hx))
theorem hom_more {n k m : Nat} (hk : 1 ≤ k) (hm : m < n) (x : Int) (hx : x ∈ hom n k (m + 1)) : x ∈ hom n k m ↔ ¬ x = whoG (k : Int) (n - m) m := by
  rw [hom_mem hk] at hx ⊢
  rw [who_eq n k m hk hm]
  have hnd := take_nd n k (m + 1)
  rw [take_succ_getD _ _ (by rw [ord_len]; exact hm)] at hx hnd
  rw [List.nodup_append] at hnd
  constructor
  · intro h e
    exact hnd.2.2 x h _ (by simp) e
  · intro h
    rcases List.mem_append.1 hx with h1 | h1
    · exact h1
    · exact absurd (by simpa using h1) h
end Home06
