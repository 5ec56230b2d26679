/- Plain facts of chapter 9: stores mirrored, turned round, with rows as columns. -/
import Derived.Test.YtbhjphcomppjgaaDoorPp
namespace Beetle09
set_option maxRecDepth 100000
/-- Where a bale goes. -/
def trn (k R C n : Nat) : Nat := if k = 0 then (n / C) * C + C - 1 - n % C else if k = 1 then (R - 1 - n / C) * C + C - 1 - n % C else (n % C) * R + n / C
def trR (k R C : Nat) : Nat := if k = 2 then C else R
def trC (k R C : Nat) : Nat := if k = 2 then R else C
theorem trn_d : ∀ k, k < 3 → ∀ R, R < 5 → ∀ C, C < 5 → ∀ n, n < (R + 1) * (C + 1) → trn k (R + 1) (C + 1) n < (R + 1) * (C + 1) ∧ (nb (trR k (R + 1) (C + 1)) (trC k (R + 1) (C + 1)) (trn k (R + 1) (C + 1) n)).isPerm ((nb (R + 1) (C + 1) n).map (trn k (R + 1) (C + 1))) = true := by decide +kernel
theorem trn_perm_d : ∀ k, k < 3 → ∀ R, R < 5 → ∀ C, C < 5 → ((List.range ((R + 1) * (C + 1))).map (trn k (R + 1) (C + 1))).isPerm (List.range ((R + 1) * (C + 1))) = true := by decide +kernel
variable {k R C n : Nat}
theorem trn_lt (hk : k < 3) (hs : Sd R C) (hn : n < R * C) : trn k R C n < R * C :=
  (sd_cases (p := fun R C => ∀ n, n < R * C → trn k R C n < R * C ∧ (nb (trR k R C) (trC k R C) (trn k R C n)).isPerm ((nb R C n).map (trn k R C)) = true) (trn_d k hk) hs n hn).1
theorem trn_nb (hk : k < 3) (hs : Sd R C) (hn : n < R * C) : (nb (trR k R C) (trC k R C) (trn k R C n)).Perm ((nb R C n).map (trn k R C)) :=
  List.isPerm_iff.1 (sd_cases (p := fun R C => ∀ n, n < R * C → trn k R C n < R * C ∧ (nb (trR k R C) (trC k R C) (trn k R C n)).isPerm ((nb R C n).map (trn k R C)) = true) (trn_d k hk) hs n hn).2
theorem trn_perm (hk : k < 3) (hs : Sd R C) : ((List.range (R * C)).map (trn k R C)).Perm (List.range (R * C)) :=
  List.isPerm_iff.1 (sd_cases (p := fun R C => ((List.range (R * C)).map (trn k R C)).isPerm (List.range (R * C)) = true) (trn_perm_d k hk) hs)
theorem tr_mul (k R C : Nat) : trR k R C * trC k R C = R * C := by
  unfold trR trC
  split
  · exact Nat.mul_comm _ _
  · rfl
theorem tr_sd (hs : Sd R C) : Sd (trR k R C) (trC k R C) := by
  obtain ⟨a, b, c, d⟩ := hs
  unfold trR trC
  split
  · exact ⟨c, d, a, b⟩
  · exact ⟨a, b, c, d⟩
theorem trn_inj (hk : k < 3) (hs : Sd R C) {m : Nat} (hn : n < R * C) (hm : m < R * C) (h : trn k R C n = trn k R C m) : n = m := by
  have hnd : ((List.range (R * C)).map (trn k R C)).Nodup := (trn_perm hk hs).nodup_iff.2 List.nodup_range
  have hp := List.pairwise_iff_getElem.1 hnd
  rcases Nat.lt_trichotomy n m with hlt | heq | hgt
  · exact absurd (by rw [List.getElem_map, List.getElem_map, List.getElem_range, List.getElem_range]; exact h) (hp n m (by simpa using hn) (by simpa using hm) hlt)
  · exact heq
  · exact absurd (by rw [List.getElem_map, List.getElem_map, List.getElem_range, List.getElem_range]; exact h.symm) (hp m n (by simpa using hm) (by simpa using hn) hgt)
/-- A set goes with the bales. -/
def TrS (k R C s s' : Nat) : Prop := ∀ n, n < R * C → s'.testBit (trn k R C n) = s.testBit n
variable {s s' z z' : Nat}
theorem TrS.cnt (hk : k < 3) (hs : Sd R C) (h : TrS k R C s s') (hn : n < R * C) : Beetle09.cnt (trR k R C) (trC k R C) s' (trn k R C n) = Beetle09.cnt R C s n := by
  unfold Beetle09.cnt
  rw [(trn_nb hk hs hn).countP_eq, List.countP_map]
  exact List.countP_congr fun m hm => by simp only [Function.comp, h m (nb_lt hs hn hm)]
theorem TrS.gets (hk : k < 3) (hs : Sd R C) (h : TrS k R C s s') (hz : TrS k R C z z') (hn : n < R * C) : Beetle09.gets (trR k R C) (trC k R C) z' s' (trn k R C n) = Beetle09.gets R C z s n := by
  unfold Beetle09.gets
  rw [h n hn, hz n hn, h.cnt hk hs hn]
theorem TrS.stp (hk : k < 3) (hs : Sd R C) (h : TrS k R C s s') (hz : TrS k R C z z') : TrS k R C (stp R C z s) (stp (trR k R C) (trC k R C) z' s') := fun n hn => by
  rw [stp_bit, stp_bit, h n hn, h.gets hk hs hz hn, tr_mul, decide_eq_true (trn_lt hk hs hn), decide_eq_true hn]
theorem TrS.itr (hk : k < 3) (hs : Sd R C) (h : TrS k R C s s') (hz : TrS k R C z z') : ∀ d, TrS k R C (itr R C z s d) (itr (trR k R C) (trC k R C) z' s' d)
  | 0 => h
  | d + 1 => TrS.stp hk hs (TrS.itr hk hs h hz d) hz
theorem TrS.cal (hk : k < 3) (hs : Sd R C) (h : TrS k R C s s') (hz : TrS k R C z z') (hn : n < R * C) : ∀ d, Beetle09.cal (trR k R C) (trC k R C) z' s' d (trn k R C n) = Beetle09.cal R C z s d n
  | 0 => by simp only [Beetle09.cal, h n hn]
  | d + 1 => by
    simp only [Beetle09.cal]
    rw [TrS.cal hk hs h hz hn d, (h.itr hk hs hz d).gets hk hs hz hn, tr_mul, decide_eq_true (trn_lt hk hs hn), decide_eq_true hn]
theorem TrS.fin (hk : k < 3) (hs : Sd R C) (h : TrS k R C s s') (hz : TrS k R C z z') : TrS k R C (fin R C z s) (fin (trR k R C) (trC k R C) z' s') := by
  unfold Beetle09.fin
  rw [tr_mul]
  exact h.itr hk hs hz _
theorem sm_sum (f : Nat → Int) : ∀ n, sm f n = ((List.range n).map f).sum
  | 0 => rfl
  | n + 1 => by rw [sm, sm_sum f n, List.range_succ, List.map_append, List.sum_append]; simp
theorem perm_sum {a b : List Int} (h : a.Perm b) : a.sum = b.sum := by
  induction h with
  | nil => rfl
  | cons x _ ih => simp [ih]
  | swap x y l => simp; omega
  | trans _ _ h1 h2 => exact h1.trans h2
theorem TrS.outl (hk : k < 3) (hs : Sd R C) (h : TrS k R C s s') : Beetle09.outl (trR k R C) (trC k R C) s' = Beetle09.outl R C s := by
  unfold Beetle09.outl
  rw [tr_mul, sm_sum, ← perm_sum ((trn_perm hk hs).map _), List.map_map, ← sm_sum]
  refine sm_congr _ fun n hn => ?_
  simp only [Function.comp, h n hn, h.cnt hk hs hn]
theorem TrS.of (hk : k < 3) (hs : Sd R C) {l l' : List Nat} (hl : ∀ i ∈ l, i < R * C) (he : setL l' = setL (l.map (trn k R C))) : TrS k R C (setL l) (setL l') := fun n hn => by
  rw [he, setL_bit, setL_bit]
  refine decide_eq_decide.2 ?_
  rw [List.mem_map]
  exact ⟨fun ⟨m, h1, h2⟩ => by rw [← trn_inj hk hs (hl m h1) hn h2]; exact h1, fun h => ⟨n, h, rfl⟩⟩
theorem Gd.trn (hk : k < 3) (hs : Sd R C) {l : List Nat} (h : Gd (R * C) l) : Gd (R * C) (l.map (trn k R C)) := by
  refine ⟨fun i hi => ?_, ?_⟩
  · obtain ⟨m, h1, rfl⟩ := List.mem_map.1 hi
    exact trn_lt hk hs (h.lt m h1)
  · unfold List.Nodup
    rw [List.pairwise_map]
    exact List.Pairwise.imp_of_mem (fun ha hb hne e => hne (trn_inj hk hs (h.lt _ ha) (h.lt _ hb) e)) h.nd
/-- What a store that is turned returns. -/
theorem turned (hk : k < 3) (hs : Sd R C) (h1 : s < 2 ^ (R * C)) (h2 : z < 2 ^ (R * C)) (hd : ∀ i, z.testBit i = true → s.testBit i = false) {l m : List Nat} (hl : l = ((els 25 s).reverse.map (trn k R C)).reverse) (hm : m = (els 25 z).map (trn k R C)) :
    openE (trR k R C : Int) (trC k R C : Int) (li l) (li m) = 0 ∧ (daysE (trR k R C : Int) (trC k R C : Int) (li l) (li m)).length = R * C ∧ (∀ n, n < R * C → (daysE (trR k R C : Int) (trC k R C : Int) (li l) (li m)).getD (trn k R C n) 0 = (daysL R C z s).getD n 0) ∧
    out1E (trR k R C : Int) (trC k R C : Int) (li l) (li m) = outl R C s ∧ out2E (trR k R C : Int) (trC k R C : Int) (li l) (li m) = outl R C (fin R C z s) := by
  have e1 := els_top h1 hs.n25
  have e2 := els_top h2 hs.n25
  rw [e1] at hl
  rw [e2] at hm
  have g1 : Gd (R * C) l := by rw [hl]; exact (Gd.trn hk hs (els_gd (R * C) s).rev).rev
  have g2 : Gd (R * C) m := by rw [hm]; exact Gd.trn hk hs (els_gd (R * C) z)
  have hdj : ∀ i ∈ m, i ∉ l := fun i hi hi2 => by
    rw [hm] at hi
    rw [hl, List.mem_reverse] at hi2
    obtain ⟨a, ha, rfl⟩ := List.mem_map.1 hi
    obtain ⟨b, hb, e⟩ := List.mem_map.1 hi2
    have ha2 := mem_els.1 ha
    have hb2 := mem_els.1 (List.mem_reverse.1 hb)
    obtain rfl := trn_inj hk hs hb2.1 ha2.1 e
    rw [hd b ha2.2] at hb2
    exact absurd hb2.2 (by simp)
  have t1 : TrS k R C s (setL l) := by
    have := TrS.of hk hs (l := els (R * C) s) (l' := l) (fun i hi => (mem_els.1 hi).1) (by
      rw [hl, setL_rev, List.map_reverse, setL_rev])
    rwa [setL_els h1] at this
  have t2 : TrS k R C z (setL m) := by
    have := TrS.of hk hs (l := els (R * C) z) (l' := m) (fun i hi => (mem_els.1 hi).1) (by rw [hm])
    rwa [setL_els h2] at this
  have hsd := tr_sd (k := k) hs
  obtain ⟨ho, hop⟩ := open_mk (R := trR k R C) (C := trC k R C) (l := l) (m := m) hsd (by rw [tr_mul]; exact g1) (by rw [tr_mul]; exact g2) hdj
  refine ⟨ho, ?_, fun n hn => ?_, ?_, ?_⟩
  · rw [hop.days ho, daysL, List.length_map, List.length_range, tr_mul]
  · rw [hop.days ho, daysL, daysL, map_get, map_get, tr_mul, if_pos (trn_lt hk hs hn), if_pos hn, t1.cal hk hs t2 hn]
  · rw [hop.out1 ho, t1.outl hk hs]
  · rw [hop.out2 ho, (t1.fin hk hs t2).outl hk hs]
end Beetle09
