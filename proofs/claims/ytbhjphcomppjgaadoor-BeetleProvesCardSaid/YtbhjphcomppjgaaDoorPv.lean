/- Plain facts of chapter 9: blocks one behind the other. -/
import Derived.Test.YtbhjphcomppjgaaDoorPn
import Derived.Test.YtbhjphcomppjgaaDoorPs
namespace Beetle09
set_option maxRecDepth 100000
theorem low_of {R C s : Nat} (hsd : Sd R C) (h0 : s ≠ 0) (hs : s < 2 ^ (R * C)) : Go.Lib.ctz 32 s < R * C ∧ s.testBit (Go.Lib.ctz 32 s) = true ∧ ∀ i, s.testBit i = true → Go.Lib.ctz 32 s ≤ i := by
  obtain ⟨a, b, _, _⟩ := low_spec (s := s) (by omega) (Nat.lt_of_lt_of_le (lt25 hs hsd.n25) (by decide))
  refine ⟨bit_lt hs a, a, fun i hi => ?_⟩
  rcases Nat.lt_or_ge i (Go.Lib.ctz 32 s) with h | h
  · rw [b i h] at hi; cases hi
  · exact h
theorem blk_at {R C s : Nat} (hsd : Sd R C) (h0 : s ≠ 0) (hs : s < 2 ^ (R * C)) : Blk R C s (blkAt R C s (Go.Lib.ctz 32 s)).1 (blkAt R C s (Go.Lib.ctz 32 s)).2.1 (blkAt R C s (Go.Lib.ctz 32 s)).2.2.1 (blkAt R C s (Go.Lib.ctz 32 s)).2.2.2 := by
  obtain ⟨hn, hb, hmin⟩ := low_of hsd h0 hs
  obtain ⟨n, hnn⟩ : ∃ n, Go.Lib.ctz 32 s = n := ⟨_, rfl⟩
  rw [hnn] at hn hb hmin ⊢
  obtain ⟨r, c, hr, hc, rfl⟩ := rc_of hn
  unfold blkAt
  simp only [rc_div hc, rc_mod hc]
  have hR5 := hsd.r5
  have hC5 := hsd.c5
  obtain ⟨d1, d2, d3⟩ := ext_spec (dnP R C s c) 5 r
  obtain ⟨e1, e2, e3⟩ := ext_spec (rtP C s r) 5 c
  obtain ⟨x, hx⟩ : ∃ x, ext (dnP R C s c) 5 r = x := ⟨_, rfl⟩
  obtain ⟨y, hy⟩ : ∃ y, ext (rtP C s r) 5 c = y := ⟨_, rfl⟩
  rw [hx] at d1 d2 d3 ⊢
  rw [hy] at e1 e2 e3 ⊢
  have hxR : x < R := by
    by_cases h : r < x
    · have := d2 x h (Nat.le_refl _)
      unfold dnP at this
      rw [Bool.and_eq_true, decide_eq_true_eq] at this
      exact this.1
    · omega
  have hyC : y < C := by
    by_cases h : c < y
    · have := e2 y h (Nat.le_refl _)
      unfold rtP at this
      rw [Bool.and_eq_true, decide_eq_true_eq] at this
      exact this.1
    · omega
  refine ⟨⟨d1, hxR⟩, ⟨e1, hyC⟩, fun i j hi hj h => ?_, fun i h1 h2 => ?_, fun j h1 h2 => ?_, fun h => ?_, fun h => ?_⟩
  · have := hmin _ h
    rcases (rc_le hc hj).1 this with h | h
    · exact .inl h
    · exact .inr h
  · by_cases e : i = r
    · rw [e]; exact hb
    · have := d2 i (by omega) h2
      unfold dnP at this
      rw [Bool.and_eq_true] at this
      exact this.2
  · by_cases e : j = c
    · rw [e]; exact hb
    · have := e2 j (by omega) h2
      unfold rtP at this
      rw [Bool.and_eq_true] at this
      exact this.2
  · have := d3 (by omega)
    unfold dnP at this
    rw [decide_eq_true h, Bool.true_and] at this
    exact this
  · have := e3 (by omega)
    unfold rtP at this
    rw [decide_eq_true h, Bool.true_and] at this
    exact this
/-- The bales of a block, as a set. -/
def inB (C r c x y n : Nat) : Bool := decide (r ≤ n / C) && decide (n / C ≤ x) && (decide (c ≤ n % C) && decide (n % C ≤ y))
def recQ (R C r c x y rr cc : Nat) : Nat := ofP (fun n => inB C r c x y n && (decide (n / C < rr) || (decide (n / C = rr) && decide (n % C < cc)))) (R * C)
def recS (R C r c x y : Nat) : Nat := ofP (inB C r c x y) (R * C)
theorem recQ_lt (R C r c x y rr cc : Nat) : recQ R C r c x y rr cc < 2 ^ (R * C) := ofP_lt _ _
theorem recQ_start (R C r c x y : Nat) : recQ R C r c x y r c = 0 := Nat.eq_of_testBit_eq fun n => by
  unfold recQ inB
  rw [ofP_bit, Nat.zero_testBit, Bool.eq_false_iff]
  intro h
  simp at h
  omega
theorem recQ_end (R C r c x y : Nat) : recQ R C r c x y (x + 1) c = recS R C r c x y := Nat.eq_of_testBit_eq fun n => by
  unfold recQ recS inB
  rw [ofP_bit, ofP_bit]
  congr 1
  by_cases h : n / C ≤ x
  · have : n / C < x + 1 := by omega
    simp [h, this]
  · simp [h]
theorem recQ_row {R C r c x y rr : Nat} : recQ R C r c x y rr (y + 1) = recQ R C r c x y (rr + 1) c := Nat.eq_of_testBit_eq fun n => by
  unfold recQ inB
  rw [ofP_bit, ofP_bit]
  congr 1
  rw [Bool.eq_iff_iff]
  simp
  omega
theorem recQ_add {R C r c x y rr cc : Nat} (hr : r ≤ rr ∧ rr ≤ x ∧ x < R) (hc : c ≤ cc ∧ cc ≤ y ∧ y < C) : recQ R C r c x y rr cc ||| 2 ^ (rr * C + cc) = recQ R C r c x y rr (cc + 1) := Nat.eq_of_testBit_eq fun n => by
  have hlt : rr * C + cc < R * C := rc_lt (by omega) (by omega)
  rw [bit_ins]
  unfold recQ inB
  rw [ofP_bit, ofP_bit]
  by_cases hn : n < R * C
  · obtain ⟨i, j, hi, hj, rfl⟩ := rc_of hn
    rw [rc_div hj, rc_mod hj]
    by_cases e : rr * C + cc = i * C + j
    · obtain ⟨e1, e2⟩ := rc_inj (by omega) hj e
      subst e1 e2
      have h1 : r ≤ rr ∧ rr ≤ x ∧ c ≤ cc ∧ cc ≤ y := by omega
      simp [h1, hn]
    · have h2 : ¬ (i = rr ∧ j = cc) := fun ⟨h1, h2⟩ => e (by rw [h1, h2])
      rw [decide_eq_false e, Bool.or_false]
      congr 2
      rw [Bool.eq_iff_iff]; simp; omega
  · have : ¬ rr * C + cc = n := by omega
    simp [hn, this]
theorem recS_bit {R C s r c x y n : Nat} (h : Blk R C s r c x y) (hc : Cl R C 0 s) (hs : s < 2 ^ (R * C)) : (recS R C r c x y).testBit n = (s.testBit n && !(cutS R C s r c x y).testBit n) := by
  unfold recS cutS inB
  rw [ofP_bit, ofP_bit]
  by_cases hn : n < R * C
  · obtain ⟨i, j, hi, hj, rfl⟩ := rc_of hn
    rw [rc_div hj, rc_mod hj, decide_eq_true hn, Bool.true_and, Bool.true_and]
    by_cases hin : inR r c x y i j
    · have hb : s.testBit (i * C + j) = true := h.mem hc hin
      obtain ⟨a1, a2, a3, a4⟩ := hin
      simp [hb, a1, a2, a3, a4]
    · have : (decide (r ≤ i) && decide (i ≤ x) && (decide (c ≤ j) && decide (j ≤ y))) = false := by
        rw [Bool.eq_false_iff]
        intro hh
        simp at hh
        exact hin ⟨hh.1.1, hh.1.2, hh.2.1, hh.2.2⟩
      rw [this]
      cases s.testBit (i * C + j) <;> rfl
  · rw [decide_eq_false hn]
    cases hb : s.testBit n with
    | false => rfl
    | true => exact absurd (bit_lt hs hb) hn
/-- Neighbours in rows and columns. -/
theorem nb_near {R C n m : Nat} (hsd : Sd R C) (hn : n < R * C) (h : m ∈ nb R C n) : ∃ i j i' j', i < R ∧ j < C ∧ n = i * C + j ∧ i' < R ∧ j' < C ∧ m = i' * C + j' ∧ ((i' = i ∧ (j' = j + 1 ∨ j = j' + 1)) ∨ (j' = j ∧ (i' = i + 1 ∨ i = i' + 1))) := by
  obtain ⟨i, j, hi, hj, rfl⟩ := rc_of hn
  rw [nb_rc hj] at h
  simp only [List.mem_append] at h
  rcases h with h | h | h | h
  · split at h
    · simp at h; exact ⟨i, j, i - 1, j, hi, hj, rfl, by omega, hj, h, .inr ⟨rfl, .inr (by omega)⟩⟩
    · simp at h
  · split at h
    · simp at h; exact ⟨i, j, i, j - 1, hi, hj, rfl, hi, by omega, h, .inl ⟨rfl, .inr (by omega)⟩⟩
    · simp at h
  · split at h
    · simp at h; exact ⟨i, j, i, j + 1, hi, hj, rfl, hi, by assumption, h, .inl ⟨rfl, .inl rfl⟩⟩
    · simp at h
  · split at h
    · simp at h; exact ⟨i, j, i + 1, j, hi, hj, rfl, by assumption, hj, h, .inr ⟨rfl, .inl rfl⟩⟩
    · simp at h
theorem cnt_zero {R C s n : Nat} : cnt R C s n = 0 ↔ ∀ m ∈ nb R C n, s.testBit m = false := by
  unfold cnt
  rw [List.countP_eq_zero]
  exact ⟨fun h m hm => by simpa using h m hm, fun h m hm => by simpa using h m hm⟩
/-- What is known while blocks are met. -/
structure BkI (R C s0 : Nat) (A : List Q4) (i cur met : Nat) : Prop where
  lt : cur < 2 ^ (R * C)
  sub : Sub cur s0
  cl : Cl R C 0 cur
  dr : ∃ f, pcN 25 cur < f ∧ A.drop i = blksF R C f cur
  mt : ∀ n, met.testBit n = (s0.testBit n && !cur.testBit n)
  ap : ∀ n, n < R * C → cur.testBit n = true → cnt R C met n = 0
  pv : ∀ j, j + 1 = i → (A.getD j (0, 0, 0, 0)).2.1 < C ∧ ∀ n, cur.testBit n = true → (A.getD j (0, 0, 0, 0)).1 * C + (A.getD j (0, 0, 0, 0)).2.1 < n
theorem BkI.start {R C s0 : Nat} (h : s0 < 2 ^ (R * C)) (hc : Cl R C 0 s0) : BkI R C s0 (blksF R C 26 s0) 0 s0 0 where
  lt := h
  sub := Sub.refl _
  cl := hc
  dr := ⟨26, by have := pcN_le 25 s0; omega, by rw [List.drop_zero]⟩
  mt n := by rw [Nat.zero_testBit]; cases s0.testBit n <;> rfl
  ap n _ _ := cnt_zero.2 fun m _ => Nat.zero_testBit m
  pv j hj := by omega
theorem BkI.done {R C s0 i cur met : Nat} {A : List Q4} (h : BkI R C s0 A i cur met) (hi : A.length ≤ i) : cur = 0 := by
  obtain ⟨f, hf, hd⟩ := h.dr
  rw [List.drop_eq_nil_of_le hi] at hd
  by_cases h0 : cur = 0
  · exact h0
  · cases f with
    | zero => omega
    | succ f => rw [blksF_succ h0] at hd; cases hd
/-- A block more is met. -/
theorem BkI.step {R C s0 i cur met : Nat} {A : List Q4} (h : BkI R C s0 A i cur met) (hsd : Sd R C) (hi : i < A.length) :
    ∃ r c x y, A.getD i (0, 0, 0, 0) = (r, c, x, y) ∧ Blk R C cur r c x y ∧ (∀ j, j + 1 = i → (A.getD j (0, 0, 0, 0)).2.1 < C ∧ (A.getD j (0, 0, 0, 0)).1 * C + (A.getD j (0, 0, 0, 0)).2.1 < r * C + c) ∧
      (∀ n, (recS R C r c x y).testBit n = true → n < R * C ∧ met.testBit n = false ∧ cnt R C met n = 0) ∧ BkI R C s0 A (i + 1) (cutS R C cur r c x y) (met ||| recS R C r c x y) := by
  obtain ⟨f, hf, hd⟩ := h.dr
  have hcons : A.drop i = A.getD i (0, 0, 0, 0) :: A.drop (i + 1) := by
    rw [List.drop_eq_getElem_cons hi, show A.getD i (0, 0, 0, 0) = A[i] by simp [List.getD, hi]]
  have h0 : cur ≠ 0 := fun e => by rw [e, blksF_zero] at hd; rw [hd] at hcons; cases hcons
  cases f with
  | zero => omega
  | succ f =>
    rw [blksF_succ h0, hcons, List.cons.injEq] at hd
    obtain ⟨hb, hd2⟩ := hd
    have hB := blk_at hsd h0 h.lt
    obtain ⟨hn, hnb, hmin⟩ := low_of hsd h0 h.lt
    obtain ⟨n0, hn0⟩ : ∃ n, Go.Lib.ctz 32 cur = n := ⟨_, rfl⟩
    rw [hn0] at hb hd2 hB hn hnb hmin
    have hf1 : (blkAt R C cur n0).1 = n0 / C := rfl
    have hf2 : (blkAt R C cur n0).2.1 = n0 % C := rfl
    obtain ⟨r, c, x, y, hq⟩ : ∃ r c x y, blkAt R C cur n0 = (r, c, x, y) := ⟨_, _, _, _, rfl⟩
    rw [hq] at hb hd2 hB hf1 hf2
    simp only [] at hB hf1 hf2
    have hC0 : 0 < C := hsd.c1
    have hrc : r * C + c = n0 := by rw [hf1, hf2, Nat.mul_comm]; exact Nat.div_add_mod n0 C
    have hrb := fun n => recS_bit (n := n) hB h.cl h.lt
    refine ⟨r, c, x, y, hb, hB, fun j hj => ?_, fun n hn1 => ?_, ?_⟩
    · rw [hrc]; exact ⟨(h.pv j hj).1, (h.pv j hj).2 n0 hnb⟩
    · rw [hrb, Bool.and_eq_true] at hn1
      have hnN := bit_lt h.lt hn1.1
      refine ⟨hnN, ?_, h.ap n hnN hn1.1⟩
      rw [h.mt, hn1.1]; simp
    · refine ⟨cut_lt _ _ _ _ _ _ _, fun n hn1 => h.sub n (cut_sub n hn1), hB.cl h.cl, ⟨f, ?_, hd2⟩, fun n => ?_, fun n hnN hn1 => ?_, fun j hj => ?_⟩
      · have := cut_fewer (R := R) (C := C) (s := cur) (r := r) (c := c) (x := x) (y := y) (by rw [hrc]; exact hn) hsd.n25 (by have := hB.hy; omega) (by rw [hrc]; exact hnb) hB.hx.1 hB.hy.1
        omega
      · rw [Nat.testBit_or, h.mt, hrb]
        cases h1 : cur.testBit n with
        | false =>
          have : (cutS R C cur r c x y).testBit n = false := by
            cases h2 : (cutS R C cur r c x y).testBit n with
            | false => rfl
            | true => have := cut_sub n h2; rw [h1] at this; cases this
          rw [this]; simp
        | true =>
          rw [h.sub n h1]
          cases (cutS R C cur r c x y).testBit n <;> rfl
      · have hcn := cut_sub n hn1
        have h1 := cnt_zero.1 (h.ap n hnN hcn)
        rw [cnt_zero]
        intro m hm
        rw [Nat.testBit_or, h1 m hm, Bool.false_or]
        cases hb2 : (recS R C r c x y).testBit m with
        | false => rfl
        | true =>
          exfalso
          obtain ⟨i1, j1, i2, j2, a1, a2, rfl, a4, a5, rfl, a7⟩ := nb_near hsd hnN hm
          have hin : inR r c x y i2 j2 := by
            unfold recS inB at hb2
            rw [ofP_bit, rc_div a5, rc_mod a5] at hb2
            simp at hb2
            exact ⟨hb2.2.1.1, hb2.2.1.2, hb2.2.2.1, hb2.2.2.2⟩
          have := hB.apart h.cl hin a1 a2 hcn (by
            rcases a7 with ⟨e, f⟩ | ⟨e, f⟩
            · exact .inl ⟨e.symm, f.symm⟩
            · exact .inr ⟨e.symm, f.symm⟩)
          exact ((cut_at a1 a2).1 hn1).2 this
      · obtain rfl : j = i := by omega
        rw [hb]
        refine ⟨by have := hB.hy; simp only []; omega, fun n hn1 => ?_⟩
        have hne : n ≠ n0 := fun e => by
          rw [e, ← hrc] at hn1
          have hcC : c < C := by have := hB.hy; omega
          have hrR : r < R := by have := hB.hx; omega
          have := ((cut_at hrR hcC).1 hn1).2
          exact this ⟨Nat.le_refl _, hB.hx.1, Nat.le_refl _, hB.hy.1⟩
        have := hmin n (cut_sub n hn1)
        simp only []
        rw [hrc]
        omega
end Beetle09
