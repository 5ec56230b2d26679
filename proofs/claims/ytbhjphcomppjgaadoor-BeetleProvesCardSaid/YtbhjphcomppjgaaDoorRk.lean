/- Walks of chapter 9: the reference: bales that are safe by themselves. -/
import Derived.Test.YtbhjphcomppjgaaDoorRf
import Derived.Test.YtbhjphcomppjgaaDoorPk
import Derived.BigQuiet
import Derived.Test.YtbhjphcomppjgaaDoorWq
import Derived.Test.YtbhjphcomppjgaaDoorPv
import Derived.Test.YtbhjphcomppjgaaDoorPp
namespace Beetle09
set_option maxRecDepth 100000
variable {R C s0 i cur met r c x y : Nat} {A : List Q4}
theorem inB_iff {a b : Nat} (hb : b < C) : inB C r c x y (a * C + b) = true ↔ inR r c x y a b := by
  unfold inB inR
  rw [rc_div hb, rc_mod hb]
  simp
  omega
theorem getD_at {l : List Nat} {q : Nat} (h : q < l.length) : l.getD q 0 = l[q] := by simp [List.getD, h]
theorem els_at {N s p : Nat} (hp : p < (els N s).length) : (els N s).getD p 0 < N ∧ s.testBit ((els N s).getD p 0) = true := by
  have := List.getElem_mem hp
  rw [mem_els] at this
  rwa [show (els N s).getD p 0 = (els N s)[p] by simp [List.getD, hp]]
/-- What is known while a block is searched. -/
structure BfS (R C s0 n0 r c x y : Nat) (l : List Nat) (k j : Nat) : Prop where
  gd : Gd (R * C) l
  mem : ∀ m ∈ l, inB C r c x y m = true
  n0 : n0 ∈ l
  old : ∀ t, t < k → ∀ m ∈ nb R C (l.getD t 0), s0.testBit m = true → m ∈ l
  now : ∀ t, t < j → s0.testBit ((nb R C (l.getD k 0)).getD t 0) = true → (nb R C (l.getD k 0)).getD t 0 ∈ l
variable {n0 k j : Nat} {l : List Nat}
theorem Gd.len {N : Nat} {l : List Nat} (h : Gd N l) : l.length ≤ N := by
  have := h.rd.len_le
  rwa [li_len] at this
theorem BfS.start (hn : n0 < R * C) (hb : inB C r c x y n0 = true) : BfS R C s0 n0 r c x y [n0] 0 0 where
  gd := ⟨fun i hi => by rw [List.mem_singleton.1 hi]; exact hn, by simp⟩
  mem m hm := by rw [List.mem_singleton.1 hm]; exact hb
  n0 := by simp
  old t ht := by omega
  now t ht := by omega
theorem app_get {l : List Nat} {v t : Nat} (ht : t < l.length) : (l ++ [v]).getD t 0 = l.getD t 0 := by
  simp [List.getD, List.getElem?_append_left ht]
theorem BfS.skip (h : BfS R C s0 n0 r c x y l k j) (hs : s0.testBit ((nb R C (l.getD k 0)).getD j 0) = true → (nb R C (l.getD k 0)).getD j 0 ∈ l) : BfS R C s0 n0 r c x y l k (j + 1) := by
  refine ⟨h.gd, h.mem, h.n0, h.old, fun t ht hb => ?_⟩
  by_cases e : t = j
  · rw [e] at hb ⊢; exact hs hb
  · exact h.now t (by omega) hb
theorem BfS.next (h : BfS R C s0 n0 r c x y l k j) (hj : (nb R C (l.getD k 0)).length ≤ j) : BfS R C s0 n0 r c x y l (k + 1) 0 := by
  refine ⟨h.gd, h.mem, h.n0, fun t ht m hm hb => ?_, fun t ht => by omega⟩
  by_cases e : t = k
  · rw [e] at hm
    obtain ⟨q, hq, rfl⟩ := List.mem_iff_getElem.1 hm
    have := h.now q (by omega)
    rw [getD_at hq] at this
    exact this hb
  · exact h.old t (by omega) m hm hb
/-- Neighbours of a block's bales. -/
theorem near_in (hK : BkI R C s0 A i cur met) (hsd : Sd R C) (hB : Blk R C cur r c x y) {m v : Nat} (hm : m < R * C) (hi : inB C r c x y m = true) (hv : v ∈ nb R C m) (hs : s0.testBit v = true) : inB C r c x y v = true := by
  obtain ⟨i1, j1, i2, j2, a1, a2, rfl, a4, a5, rfl, a7⟩ := nb_near hsd hm hv
  have h1 := (inB_iff a2).1 hi
  have hc : cur.testBit (i1 * C + j1) = true := hB.mem hK.cl h1
  have h2 := cnt_zero.1 (hK.ap _ hm hc) _ hv
  rw [hK.mt, hs, Bool.true_and] at h2
  exact (inB_iff a5).2 (hB.apart hK.cl h1 a4 a5 (by unfold at'; simpa using h2) a7)
theorem BfS.add (h : BfS R C s0 n0 r c x y l k j) (hK : BkI R C s0 A i cur met) (hsd : Sd R C) (hB : Blk R C cur r c x y) (hk : k < l.length) (hj : j < (nb R C (l.getD k 0)).length)
    (hs : s0.testBit ((nb R C (l.getD k 0)).getD j 0) = true) (hn : (nb R C (l.getD k 0)).getD j 0 ∉ l) : BfS R C s0 n0 r c x y (l ++ [(nb R C (l.getD k 0)).getD j 0]) k (j + 1) := by
  have hkm : l.getD k 0 ∈ l := by rw [show l.getD k 0 = l[k] by simp [List.getD, hk]]; exact List.getElem_mem hk
  have hkN := h.gd.lt _ hkm
  have hvN := nb_get hsd hkN hj
  have hvm : (nb R C (l.getD k 0)).getD j 0 ∈ nb R C (l.getD k 0) := by rw [getD_at hj]; exact List.getElem_mem hj
  have hin := near_in hK hsd hB hkN (h.mem _ hkm) hvm hs
  obtain ⟨v, hv⟩ : ∃ v, (nb R C (l.getD k 0)).getD j 0 = v := ⟨_, rfl⟩
  rw [hv] at hs hn hvN hin ⊢
  refine ⟨⟨fun m hm => ?_, ?_⟩, fun m hm => ?_, List.mem_append_left _ h.n0, fun t ht m hm hb => ?_, fun t ht hb => ?_⟩
  · rcases List.mem_append.1 hm with hm | hm
    · exact h.gd.lt m hm
    · rw [List.mem_singleton.1 hm]; exact hvN
  · refine List.nodup_append.2 ⟨h.gd.nd, by simp, fun a ha b hb e => ?_⟩
    rw [List.mem_singleton.1 hb] at e
    exact hn (e ▸ ha)
  · rcases List.mem_append.1 hm with hm | hm
    · exact h.mem m hm
    · rw [List.mem_singleton.1 hm]; exact hin
  · rw [app_get (by omega)] at hm
    exact List.mem_append_left _ (h.old t ht m hm hb)
  · rw [app_get hk] at hb ⊢
    by_cases e : t = j
    · rw [e, hv]; exact List.mem_append_right _ (by simp)
    · exact List.mem_append_left _ (h.now t (by omega) hb)
theorem nb_right {a b : Nat} (hb : b + 1 < C) : a * C + (b + 1) ∈ nb R C (a * C + b) := by
  rw [nb_rc (by omega)]
  refine List.mem_append_right _ (List.mem_append_right _ (List.mem_append_left _ ?_))
  rw [if_pos hb]; simp
theorem nb_down {a b : Nat} (hb : b < C) (ha : a + 1 < R) : (a + 1) * C + b ∈ nb R C (a * C + b) := by
  rw [nb_rc hb]
  refine List.mem_append_right _ (List.mem_append_right _ (List.mem_append_right _ ?_))
  rw [if_pos ha]; simp
/-- The whole block is found. -/
theorem BfS.done (h : BfS R C s0 n0 r c x y l k j) (hK : BkI R C s0 A i cur met) (hB : Blk R C cur r c x y) (h0 : r * C + c = n0) (hk : l.length ≤ k) : ∀ m, m < R * C → (m ∈ l ↔ inB C r c x y m = true) := by
  have hx := hB.hx
  have hy := hB.hy
  have cl : ∀ a b, a ∈ l → b ∈ nb R C a → s0.testBit b = true → b ∈ l := fun a b ha hb hs => by
    obtain ⟨q, hq, rfl⟩ := List.mem_iff_getElem.1 ha
    refine h.old q (by omega) b ?_ hs
    rwa [show l.getD q 0 = l[q] by simp [List.getD, hq]]
  have bit : ∀ a b, inR r c x y a b → s0.testBit (a * C + b) = true := fun a b hin => hK.sub _ (hB.mem hK.cl hin)
  have row : ∀ b, c + b ≤ y → r * C + (c + b) ∈ l := fun b => by
    induction b with
    | zero => intro _; rw [Nat.add_zero, h0]; exact h.n0
    | succ b ih =>
      intro hb
      exact cl _ _ (ih (by omega)) (nb_right (by omega)) (bit _ _ ⟨Nat.le_refl _, hx.1, by omega, hb⟩)
  have all : ∀ a b, r + a ≤ x → c + b ≤ y → (r + a) * C + (c + b) ∈ l := fun a => by
    induction a with
    | zero => intro b _ hb; exact row b hb
    | succ a ih =>
      intro b ha hb
      exact cl _ _ (ih b (by omega) hb) (nb_down (by omega) (by omega)) (bit _ _ ⟨by omega, ha, by omega, hb⟩)
  intro m hm
  refine ⟨h.mem m, fun hin => ?_⟩
  obtain ⟨a, b, ha, hb, rfl⟩ := rc_of hm
  obtain ⟨h1, h2, h3, h4⟩ := (inB_iff hb).1 hin
  have := all (a - r) (b - c) (by omega) (by omega)
  rwa [show r + (a - r) = a by omega, show c + (b - c) = b by omega] at this
/-- The corners of some bales. -/
def bbK (C : Nat) (l : List Nat) : Nat → Q4
  | 0 => (5, 5, 0, 0)
  | k + 1 => (min (bbK C l k).1 (l.getD k 0 / C), min (bbK C l k).2.1 (l.getD k 0 % C), max (bbK C l k).2.2.1 (l.getD k 0 / C), max (bbK C l k).2.2.2 (l.getD k 0 % C))
theorem bbK_bd (hr : r ≤ 5) (hc : c ≤ 5) (hl : ∀ m ∈ l, inB C r c x y m = true) : ∀ k, k ≤ l.length → (r ≤ (bbK C l k).1 ∧ (bbK C l k).1 ≤ 5 ∧ c ≤ (bbK C l k).2.1 ∧ (bbK C l k).2.1 ≤ 5 ∧ (bbK C l k).2.2.1 ≤ x ∧ (bbK C l k).2.2.2 ≤ y) ∧
    ∀ t, t < k → (bbK C l k).1 ≤ l.getD t 0 / C ∧ (bbK C l k).2.1 ≤ l.getD t 0 % C ∧ l.getD t 0 / C ≤ (bbK C l k).2.2.1 ∧ l.getD t 0 % C ≤ (bbK C l k).2.2.2
  | 0, _ => by
    simp only [bbK]
    exact ⟨by omega, fun t ht => by omega⟩
  | k + 1, hk => by
    obtain ⟨ih1, ih2⟩ := bbK_bd hr hc hl k (by omega)
    have hm := hl (l.getD k 0) (by rw [show l.getD k 0 = l[k]'(by omega) by simp [List.getD, show k < l.length by omega]]; exact List.getElem_mem _)
    unfold inB at hm
    simp at hm
    simp only [bbK]
    refine ⟨by simp only [List.getD_eq_getElem?_getD]; omega, fun t ht => ?_⟩
    by_cases e : t = k
    · subst e; omega
    · have := ih2 t (by omega); omega
theorem bbK_fin (hB : Blk R C cur r c x y) (hsd : Sd R C) (hl : ∀ m, m < R * C → (m ∈ l ↔ inB C r c x y m = true)) (hlt : ∀ m ∈ l, m < R * C) : bbK C l l.length = (r, c, x, y) := by
  have hx := hB.hx
  have hy := hB.hy
  have hR := hsd.r5
  have hC := hsd.c5
  obtain ⟨h1, h2⟩ := bbK_bd (C := C) (l := l) (r := r) (c := c) (x := x) (y := y) (by omega) (by omega) (fun m hm => (hl m (hlt m hm)).1 hm) l.length (Nat.le_refl _)
  have at1 : ∀ a b, inR r c x y a b → ∃ t, t < l.length ∧ l.getD t 0 = a * C + b := fun a b hin => by
    have hlt : a * C + b < R * C := rc_lt (by have := hin.2.2.2; omega) (by have := hin.2.1; omega)
    have hm := (hl _ hlt).2 ((inB_iff (by have := hin.2.2.2; omega)).2 hin)
    obtain ⟨q, hq, e⟩ := List.mem_iff_getElem.1 hm
    exact ⟨q, hq, by simp [List.getD, hq, e]⟩
  obtain ⟨t1, ht1, e1⟩ := at1 r c ⟨Nat.le_refl _, hx.1, Nat.le_refl _, hy.1⟩
  obtain ⟨t2, ht2, e2⟩ := at1 x y ⟨hx.1, Nat.le_refl _, hy.1, Nat.le_refl _⟩
  have g1 := h2 t1 ht1
  have g2 := h2 t2 ht2
  rw [e1, rc_div (by omega), rc_mod (by omega)] at g1
  rw [e2, rc_div (by omega), rc_mod (by omega)] at g2
  obtain ⟨p, hp⟩ : ∃ p, bbK C l l.length = p := ⟨_, rfl⟩
  rw [hp] at h1 g1 g2 ⊢
  obtain ⟨p1, p2, p3, p4⟩ := p
  simp only [] at h1 g1 g2
  obtain rfl : p1 = r := by omega
  obtain rfl : p2 = c := by omega
  obtain rfl : p3 = x := by omega
  obtain rfl : p4 = y := by omega
  rfl
/-- What is known while blocks are searched. -/
structure RbS (R C s0 : Nat) (A : List Q4) (M : List Nat) (p i cur met : Nat) : Prop where
  bk : BkI R C s0 A i cur met
  seen : ∀ q, q < p → met.testBit ((els (R * C) s0).getD q 0) = true
  mm : Mm (R * C) (li M) met
  ile : i ≤ A.length
  ip : i ≤ p
  ml : M.length ≤ 25 * p
variable {M : List Nat} {p : Nat}
theorem RbS.start (h : s0 < 2 ^ (R * C)) (hc : Cl R C 0 s0) : RbS R C s0 (blksF R C 26 s0) [] 0 0 s0 0 where
  bk := BkI.start h hc
  seen q hq := by omega
  mm := ⟨Nat.two_pow_pos _, fun k _ => by simp [li]⟩
  ile := Nat.zero_le _
  ip := Nat.le_refl _
  ml := by simp
theorem RbS.skip (h : RbS R C s0 A M p i cur met) (hm : met.testBit ((els (R * C) s0).getD p 0) = true) : RbS R C s0 A M (p + 1) i cur met := by
  refine ⟨h.bk, fun q hq => ?_, h.mm, h.ile, by have := h.ip; omega, by have := h.ml; omega⟩
  by_cases e : q = p
  · rw [e]; exact hm
  · exact h.seen q (by omega)
theorem RbS.hit (h : RbS R C s0 A M p i cur met) (hsd : Sd R C) (hp : p < (els (R * C) s0).length) (hm : met.testBit ((els (R * C) s0).getD p 0) = false) :
    i < A.length ∧ ∃ r c x y, A.getD i (0, 0, 0, 0) = (r, c, x, y) ∧ Blk R C cur r c x y ∧ r * C + c = (els (R * C) s0).getD p 0 ∧ c < C ∧
      ∀ l, Gd (R * C) l → (∀ m, m < R * C → (m ∈ l ↔ inB C r c x y m = true)) → RbS R C s0 A (M ++ l) (p + 1) (i + 1) (cutS R C cur r c x y) (met ||| recS R C r c x y) := by
  obtain ⟨hpN, hpb⟩ := els_at hp
  have hpc : cur.testBit ((els (R * C) s0).getD p 0) = true := by
    have := h.bk.mt ((els (R * C) s0).getD p 0)
    rw [hm, hpb, Bool.true_and] at this
    simpa using this.symm
  have hi : i < A.length := Classical.byContradiction fun hh => by
    rw [h.bk.done (by omega), Nat.zero_testBit] at hpc; cases hpc
  obtain ⟨r, c, x, y, hA, hB, _, _, hK⟩ := h.bk.step hsd hi
  have hx := hB.hx
  have hy := hB.hy
  have hcC : c < C := by omega
  have hrc : r * C + c = (els (R * C) s0).getD p 0 := by
    have hrb : cur.testBit (r * C + c) = true := hB.down r (Nat.le_refl _) hx.1
    have hmem : r * C + c ∈ els (R * C) s0 := mem_els.2 ⟨rc_lt hcC (by omega), h.bk.sub _ hrb⟩
    obtain ⟨q, hq, e⟩ := List.mem_iff_getElem.1 hmem
    have e' : (els (R * C) s0).getD q 0 = r * C + c := by simp [List.getD, hq, e]
    have hqp : ¬ q < p := fun hlt => by
      have := h.seen q hlt
      rw [e', h.bk.mt, hrb] at this
      simp at this
    have hle : r * C + c ≤ (els (R * C) s0).getD p 0 := by
      obtain ⟨a, b, ha, hb, e2⟩ := rc_of hpN
      rw [e2] at hpc ⊢
      exact (rc_le hcC hb).2 (hB.first a b ha hb hpc)
    by_cases hqe : q = p
    · rw [← e', hqe]
    · have := List.pairwise_iff_getElem.1 (els_sorted (R * C) s0) p q hp hq (by omega)
      rw [e, show (els (R * C) s0)[p] = (els (R * C) s0).getD p 0 by simp [List.getD, hp]] at this
      omega
  refine ⟨hi, r, c, x, y, hA, hB, hrc, hcC, fun l hl hmem => ⟨hK, fun q hq => ?_, ⟨?_, fun m hmN => ?_⟩, hi, by have := h.ip; omega, ?_⟩⟩
  · rw [Nat.testBit_or]
    by_cases e : q = p
    · rw [e, ← hrc, show (recS R C r c x y).testBit (r * C + c) = true from ?_]
      · simp
      · unfold recS
        rw [ofP_bit, decide_eq_true (rc_lt hcC (by omega)), (inB_iff hcC).2 ⟨Nat.le_refl _, hx.1, Nat.le_refl _, hy.1⟩]; rfl
    · rw [h.seen q (by omega)]; rfl
  · exact Nat.or_lt_two_pow h.mm.lt (ofP_lt _ _)
  · rw [Nat.testBit_or, li_app, List.mem_append, mem_li (l := l), hmem m hmN, ← h.mm.mem m hmN]
    unfold recS
    rw [ofP_bit, decide_eq_true hmN]
    simp
  · rw [List.length_append]
    have := hl.len
    have := hsd.n25
    have := h.ml
    omega
theorem RbS.done (h : RbS R C s0 A M p i cur met) (hs : s0 < 2 ^ (R * C)) (hp : (els (R * C) s0).length ≤ p) : A.take i = A := by
  have h0 : cur = 0 := Nat.eq_of_testBit_eq fun n => by
    rw [Nat.zero_testBit]
    cases hb : cur.testBit n with
    | false => rfl
    | true =>
      have hn := bit_lt h.bk.lt hb
      obtain ⟨q, hq, e⟩ := List.mem_iff_getElem.1 (mem_els.2 ⟨hn, h.bk.sub n hb⟩)
      have := h.seen q (by omega)
      rw [show (els (R * C) s0).getD q 0 = n by simp [List.getD, hq, e], h.bk.mt, hb] at this
      simp at this
  obtain ⟨f, _, hd⟩ := h.bk.dr
  rw [h0, blksF_zero] at hd
  exact List.take_of_length_le (List.drop_eq_nil_iff.1 hd)
end Beetle09
namespace Go.Proofs.YtbhjphcomppjgaaDoor
open Go.RowKit Beetle09
variable {S F Z : List Int} {a b x : Option Addr} {n m k j nx cx : Nat} {w : World}
theorem at_isL {w : World} {bb oo n c i : Nat} {l : List Int} (h : IsL w (some ⟨bb, oo, none⟩) n c l) (hi : i < n) : w.cell? ⟨bb, oo + i, none⟩ = some (.int .i64 (l.getD i 0)) := by
  obtain ⟨b9, o9, e9, _, hc⟩ := h.cells (by omega)
  obtain ⟨rfl, rfl⟩ : b9 = bb ∧ o9 = oo := by simpa [eq_comm] using e9
  exact hc i hi
/-- A call that reads alone is quiet. -/
theorem rhas_q (a : Option Addr) (n c : Nat) (l : List Int) (x : Int) (w : World) (h : IsL w a n c l) (B : Bool) (hB : decide (x ∈ l) = B) (q : Nat) : Calls Tryd.prog 58 #[.slice a n c, .int .i64 x] (w.drewN q) fun e w' => e = .returned (.bool B) ∧ w' = w.drewN q :=
  (rhas_any a n c l x _ (h.drewN q) B hB).mono fun _ _ h => ⟨h.1, h.2.symm⟩
set_option maxHeartbeats 16000000 in
set_option maxRecDepth 100000 in
theorem safe_any (R C s z q : Nat) (hs : Sd R C) (h1 : Mm (R * C) S s) (h2 : Mm (R * C) F z) (h3 : Mm (R * C) Z q) (hr : ∀ v ∈ Z, 0 ≤ v ∧ v < ((R * C : Nat) : Int)) (hS : IsL w a n k S) (hF : IsL w b m j F) (hZ : IsL w x nx cx Z) :
    Calls Tryd.prog 63 #[stV R C a b n k m j, .slice x nx cx] w fun e w' => e = .returned (.bool (okB R C s z q)) ∧ Below w.heap.size w w' := by
  have hR5 := hs.r5
  have hC5 := hs.c5
  have HSD := Lib.hid hs
  have HMS := Lib.hid h1
  have HMF := Lib.hid h2
  have HMZ := Lib.hid h3
  have hlen := hZ.len
  have hcap := hZ.cap
  have hle := hZ.le
  have HAT : Hid (∀ i, i < nx → ∃ v : Nat, Z.getD i 0 = (v : Int) ∧ v < R * C ∧ q.testBit v = true) := Lib.hid fun i hi => by
    have hm := mem_getD Z i (by omega)
    obtain ⟨g1, g2⟩ := hr _ hm
    refine ⟨(Z.getD i 0).toNat, by omega, by omega, (h3.mem _ (by omega)).2 ?_⟩
    rwa [Int.toNat_of_nonneg g1]
  have HYES : Hid ((∀ i v, i < nx → Z.getD i 0 = ((v : Nat) : Int) → s.testBit v = false ∧ (z.testBit v = false → cnt R C (co R C q z) v ≤ 1)) → okB R C s z q = true) := Lib.hid fun h => by
    rw [okB_iff]
    intro v hv hq
    obtain ⟨i, hi, e⟩ := getD_of_mem ((h3.mem v hv).1 hq)
    exact h i v (by omega) e
  have HNO : Hid (∀ v, v < R * C → q.testBit v = true → ¬ (s.testBit v = false ∧ (z.testBit v = false → cnt R C (co R C q z) v ≤ 1)) → okB R C s z q = false) := Lib.hid fun v hv hq h => by
    cases hh : okB R C s z q with
    | false => rfl
    | true => exact absurd (okB_iff.1 hh v hv hq) h
  have HB0 := Lib.hid (BoxS.start w (bxL R C a b n k m j) 27)
  have HBES := Lib.hid (fun i w hi => beside_any R C a b n k m j i w hs.r5 hs.c5 hs.c1 hi)
  have HS := Lib.hid hS
  have HF := Lib.hid hF
  have HZ := Lib.hid hZ
  obtain ⟨OK, hOK⟩ : ∃ OK, okB R C s z q = OK := ⟨_, rfl⟩
  rw [hOK] at HYES HNO ⊢
  clear hs h1 h2 h3 hr hS hF hZ hlen hOK
  go_enter Tryd.func63, Tryd.ntmps63
  go_wp2_with fail
  go_loopw [5] (fun vi wr => ∃ i : Nat, i ≤ nx ∧ vi = .int .i64 (i : Int) ∧ Hid (∀ t v, t < i → Z.getD t 0 = ((v : Nat) : Int) → s.testBit v = false ∧ (z.testBit v = false → cnt R C (co R C q z) v ≤ 1)) ∧ Hid (BoxS w wr 27 (bxL R C a b n k m j))) (fun vi _ => nx - (intOf vi).toNat)
  case atStart => exact ⟨0, by omega, rfl, Lib.hid (fun t v ht => by omega), HB0⟩
  case round =>
    clear HB0
    obtain ⟨i, hi, rfl, hG, hBx⟩ := hrel
    by_cases hlt : i < nx
    · have q0 : (i : Int) < (nx : Int) := by omega
      obtain ⟨v, hv, hvN, hqv⟩ := HAT.out i hlt
      obtain ⟨bb, oo, rfl, _, hc⟩ := (HZ.out.below hBx.out.below).cells (by omega)
      have y1 := hc i hlt
      rw [hv] at y1
      have HV := Lib.hid hv
      have HQV := Lib.hid hqv
      have HVN := Lib.hid hvN
      have x0 := val hBx.out.box 0 rfl
      have x1 := val hBx.out.box 1 rfl
      have x2 := val hBx.out.box 2 rfl
      have x3 := val hBx.out.box 3 rfl
      have HCB := Lib.hid (HBES.out v wr.drew hvN)
      have hNBl := nb_len R C v
      have HNG : Hid (∀ t, t < (nb R C v).length → (nb R C v).getD t 0 < R * C) := Lib.hid fun t ht => nb_get HSD.out hvN ht
      have HKS : Hid (∀ t, t < (nb R C v).length → cntK R C (co R C q z) v (t + 1) = cntK R C (co R C q z) v t + if (co R C q z).testBit ((nb R C v).getD t 0) then 1 else 0) := Lib.hid fun t ht => cntK_succ ht
      have HKF := Lib.hid (cntK_fin R C (co R C q z) v)
      obtain ⟨L, hL⟩ : ∃ L, nb R C v = L := ⟨_, rfl⟩
      rw [hL] at HCB hNBl HNG HKS HKF
      obtain ⟨Q, hQ⟩ : ∃ Q, L.length = Q := ⟨_, rfl⟩
      rw [hQ] at HCB hNBl HNG HKS HKF
      clear hL hQ hc hv hvN hqv
      go_wp2_with fail
      go_still_tail 5, (by kernel_rfl)
      go_wp2_with fail
      refine HCB.out.mono ?_
      rintro e w5 ⟨xb, cb, rfl, hOL, b5⟩
      have b6 : Below wr.heap.size wr w5 := (Below.refl wr.heap.size wr).drew.trans b5
      have hcap2 := hOL.isL.cap
      have hle2 := hOL.isL.le
      have HT2 := Lib.hid (hBx.out.to b6)
      have HOL := Lib.hid hOL
      clear hOL b5 b6 hBx y1 x0 x1 x2 x3 HCB
      go_wp2_with fail
      go_loopw [8, 6] (fun vi vo wr => ∃ (t c : Nat), t ≤ Q ∧ vi = .int .i64 (t : Int) ∧ vo = .int .i64 (c : Int) ∧ c ≤ t ∧ Hid (c = cntK R C (co R C q z) v t) ∧ Hid (BoxS w wr 27 (bxL R C a b n k m j)) ∧ Below w5.heap.size w5 wr) (fun vi _ _ => Q - (intOf vi).toNat)
      case atStart => exact ⟨0, 0, by omega, rfl, rfl, by omega, Lib.hid (cntK_zero _ _ _ _).symm, HT2, Below.refl _ _⟩
      case round =>
        clear HT2
        obtain ⟨t, c, ht, rfl, rfl, hct, hK, hBx, hb⟩ := hrel
        by_cases htQ : t < Q
        · have q3 : (t : Int) < (Q : Int) := by omega
          have hO := HOL.out.below hb
          obtain ⟨gb, rfl⟩ := hO.addr (by omega)
          have y1 := (hO.gen.cell t 0 htQ).1
          rw [li_get] at y1
          have hkN := HNG.out t htQ
          have HK1 := Lib.hid (HKS.out t htQ)
          obtain ⟨kk, hkk⟩ : ∃ kk, L.getD t 0 = kk := ⟨_, rfl⟩
          rw [hkk] at y1 hkN HK1
          rw [co_bit, decide_eq_true hkN, Bool.true_and] at HK1
          have x3 := val hBx.out.box 3 rfl
          have HC1 := Lib.hid (rhas_q _ nx cx Z (kk : Int) wr (HZ.out.below hBx.out.below) (q.testBit kk) (HMZ.out.bit hkN))
          have HC2 := Lib.hid (rhas_q b m j F (kk : Int) wr (HF.out.below hBx.out.below) (z.testBit kk) (HMF.out.bit hkN))
          have HBN : Hid (∀ p, BoxS w (wr.drewN p) 27 (bxL R C a b n k m j)) := Lib.hid fun p => hBx.out.to (belowN (Below.refl _ _) p)
          have HBD : Hid (∀ p, Below w5.heap.size w5 (wr.drewN p)) := Lib.hid fun p => belowN hb p
          clear hkk hkN hO
          cases hqk : q.testBit kk with
          | true =>
            rw [hqk] at HC1 HK1
            have HK2 : Hid (c = cntK R C (co R C q z) v (t + 1)) := Lib.hid (by rw [HK1.out, ← hK.out]; rfl)
            clear hqk
            go_wp2_with fail
            clear HC2 hK hBx hb HK1 HKS HNG HKF HOL HAT HBES HNO HYES hG HS HF HZ HMS HMF HMZ HSD
            go_quiet ((go_at_call 58; exact Calls.quiet_of_same (HC1.out _)))
            go_wp2
            go_roundw
            case rel => first | exact ⟨t + 1, c, by omega, by go_num, rfl, by omega, HK2, Lib.hid (HBN.out _), HBD.out _⟩ | ((repeat apply Exists.intro); exact ⟨⟨t + 1, c, by omega, by go_num, rfl, by omega, HK2, Lib.hid (HBN.out _), HBD.out _⟩, rfl⟩)
            case measure => (simp [intOf] <;> omega)
          | false =>
            rw [hqk] at HC1 HK1
            cases hzk : z.testBit kk with
            | true =>
              rw [hzk] at HC2 HK1
              have HK2 : Hid (c = cntK R C (co R C q z) v (t + 1)) := Lib.hid (by rw [HK1.out, ← hK.out]; rfl)
              clear hqk hzk
              go_wp2_with fail
              clear hK hBx hb HK1 HKS HNG HKF HOL HAT HBES HNO HYES hG HS HF HZ HMS HMF HMZ HSD
              go_quiet ((go_at_call 58; first | with_reducible exact Calls.quiet_of_same (HC1.out _) | with_reducible exact Calls.quiet_of_same (HC2.out _)))
              go_wp2
              go_roundw
              case rel => first | exact ⟨t + 1, c, by omega, by go_num, rfl, by omega, HK2, Lib.hid (HBN.out _), HBD.out _⟩ | ((repeat apply Exists.intro); exact ⟨⟨t + 1, c, by omega, by go_num, rfl, by omega, HK2, Lib.hid (HBN.out _), HBD.out _⟩, rfl⟩)
              case measure => (simp [intOf] <;> omega)
            | false =>
              rw [hzk] at HC2 HK1
              have HK2 : Hid (c + 1 = cntK R C (co R C q z) v (t + 1)) := Lib.hid (by rw [HK1.out, ← hK.out]; rfl)
              clear hqk hzk
              go_wp2_with fail
              clear hK hBx hb HK1 HKS HNG HKF HOL HAT HBES HNO HYES hG HS HF HZ HMS HMF HMZ HSD
              go_quiet ((go_at_call 58; first | with_reducible exact Calls.quiet_of_same (HC1.out _) | with_reducible exact Calls.quiet_of_same (HC2.out _)))
              go_wp2
              go_roundw
              case rel => first | exact ⟨t + 1, c + 1, by omega, by go_num, by go_num, by omega, HK2, Lib.hid (HBN.out _), HBD.out _⟩ | ((repeat apply Exists.intro); exact ⟨⟨t + 1, c + 1, by omega, by go_num, by go_num, by omega, HK2, Lib.hid (HBN.out _), HBD.out _⟩, rfl⟩)
              case measure => (simp [intOf] <;> omega)
        · obtain rfl : Q = t := by omega
          obtain ⟨BS, hBS⟩ : ∃ B, s.testBit v = B := ⟨_, rfl⟩
          obtain ⟨BZ, hBZ⟩ : ∃ B, z.testBit v = B := ⟨_, rfl⟩
          have HC1 := Lib.hid (rhas_q a n k S (v : Int) wr (HS.out.below hBx.out.below) BS (by rw [← hBS]; exact HMS.out.bit HVN.out))
          have HC2 := Lib.hid (rhas_q b m j F (v : Int) wr (HF.out.below hBx.out.below) BZ (by rw [← hBZ]; exact HMF.out.bit HVN.out))
          have HCF : Hid (c = cnt R C (co R C q z) v) := Lib.hid (by rw [hK.out, HKF.out])
          have hc9 := at_isL (HZ.out.below hBx.out.below) hlt
          rw [HV.out] at hc9
          have x2 := val hBx.out.box 2 rfl
          have x3 := val hBx.out.box 3 rfl
          have HBN : Hid (∀ p, BoxS w (wr.drewN p) 27 (bxL R C a b n k m j)) := Lib.hid fun p => hBx.out.to (belowN (Below.refl _ _) p)
          have HBS := Lib.hid hBS
          have HBZ := Lib.hid hBZ
          have HOKF : Hid (¬ (BS = false ∧ (BZ = false → c ≤ 1)) → OK = false) := Lib.hid fun h => HNO.out v HVN.out HQV.out (by rw [hBS, hBZ, ← HCF.out]; exact h)
          have HG2 : Hid (BS = false ∧ (BZ = false → c ≤ 1) → ∀ t v, t < i + 1 → Z.getD t 0 = ((v : Nat) : Int) → s.testBit v = false ∧ (z.testBit v = false → cnt R C (co R C q z) v ≤ 1)) := Lib.hid fun h t v' ht hv' => by
            by_cases e : t = i
            · have e2 : v' = v := by rw [e, HV.out] at hv'; exact (Int.ofNat.inj hv').symm
              rw [e2, HBS.out, HBZ.out, ← HCF.out]; exact h
            · exact hG.out t v' (by omega) hv'
          clear hBS hBZ hK hb hBx HKS HNG HKF HOL HAT HBES HNO HYES hG HS HF HMS HMF HMZ HSD
          cases BS with
          | true =>
            have HR : Hid (OK = false) := Lib.hid (HOKF.out fun h => by cases h.1)
            go_wp2_with fail
            go_quiet ((go_at_call 58; exact Calls.quiet_of_same (HC1.out _)))
            go_wp2
            go_ret
            exact ⟨ret_b HR.out.symm, (HBN.out _).below⟩
          | false =>
            by_cases hc1 : 1 < c
            · have q5 : decide ((1 : Int) < (c : Int)) = true := by simp; omega
              cases BZ with
              | true =>
                have HG3 := Lib.hid (HG2.out ⟨rfl, fun h => by cases h⟩)
                go_wp2_with fail
                go_quiet ((go_at_call 58; first | with_reducible exact Calls.quiet_of_same (HC1.out _) | with_reducible exact Calls.quiet_of_same (HC2.out _)))
                go_wp2
                go_roundw
                case rel => first | exact ⟨i + 1, by omega, by go_num, HG3, Lib.hid (HBN.out _)⟩ | ((repeat apply Exists.intro); exact ⟨⟨i + 1, by omega, by go_num, HG3, Lib.hid (HBN.out _)⟩, rfl⟩)
                case measure => (simp [intOf] <;> omega)
              | false =>
                have HR : Hid (OK = false) := Lib.hid (HOKF.out fun h => by have := h.2 rfl; omega)
                go_wp2_with fail
                go_quiet ((go_at_call 58; first | with_reducible exact Calls.quiet_of_same (HC1.out _) | with_reducible exact Calls.quiet_of_same (HC2.out _)))
                go_wp2
                go_ret
                exact ⟨ret_b HR.out.symm, (HBN.out _).below⟩
            · have q5 : decide ((1 : Int) < (c : Int)) = false := by simp; omega
              have HG3 := Lib.hid (HG2.out ⟨rfl, fun _ => by omega⟩)
              go_wp2_with fail
              go_quiet ((go_at_call 58; exact Calls.quiet_of_same (HC1.out _)))
              go_wp2
              go_roundw
              case rel => first | exact ⟨i + 1, by omega, by go_num, HG3, Lib.hid (HBN.out _)⟩ | ((repeat apply Exists.intro); exact ⟨⟨i + 1, by omega, by go_num, HG3, Lib.hid (HBN.out _)⟩, rfl⟩)
              case measure => (simp [intOf] <;> omega)
    · obtain rfl : nx = i := by omega
      have HOKT : Hid (OK = true) := Lib.hid (HYES.out fun t v ht hv => hG.out t v ht hv)
      go_wp2_with fail
      go_ret
      exact ⟨ret_b HOKT.out.symm, hBx.out.below⟩
end Go.Proofs.YtbhjphcomppjgaaDoor
namespace Beetle09
/-- What is known while bales are read in their order. -/
structure PrS (N : Nat) (Z : List Int) (i : Nat) (t : Int) (q : Nat) : Prop where
  sc : scanE N Z (-1) 0 = scanE N (Z.drop i) t q
  mm : Mm N (Z.take i) q
  rng : ∀ v ∈ Z.take i, 0 ≤ v ∧ v < ((N : Nat) : Int)
  last : t = if i = 0 then -1 else Z.getD (i - 1) 0
theorem PrS.start (N : Nat) (Z : List Int) : PrS N Z 0 (-1) 0 := ⟨by rw [List.drop_zero], ⟨Nat.two_pow_pos _, fun k _ => by simp⟩, fun v hv => by simp at hv, rfl⟩
theorem PrS.bad {N i q : Nat} {Z : List Int} {t : Int} (h : PrS N Z i t q) (hi : i < Z.length) (hx : Z.getD i 0 < 0 ∨ (N : Int) ≤ Z.getD i 0) : (scanE N Z (-1) 0).1 = 2 := by
  rw [h.sc, drop_cons Z i hi, scanE_bad hx]
theorem PrS.ord {N i q v : Nat} {Z : List Int} {t : Int} (h : PrS N Z i t q) (hi : i < Z.length) (hv : Z.getD i 0 = (v : Int)) (hN : v < N) (ht : (v : Int) ≤ t) : (scanE N Z (-1) 0).1 = 7 := by
  rw [h.sc, drop_cons Z i hi, hv, scanE_ord hN ht]
theorem PrS.next {N i q v : Nat} {Z : List Int} {t : Int} (h : PrS N Z i t q) (hi : i < Z.length) (hv : Z.getD i 0 = (v : Int)) (hN : v < N) (ht : ¬ (v : Int) ≤ t) : PrS N Z (i + 1) (v : Int) (q ||| 2 ^ v) := by
  refine ⟨by rw [h.sc, drop_cons Z i hi, hv, scanE_ok hN ht], ⟨ins_lt h.mm.lt hN, fun k hk => ?_⟩, fun x hx => ?_, ?_⟩
  · rw [bit_ins, take_snoc Z i hi, hv, List.mem_append, List.mem_singleton, ← h.mm.mem k hk, Bool.or_eq_true, decide_eq_true_eq]
    exact or_congr Iff.rfl ⟨fun e => by rw [e], fun e => (Int.ofNat.inj e).symm⟩
  · rw [take_snoc Z i hi, hv, List.mem_append, List.mem_singleton] at hx
    rcases hx with hx | rfl
    · exact h.rng x hx
    · omega
  · rw [if_neg (by omega), Nat.add_sub_cancel, hv]
theorem PrS.done {N i q : Nat} {Z : List Int} {t : Int} (h : PrS N Z i t q) (hi : Z.length ≤ i) : scanE N Z (-1) 0 = (0, q) ∧ Mm N Z q ∧ ∀ v ∈ Z, 0 ≤ v ∧ v < ((N : Nat) : Int) := by
  have h1 := h.mm
  have h2 := h.rng
  rw [List.take_of_length_le hi] at h1 h2
  exact ⟨by rw [h.sc, List.drop_of_length_le hi]; rfl, h1, h2⟩
end Beetle09
namespace Go.Proofs.YtbhjphcomppjgaaDoor
open Go.RowKit Beetle09
variable {r c : Int} {S F Z : List Int} {a b x : Option Addr} {n m k j nx cx : Nat} {w : World}
set_option maxHeartbeats 16000000 in
set_option maxRecDepth 100000 in
theorem rProves_any (hS : IsL w a n k S) (hF : IsL w b m j F) (hZ : IsL w x nx cx Z) : Calls Tryd.prog 25 #[stV r c a b n k m j, .slice x nx cx] w (EP (provE r c S F Z) w) := by
  have HB0 := Lib.hid (BoxS.start w (bxL r c a b n k m j) 27)
  have HC := Lib.hid (rCheck_any (r := r) (c := c) (hS.below HB0.out.below) (hF.below HB0.out.below))
  have x0 := val HB0.out.box 0 rfl
  have x1 := val HB0.out.box 1 rfl
  have x2 := val HB0.out.box 2 rfl
  have x3 := val HB0.out.box 3 rfl
  have hcap := hZ.cap
  have hle := hZ.le
  have HLN := Lib.hid hZ.len
  have HZ := Lib.hid hZ
  obtain ⟨E, hE⟩ : ∃ E, openE r c S F = E := ⟨_, rfl⟩
  have HE := Lib.hid hE
  clear hZ
  by_cases h0 : E = 0
  · subst h0
    obtain ⟨R, C, s, z, hop⟩ := open_ok hE
    obtain rfl := hop.er
    obtain rfl := hop.ec
    have HOP := Lib.hid hop
    have HS := Lib.hid hS
    have HF := Lib.hid hF
    clear hE hop hS hF
    go_enter Tryd.func25, Tryd.ntmps25
    go_wp2_with fail
    refine HC.out.mono ?_
    rintro e w1 ⟨rfl, b1⟩
    rw [HE.out]
    have HB1 := Lib.hid (HB0.out.to b1)
    clear HC x0 x1 x2 x3 b1 HB0
    have HS1 := Lib.hid (HS.out.below HB1.out.below)
    have HF1 := Lib.hid (HF.out.below HB1.out.below)
    have HZ1 := Lib.hid (HZ.out.below HB1.out.below)
    have hb1 := HB1.out.below
    have HPR := Lib.hid (HOP.out.prov HE.out Z)
    have n25 := HOP.out.sd.n25
    have HBL := Lib.hid (fun (y : Int) (w : World) (B : Bool) hB => bale_any R C a b n k m j y w HOP.out.sd.n25 HOP.out.sd.n1 HOP.out.sd.r5 HOP.out.sd.c5 B hB)
    have HSF : Hid (∀ (q : Nat) (w' : World), Below w1.heap.size w1 w' → Mm (R * C) Z q → (∀ v ∈ Z, 0 ≤ v ∧ v < ((R * C : Nat) : Int)) → Calls Tryd.prog 63 #[stV R C a b n k m j, .slice x nx cx] w' fun e w2 => e = .returned (.bool (okB R C s z q)) ∧ Below w'.heap.size w' w2) := Lib.hid fun q w' hb h1 h2 => safe_any R C s z q HOP.out.sd HOP.out.rs.mm HOP.out.rz.mm h1 h2 (HS1.out.below hb) (HF1.out.below hb) (HZ1.out.below hb)
    go_wp2_with fail
    go_loopw [6, 5] (fun vi ve wr => ∃ (i : Nat) (E : Int), i ≤ nx ∧ vi = .int .i64 (i : Int) ∧ ve = .int .i64 E ∧ Hid (E = 0 → ∃ t q, PrS (R * C) Z i t q) ∧ Hid (E ≠ 0 → (scanE (R * C) Z (-1) 0).1 = E) ∧ Hid (BoxS w wr 27 (bxL R C a b n k m j)) ∧ Below w1.heap.size w1 wr) (fun vi _ _ => nx - (intOf vi).toNat)
    case atStart => exact ⟨0, 0, by omega, rfl, rfl, Lib.hid fun _ => ⟨-1, 0, PrS.start _ _⟩, Lib.hid fun h => absurd rfl h, HB1, Below.refl _ _⟩
    case round =>
      clear HB1
      obtain ⟨i, E, hi, rfl, rfl, hP, hQ, hT, hb⟩ := hrel
      by_cases hlt : i < nx
      · have q0 : (i : Int) < (nx : Int) := by omega
        by_cases hE0 : E = 0
        · subst hE0
          have x0 := val hT.out.box 0 rfl
          have x1 := val hT.out.box 1 rfl
          have x2 := val hT.out.box 2 rfl
          have x3 := val hT.out.box 3 rfl
          obtain ⟨bb, oo, rfl, _, _⟩ := HZ.out.cells (by omega)
          have y1 := at_isL (HZ1.out.below hb) hlt
          have hTK : Hid (i < Z.length) := Lib.hid (by rw [HLN.out]; exact hlt)
          obtain ⟨t, q, hpr⟩ := hP.out rfl
          have HPS := Lib.hid hpr
          obtain ⟨y, hy⟩ : ∃ y, Z.getD i 0 = y := ⟨_, rfl⟩
          rw [hy] at y1
          have HY := Lib.hid hy
          obtain ⟨BX, hBX⟩ : ∃ BX, decide (0 ≤ y ∧ y < ((R * C : Nat) : Int)) = BX := ⟨_, rfl⟩
          have HBX := Lib.hid hBX
          clear hBX hy hpr hP hQ
          cases BX with
          | false =>
            have HFIN : Hid ((scanE (R * C) Z (-1) 0).1 = 2) := Lib.hid (HPS.out.bad hTK.out (by rw [HY.out]; have := of_decide_eq_false HBX.out; omega))
            go_wp2_with fail
            go_still_tail 5, (by kernel_rfl)
            go_wp2_with fail
            refine (HBL.out y _ false HBX.out).mono ?_
            rintro e w2 ⟨rfl, b2⟩
            have b3 : Below wr.heap.size wr w2 := (Below.refl wr.heap.size wr).drew.trans b2
            have hT2 : Hid (BoxS w w2 27 (bxL R C _ _ n k m j)) := Lib.hid (hT.out.to b3)
            have hb3 := hb.trans (b3.mono hb.size)
            clear x0 x1 x2 x3 y1 b2 b3 hT hb
            go_wp2_with fail
            go_roundw
            case rel => first | exact ⟨i + 1, 2, by omega, by go_num, rfl, Lib.hid (fun h => by cases h), Lib.hid fun _ => HFIN.out, hT2, hb3⟩ | ((repeat apply Exists.intro); exact ⟨⟨i + 1, 2, by omega, by go_num, rfl, Lib.hid (fun h => by cases h), Lib.hid fun _ => HFIN.out, hT2, hb3⟩, rfl⟩)
            case measure => (simp [intOf] <;> omega)
          | true =>
            obtain ⟨v, rfl⟩ : ∃ v : Nat, y = (v : Int) := ⟨y.toNat, by have := of_decide_eq_true HBX.out; omega⟩
            have HVN : Hid (v < R * C) := Lib.hid (by have := of_decide_eq_true HBX.out; omega)
            have HNX : Hid (t < (v : Int) → ∃ t q, PrS (R * C) Z (i + 1) t q) := Lib.hid fun h => ⟨_, _, HPS.out.next hTK.out HY.out HVN.out (by omega)⟩
            have HOR : Hid ((v : Int) ≤ t → (scanE (R * C) Z (-1) 0).1 = 7) := Lib.hid fun h => HPS.out.ord hTK.out HY.out HVN.out h
            have HL := Lib.hid HPS.out.last
            go_wp2_with fail
            go_still_tail 5, (by kernel_rfl)
            go_wp2_with fail
            refine (HBL.out (v : Int) _ true HBX.out).mono ?_
            rintro e w2 ⟨rfl, b2⟩
            have b3 : Below wr.heap.size wr w2 := (Below.refl wr.heap.size wr).drew.trans b2
            have hT2 : Hid (BoxS w w2 27 (bxL R C _ _ n k m j)) := Lib.hid (hT.out.to b3)
            have hb3 := hb.trans (b3.mono hb.size)
            clear x0 x1 x2 x3 y1 b2 b3 hT hb
            by_cases hi0 : i = 0
            · have q3 : decide (0 < i) = false := by simp; omega
              have HP2 : Hid (∃ t q, PrS (R * C) Z (i + 1) t q) := Lib.hid (HNX.out (by rw [HL.out, if_pos hi0]; omega))
              clear hi0
              go_wp2_with fail
              go_quiet (fail)
              go_wp2
              go_roundw
              case rel => first | exact ⟨i + 1, 0, by omega, by go_num, rfl, Lib.hid fun _ => HP2.out, Lib.hid (fun h => absurd rfl h), Lib.hid (hT2.out.to (belowN (Below.refl _ _) _)), belowN hb3 _⟩ | ((repeat apply Exists.intro); exact ⟨⟨i + 1, 0, by omega, by go_num, rfl, Lib.hid fun _ => HP2.out, Lib.hid (fun h => absurd rfl h), Lib.hid (hT2.out.to (belowN (Below.refl _ _) _)), belowN hb3 _⟩, rfl⟩)
              case measure => (simp [intOf] <;> omega)
            · have q3 : decide ((0 : Int) < (i : Int)) = true := by simp; omega
              have q4 : IntKind.i64.wrap ((i : Int) - 1) = (i : Int) - 1 := IntWalk.i64_in _ (by omega)
              obtain ⟨i1, rfl⟩ : ∃ i1, i = i1 + 1 := ⟨i - 1, by omega⟩
              have y1 := at_isL (HZ1.out.below hb3) hlt
              have y2 := at_isL (HZ1.out.below hb3) (show i1 < nx by omega)
              have HT : Hid (t = Z.getD i1 0) := Lib.hid (by rw [HL.out, if_neg hi0, Nat.add_sub_cancel])
              rw [HY.out] at y1
              rw [← HT.out] at y2
              have e3 : (i1 : Int) < (nx : Int) := by omega
              have e4 : (i1 : Int) + 1 < (nx : Int) := by omega
              have e5 : ((i1 : Int) + 1).toNat = i1 + 1 := by omega
              have e6 : IntKind.i64.wrap (i1 : Int) = (i1 : Int) := IntWalk.i64_in _ (by omega)
              have q6 : decide ((0 : Int) < (i1 : Int) + 1) = true := decide_eq_true (by omega)
              clear hi0 q4 q3
              by_cases ht : (v : Int) ≤ t
              · have q5 : decide ((v : Int) ≤ t) = true := decide_eq_true ht
                have HFIN := Lib.hid (HOR.out ht)
                clear ht
                go_wp2_with fail
                go_quiet (fail)
                go_wp2
                go_roundw
                case rel => first | exact ⟨i1 + 1 + 1, 7, by omega, by go_num, rfl, Lib.hid (fun h => by cases h), Lib.hid fun _ => HFIN.out, Lib.hid (hT2.out.to (belowN (Below.refl _ _) _)), belowN hb3 _⟩ | ((repeat apply Exists.intro); exact ⟨⟨i1 + 1 + 1, 7, by omega, by go_num, rfl, Lib.hid (fun h => by cases h), Lib.hid fun _ => HFIN.out, Lib.hid (hT2.out.to (belowN (Below.refl _ _) _)), belowN hb3 _⟩, rfl⟩)
                case measure => (simp [intOf] <;> omega)
              · have ht2 : t < (v : Int) := by omega
                have q5 : decide ((v : Int) ≤ t) = false := decide_eq_false ht
                have HP2 := Lib.hid (HNX.out ht2)
                clear ht ht2
                go_wp2_with fail
                go_quiet (fail)
                go_wp2
                go_roundw
                case rel => first | exact ⟨i1 + 1 + 1, 0, by omega, by go_num, rfl, Lib.hid fun _ => HP2.out, Lib.hid (fun h => absurd rfl h), Lib.hid (hT2.out.to (belowN (Below.refl _ _) _)), belowN hb3 _⟩ | ((repeat apply Exists.intro); exact ⟨⟨i1 + 1 + 1, 0, by omega, by go_num, rfl, Lib.hid fun _ => HP2.out, Lib.hid (fun h => absurd rfl h), Lib.hid (hT2.out.to (belowN (Below.refl _ _) _)), belowN hb3 _⟩, rfl⟩)
                case measure => (simp [intOf] <;> omega)
        · have q1 : (E == 0) = false := by simpa using hE0
          have HFIN : Hid (provE (R : Int) (C : Int) S F Z = E) := Lib.hid (by rw [HPR.out, hQ.out hE0, if_neg hE0])
          have hb9 := hT.out.below
          clear hE0 hQ hP hT
          go_wp2_with fail
          go_ret
          exact ⟨ret_i HFIN.out.symm, hb9⟩
      · obtain rfl : nx = i := by omega
        by_cases hE0 : E = 0
        · subst hE0
          obtain ⟨q, h1, h2, h3⟩ : ∃ q, scanE (R * C) Z (-1) 0 = (0, q) ∧ Mm (R * C) Z q ∧ ∀ v ∈ Z, 0 ≤ v ∧ v < ((R * C : Nat) : Int) := by
            obtain ⟨t, q, h⟩ := hP.out rfl
            exact ⟨q, h.done (by rw [HLN.out]; exact Nat.le_refl _)⟩
          have x0 := val hT.out.box 0 rfl
          have x1 := val hT.out.box 1 rfl
          have x2 := val hT.out.box 2 rfl
          have x3 := val hT.out.box 3 rfl
          have HSC := Lib.hid (HSF.out q wr hb h2 h3)
          have HFIN : Hid (provE (R : Int) (C : Int) S F Z = if okB R C s z q then 0 else 14) := Lib.hid (by rw [HPR.out, h1, if_pos rfl])
          obtain ⟨OK, hOK⟩ : ∃ OK, okB R C s z q = OK := ⟨_, rfl⟩
          rw [hOK] at HSC HFIN
          have hbT := hT.out.below
          clear hP hQ h1 h2 h3 hOK hT
          go_wp2_with fail
          refine HSC.out.mono ?_
          rintro e w5 ⟨rfl, b5⟩
          have hb9 : Below w.heap.size w w5 := hbT.trans (b5.mono hbT.size)
          clear x0 x1 x2 x3 b5 hbT HSC
          cases OK with
          | true =>
            go_wp2_with fail
            go_ret
            exact ⟨ret_i (by rw [HFIN.out]; simp), hb9⟩
          | false =>
            go_wp2_with fail
            go_ret
            exact ⟨ret_i (by rw [HFIN.out]; simp), hb9⟩
        · have q1 : (E == 0) = false := by simpa using hE0
          have HFIN : Hid (provE (R : Int) (C : Int) S F Z = E) := Lib.hid (by rw [HPR.out, hQ.out hE0, if_neg hE0])
          have hb9 := hT.out.below
          clear hE0 hQ hP hT
          go_wp2_with fail
          go_ret
          exact ⟨ret_i HFIN.out.symm, hb9⟩
  · have t1 : (E != 0) = true := by simpa using h0
    have t2 : (E == 0) = false := by simpa using h0
    have H0 : Hid (openE r c S F ≠ 0) := Lib.hid (by rw [hE]; exact h0)
    clear h0 hE hS hF
    go_enter Tryd.func25, Tryd.ntmps25
    go_wp2_with fail
    refine HC.out.mono ?_
    rintro e w1 ⟨rfl, b1⟩
    rw [HE.out]
    have hb1 := (HB0.out.to b1).below
    have HFIN : Hid (provE r c S F Z = E) := Lib.hid (by rw [bad_prov H0.out, HE.out])
    clear HC x0 x1 x2 x3 b1 HB0 HE H0
    go_wp2_with fail
    go_loopw [6, 5] (fun vi ve wr => vi = .int .i64 0 ∧ ve = .int .i64 E ∧ Below w.heap.size w wr) (fun vi _ _ => 0)
    case atStart => exact ⟨rfl, rfl, hb1⟩
    case round =>
      obtain ⟨rfl, rfl, hb⟩ := hrel
      by_cases hlt : 0 < nx
      all_goals
        go_wp2_with fail
        go_ret
        exact ⟨ret_i HFIN.out.symm, hb⟩
end Go.Proofs.YtbhjphcomppjgaaDoor
namespace Beetle09
theorem rd_zero {N : Nat} {S : List Int} {s : Nat} (h : Rd N S s) : S.length = 0 ↔ s = 0 := by
  constructor
  · intro h0
    have : S = [] := List.eq_nil_of_length_eq_zero h0
    refine Nat.eq_of_testBit_eq fun i => ?_
    rw [Nat.zero_testBit, Bool.eq_false_iff, ne_eq, h.mem, this]; simp
  · intro h0
    cases S with
    | nil => rfl
    | cons x S =>
      have hx := h.rng x List.mem_cons_self
      have := (h.mem x.toNat).2 (by rw [Int.toNat_of_nonneg hx.1]; exact List.mem_cons_self)
      rw [h0, Nat.zero_testBit] at this; cases this
end Beetle09
namespace Go.Proofs.YtbhjphcomppjgaaDoor
open Go.RowKit Beetle09
/-- THE WALK's LAW: append(blocks, x), and where the new row lies. -/
theorem wl_app_quad2 {w : World} {a : Option Addr} {n c : Nat} {A : List Q4} {ops : Array Oper} {rest : List Oper} {o : Oper} {ac : Act} {Q : Exit → Act → World → Prop} (B : Nat)
    (s x : Operand) (hg : o.guard = none) (ho : o.op = .call { callee := .builtin .append, args := #[s, x], argTypes := #[28, 28] })
    (hs : ac.eval s = .slice a n c) {g : Nat} (hx : ac.eval x = .slice (some ⟨g, 0, none⟩) 1 1) (h : OwnQ w B a n c A) (p : Q4)
    (h0 : w.cell? ⟨g, 0, none⟩ = some (iN p.1)) (h1 : w.cell? ⟨g, 1, none⟩ = some (iN p.2.1)) (h2 : w.cell? ⟨g, 2, none⟩ = some (iN p.2.2.1)) (h3 : w.cell? ⟨g, 3, none⟩ = some (iN p.2.2.2)) (hB : B ≤ w.heap.size) (hsmall : n + 1 ≤ 1000000)
    (hK : ∀ a2 c2 w', OwnQ w' B a2 (n + 1) c2 (A ++ [p]) → w.grownBy w' (Value.slice a n c).ownBlock → Below B w w' → Via w a a2 → wpList Tryd.prog ops Q rest (ac.put o.dst (.slice a2 (n + 1) c2)) w') :
    wpList Tryd.prog ops Q (o :: rest) ac w := by
  obtain ⟨i, hi, hz, hsz, hby⟩ := info_parts info55
  refine wpList_append_own_at w hg s x 28 ho B 55 i _ 4 32 Tryd.underlying28 hi hz hsz hby rfl (by omega) (.slice a n c) n _ hs h ⟨g, 0, none⟩ 1 1 ([iN p.1, iN p.2.1, iN p.2.2.1, iN p.2.2.2] : List Value) hx rfl ?_ (by simp [Value.oneCell']) (by simp only [maxLen]; omega) (by omega) hB ?_
  · intro j u hj
    match j, hj with
    | 0, hj => simp at hj; subst hj; simpa [Addr.add] using h0
    | 1, hj => simp at hj; subst hj; simpa [Addr.add] using h1
    | 2, hj => simp at hj; subst hj; simpa [Addr.add] using h2
    | 3, hj => simp at hj; subst hj; simpa [Addr.add] using h3
  · intro v' w' h4 h5 _ h6
    have hsh : ∃ a2 c2, v' = .slice a2 (n + 1) c2 := by
      rcases h4.2 with ⟨rfl, h0⟩ | ⟨g, cap, cur, rfl, _⟩
      · omega
      · exact ⟨_, _, rfl⟩
    obtain ⟨a2, c2, rfl⟩ := hsh
    rw [quadF_snoc] at h4
    refine hK a2 c2 w' h4 h5 ((Below.refl _ _).grown h5 hB (fun k hk => (World.ownsRow.lt h k hk).1)) ?_
    intro q hq
    subst hq
    rcases h6 with h6 | h6
    · left
      cases a with
      | none => simp [Value.ownBlock] at h6
      | some y0 => simp [Value.ownBlock] at h6; exact ⟨y0, rfl, h6.symm⟩
    · simp [Value.ownBlock] at h6
      exact .inr (by omega)
theorem OwnQ.lt {w : World} {B : Nat} {a : Option Addr} {n c : Nat} {A : List Q4} (h : OwnQ w B a n c A) : ∀ x, a = some x → B ≤ x.block ∧ x.block < w.heap.size := by
  intro x hx
  subst hx
  exact World.ownsRow.lt h x.block rfl
theorem OwnQ.grown {w w' : World} {B : Nat} {a o : Option Addr} {n c k co : Nat} {A : List Q4} (h : OwnQ w B a n c A) (hg : w.grownBy w' (Value.slice o k co).ownBlock) (hs : Sep a o) : OwnQ w' B a n c A := by
  refine World.ownsRow.kept h hg ?_
  cases a with
  | none => exact .inl rfl
  | some x =>
    right
    cases o with
    | none => simp [Value.ownBlock]
    | some y => have := hs x y rfl rfl; simp [Value.ownBlock]; exact this
variable {r c : Int} {S F : List Int} {a b : Option Addr} {n m k j : Nat} {w : World}
theorem isL_addr {w : World} {a : Option Addr} {n c : Nat} {l : List Int} (h : IsL w a n c l) (hn : 0 < n) : ∃ b o, a = some ⟨b, o, none⟩ := by
  obtain ⟨b, o, h, _⟩ := h.cells hn
  exact ⟨b, o, h⟩
theorem BP.done {E : Int} {A A' : List Q4} {w w' : World} {a : Option Addr} {n c B : Nat} (h : E = 0) (hA : A = A') (hO : OwnQ w' B a n c A') (hb : Below w.heap.size w w') : BP E A w (.returned (.tuple #[.slice a n c, .int .i64 0])) w' := by
  subst h hA; exact ⟨a, n, c, B, rfl, hO, hb⟩
abbrev qL (p : Q4) : List Nat := [p.1, p.2.1, p.2.2.1, p.2.2.2]
set_option maxHeartbeats 32000000 in
set_option maxRecDepth 100000 in
theorem rBlocks_any (hS : IsL w a n k S) (hF : IsL w b m j F) : Calls Tryd.prog 19 #[stV r c a b n k m j] w (BP (blkE r c S F) (blkL r c S F) w) := by
  have HB0 := Lib.hid (BoxS.start w (bxL r c a b n k m j) 27)
  have HC := Lib.hid (rCheck_any (r := r) (c := c) (hS.below HB0.out.below) (hF.below HB0.out.below))
  have x0 := val HB0.out.box 0 rfl
  have x1 := val HB0.out.box 1 rfl
  have x2 := val HB0.out.box 2 rfl
  have x3 := val HB0.out.box 3 rfl
  obtain ⟨E, hE⟩ : ∃ E, openE r c S F = E := ⟨_, rfl⟩
  have HE := Lib.hid hE
  by_cases h0 : E = 0
  · subst h0
    obtain ⟨R, C, s, z, hop⟩ := open_ok hE
    obtain rfl := hop.er
    obtain rfl := hop.ec
    have HOP := Lib.hid hop
    have HS := Lib.hid hS
    have HF := Lib.hid hF
    have HMZ : Hid (m = 0 ↔ z = 0) := Lib.hid (by rw [← hF.len]; exact rd_zero hop.rz)
    clear hE hop hS hF
    go_enter Tryd.func19, Tryd.ntmps19
    go_wp2_with fail
    refine HC.out.mono ?_
    rintro e w1 ⟨rfl, b1⟩
    rw [HE.out]
    have HB1 := Lib.hid (HB0.out.to b1)
    clear HC x0 x1 x2 x3 b1 HB0
    have x0 := val HB1.out.box 0 rfl
    have x1 := val HB1.out.box 1 rfl
    have x2 := val HB1.out.box 2 rfl
    have x3 := val HB1.out.box 3 rfl
    have HS1 := Lib.hid (HS.out.below HB1.out.below)
    have HF1 := Lib.hid (HF.out.below HB1.out.below)
    have hb1 := HB1.out.below
    have HR := Lib.hid (HOP.out.blk HE.out)
    by_cases hm : 0 < m
    · have d1 : decide (0 < m) = true := by simpa using hm
      have HZ0 : Hid (¬ z = 0) := Lib.hid (fun h => by have := HMZ.out.2 h; omega)
      clear hm
      go_wp2_with fail
      go_ret2
      exact BP.nil (by rw [HR.out.1, if_neg HZ0.out]) (by rw [HR.out.2, if_neg HZ0.out]) hb1
    · obtain rfl : m = 0 := by omega
      obtain rfl : z = 0 := HMZ.out.1 rfl
      have HRE : Hid (blkE (R : Int) (C : Int) S F = 0) := Lib.hid (by rw [HR.out.1, if_pos rfl])
      have HRL : Hid (blkL (R : Int) (C : Int) S F = blksF R C 26 (fin R C 0 s)) := Lib.hid (by rw [HR.out.2, if_pos rfl])
      have HCS := Lib.hid (rspread_any R C s 0 HS1.out HF1.out HOP.out.sd HOP.out.rs.mm HOP.out.rz.mm)
      have hsd := HOP.out.sd
      have n25 := hsd.n25
      have hR5 := hsd.r5
      have hC5 := hsd.c5
      have hC1 := hsd.c1
      have HSD := Lib.hid hsd
      have HCL := Lib.hid (cl_fin R C 0 s)
      have HLT := Lib.hid (fin_lt (R := R) (C := C) (z := 0) HOP.out.rs.lt)
      obtain ⟨s0, hs0⟩ : ∃ s0, fin R C 0 s = s0 := ⟨_, rfl⟩
      rw [hs0] at HRL HCS HCL HLT
      have HPL := Lib.hid (els_len (R * C) s0)
      have hP25 := pcN_le (R * C) s0
      obtain ⟨P, hP⟩ : ∃ P, pcN (R * C) s0 = P := ⟨_, rfl⟩
      rw [hP] at HCS HPL hP25
      have HFM := Lib.hid (fin_mm HLT.out)
      have HBES := Lib.hid (fun i w hi => beside_any R C a b n k 0 j i w HSD.out.r5 HSD.out.c5 HSD.out.c1 hi)
      clear hm hs0 hP HMZ hsd HR HOP HS HF
      go_wp2_with fail
      refine HCS.out.mono ?_
      rintro e w2 ⟨xl, cl, rfl, hO, b2⟩
      have HL := Lib.hid hO.isL
      have hcl := hO.isL.cap
      have hlel := hO.isL.le
      have HB2 := Lib.hid (HB1.out.to b2)
      have hwb2 : w.heap.size < w2.heap.size := HB2.out.box.lt
      clear hO b2 HCS x0 x1 x2 x3 HB1 HS1 HF1 hb1
      go_wp2_with fail
      go_loopw [8, 5, 7] (fun vi vo vm wr => ∃ (p n5 : Nat) (a5 : Option Addr) (c5 nM : Nat) (aM : Option Addr) (cM : Nat) (M : List Nat) (cur met : Nat), vi = .int .i64 (p : Int) ∧ vo = .slice a5 n5 c5 ∧ vm = .slice aM nM cM ∧ p ≤ P ∧ Hid (RbS R C s0 (blksF R C 26 s0) M p n5 cur met) ∧ Hid (OwnQ wr w2.heap.size a5 n5 c5 ((blksF R C 26 s0).take n5)) ∧ Hid (OwnL wr 3 w2.heap.size aM nM cM (li M)) ∧ Hid (Sep a5 aM) ∧ Below w2.heap.size w2 wr) (fun vi _ _ _ => P - (intOf vi).toNat)
      case atStart => exact ⟨0, 0, none, 0, 0, none, 0, [], s0, 0, rfl, rfl, rfl, by omega, Lib.hid (RbS.start HLT.out HCL.out), Lib.hid (by rw [List.take_zero]; exact OwnQ.nilQ _ _), Lib.hid (OwnL.nilL _ _ _), Lib.hid (Sep.none_left _), Below.refl _ _⟩
      case round =>
        obtain ⟨p, n5, a5, c5, nM, aM, cM, M, cur, met, rfl, rfl, rfl, hp, hRB, hO5, hOM, hSP, hb⟩ := hrel
        have HBR := Lib.hid (HB2.out.to hb)
        by_cases hlt : p < P
        · have q0 : (p : Int) < (P : Int) := by omega
          obtain ⟨bl, ol, rfl⟩ := isL_addr HL.out (by omega)
          have y1 := at_isL (HL.out.below hb) hlt
          rw [li_get] at y1
          have hpl : p < (els (R * C) s0).length := by rw [HPL.out]; exact hlt
          obtain ⟨hvN, hvB⟩ := els_at hpl
          have HPl := Lib.hid hpl
          have HVV : Hid (∀ t, t < (els (R * C) s0).length → met.testBit ((els (R * C) s0).getD t 0) = met.testBit ((els (R * C) s0).getD t 0)) := Lib.hid fun _ _ => rfl
          obtain ⟨v, hv⟩ : ∃ v, (els (R * C) s0).getD p 0 = v := ⟨_, rfl⟩
          rw [hv] at y1 hvN hvB
          obtain ⟨BM, hBM⟩ : ∃ BM, met.testBit v = BM := ⟨_, rfl⟩
          have HH := Lib.hid (rhas_any aM nM cM (li M) (v : Int) wr hOM.out.isL BM (by rw [← hBM]; exact hRB.out.mm.bit hvN))
          have HV := Lib.hid hv
          have HBM := Lib.hid hBM
          have HVN := Lib.hid hvN
          have hml := hRB.out.ml
          have hip := hRB.out.ip
          have hlM := hOM.out.len
          rw [li_len] at hlM
          have hM6 : nM ≤ 625 := by omega
          have hcM := hOM.out.isL.cap
          have hleM := hOM.out.isL.le
          clear hpl hv hBM hvN hvB HVV hlM hml
          cases BM with
          | true =>
            have HRB := Lib.hid (hRB.out.skip (by rw [HV.out]; exact HBM.out))
            go_wp2_with fail
            refine HH.out.mono ?_
            rintro e w5 ⟨rfl, rfl⟩
            go_wp2_with fail
            go_roundw
            case rel => first | exact ⟨p + 1, n5, a5, c5, nM, aM, cM, M, cur, met, by go_num, rfl, rfl, by omega, HRB, hO5, hOM, hSP, hb⟩ | ((repeat apply Exists.intro); exact ⟨⟨p + 1, n5, a5, c5, nM, aM, cM, M, cur, met, by go_num, rfl, rfl, by omega, HRB, hO5, hOM, hSP, hb⟩, rfl⟩)
            case measure => (simp [intOf] <;> omega)
          | false =>
            obtain ⟨hiA, rr, cc, xx, yy, hA, hBk, hrc, hcC, hnext⟩ := hRB.out.hit HSD.out HPl.out (by rw [HV.out]; exact HBM.out)
            rw [HV.out] at hrc
            have HA := Lib.hid hA
            have HIA := Lib.hid hiA
            have HBK := Lib.hid hBk
            have HRC := Lib.hid hrc
            have HNX := Lib.hid hnext
            have HBF0 : Hid (BfS R C s0 v rr cc xx yy [v] 0 0) := Lib.hid (BfS.start HVN.out (by rw [← hrc]; exact (inB_iff hcC).2 ⟨Nat.le_refl _, hBk.hx.1, Nat.le_refl _, hBk.hy.1⟩))
            have HK := Lib.hid hRB.out.bk
            clear hA hBk hrc hnext hiA
            obtain ⟨W, rfl⟩ : ∃ W, W = wr := ⟨_, rfl⟩
            have hsW := hb.size
            have HB0 : Hid (OwnL (W.alloc (.cells #[.int .i64 (v : Int)] 3)) 3 W.heap.size (some ⟨W.heap.size, 0, none⟩) 1 1 (li [v])) := Lib.hid (own_lit W 3 W.heap.size (Nat.le_refl _) [(v : Int)] _ 1 rfl rfl (by omega))
            go_wp2_with fail
            refine HH.out.mono ?_
            rintro e w5 ⟨rfl, rfl⟩
            clear HH
            go_wp2_with fail
            clear y1
            go_loopw [10, 9] (fun vi vo wr => ∃ (kk nB : Nat) (ab : Option Addr) (cb : Nat) (Bl : List Nat), vi = .int .i64 (kk : Int) ∧ vo = .slice ab nB cb ∧ kk ≤ nB ∧ nB ≤ 25 ∧ Hid (BfS R C s0 v rr cc xx yy Bl kk 0) ∧ Hid (OwnL wr 3 W.heap.size ab nB cb (li Bl)) ∧ Below W.heap.size W wr) (fun vi _ _ => 25 - (intOf vi).toNat)
            case atStart => exact ⟨0, 1, _, 1, [v], rfl, rfl, by omega, by omega, HBF0, HB0, (Below.refl _ _).alloc (Nat.le_refl _) _⟩
            case round =>
              clear HB0 HBF0
              obtain ⟨kk, nB, ab, cb, Bl, rfl, rfl, hk, hnb25, hBF, hOB, hbW⟩ := hrel
              have hcb := hOB.out.isL.cap
              have hleb := hOB.out.isL.le
              have hlB := hOB.out.len
              rw [li_len] at hlB
              have HLB := Lib.hid hlB
              have HBX := Lib.hid (HBR.out.to hbW)
              clear hlB
              by_cases hkn : kk < nB
              · have q1 : (kk : Int) < (nB : Int) := by omega
                obtain ⟨gb, rfl⟩ := hOB.out.addr (by omega)
                have y1 := (hOB.out.gen.cell kk 0 hkn).1
                rw [li_get] at y1
                have HKM : Hid (kk < Bl.length) := Lib.hid (by rw [HLB.out]; exact hkn)
                have hbN : Bl.getD kk 0 < R * C := hBF.out.gd.lt _ (by rw [getD_at HKM.out]; exact List.getElem_mem _)
                have x0 := val HBX.out.box 0 rfl
                have x1 := val HBX.out.box 1 rfl
                have x2 := val HBX.out.box 2 rfl
                have x3 := val HBX.out.box 3 rfl
                obtain ⟨u, hu⟩ : ∃ u, Bl.getD kk 0 = u := ⟨_, rfl⟩
                rw [hu] at y1 hbN
                have HU := Lib.hid hu
                have HCB := Lib.hid (HBES.out u wr.drew hbN)
                have hNBl := nb_len R C u
                have HNG : Hid (∀ t, t < (nb R C u).length → (nb R C u).getD t 0 < R * C) := Lib.hid fun t ht => nb_get HSD.out hbN ht
                have HUN := Lib.hid hbN
                obtain ⟨L, hL⟩ : ∃ L, nb R C u = L := ⟨_, rfl⟩
                have HLL := Lib.hid hL
                rw [hL] at HCB hNBl HNG
                obtain ⟨Q, hQ⟩ : ∃ Q, L.length = Q := ⟨_, rfl⟩
                have HQQ := Lib.hid hQ
                rw [hQ] at HCB hNBl HNG
                clear hu hbN hL hQ
                obtain ⟨wo, rfl⟩ : ∃ wo, wo = wr := ⟨_, rfl⟩
                go_wp2_with fail
                go_still_tail 5, (by kernel_rfl)
                go_wp2_with fail
                refine HCB.out.mono ?_
                rintro e w6 ⟨xb, cxb, rfl, hOL, b6⟩
                have b7 : Below wo.heap.size wo w6 := (Below.refl wo.heap.size wo).drew.trans b6
                have hcx := hOL.isL.cap
                have hlx := hOL.isL.le
                have hN0 := Lib.hid hOL.isL
                have hW6 : Below W.heap.size W w6 := hbW.trans (b7.mono hbW.size)
                have hS0 : Hid (Sep xb (some ⟨gb, 0, none⟩)) := Lib.hid fun x y hx hy => by
                  have h1 := (hOL.lt x hx).1
                  have h2 := (hOB.out.lt y hy).2
                  simp at h1
                  omega
                have hOB6 := Lib.hid (hOB.out.below b7)
                have hBFK := hBF
                clear hOL b6 b7 hOB hBF x0 x1 x2 x3 y1 HCB HBX
                go_wp2_with fail
                go_loopw [12, 9] (fun vi vo wr => ∃ (jj n2 : Nat) (a2 : Option Addr) (c2 : Nat) (B2 : List Nat), vi = .int .i64 (jj : Int) ∧ vo = .slice a2 n2 c2 ∧ jj ≤ Q ∧ kk < n2 ∧ n2 ≤ 25 ∧ Hid (BfS R C s0 v rr cc xx yy B2 kk jj) ∧ Hid (B2.getD kk 0 = u) ∧ Hid (OwnL wr 3 W.heap.size a2 n2 c2 (li B2)) ∧ Hid (IsL wr xb Q cxb (li L)) ∧ Hid (Sep xb a2) ∧ Below W.heap.size W wr) (fun vi _ _ => Q - (intOf vi).toNat)
                case atStart => exact ⟨0, nB, _, cb, Bl, rfl, rfl, by omega, by omega, by omega, hBFK, HU, hOB6, hN0, hS0, hW6⟩
                case round =>
                  clear hBFK hOB6 hN0 hS0 hW6 HU HLB HKM
                  obtain ⟨jj, n2, a2, c2, B2, rfl, rfl, hjQ, hkn2, hn25, hBF, HU, hOB, hN, hS, hbW2⟩ := hrel
                  have hc2 := hOB.out.isL.cap
                  have hl2 := hOB.out.isL.le
                  by_cases hj : jj < Q
                  · have q3 : (jj : Int) < (Q : Int) := by omega
                    obtain ⟨bx, ox, rfl⟩ := isL_addr hN.out (by omega)
                    have y3 := at_isL hN.out hj
                    rw [li_get] at y3
                    have htN := HNG.out jj hj
                    have HJT : Hid ((Beetle09.nb R C (B2.getD kk 0)).getD jj 0 = L.getD jj 0) := Lib.hid (by rw [HU.out, HLL.out])
                    have hJL : Hid (jj < (Beetle09.nb R C (B2.getD kk 0)).length) := Lib.hid (by rw [HU.out, HLL.out, HQQ.out]; exact hj)
                    obtain ⟨t, ht⟩ : ∃ t, L.getD jj 0 = t := ⟨_, rfl⟩
                    rw [ht] at y3 htN HJT
                    obtain ⟨B1, hB1⟩ : ∃ B1, s0.testBit t = B1 := ⟨_, rfl⟩
                    obtain ⟨BB, hBB⟩ : ∃ BB, decide ((t : Int) ∈ li B2) = BB := ⟨_, rfl⟩
                    have HH1 := Lib.hid (rhas_any (some ⟨bl, ol, none⟩) P cl (li (els (R * C) s0)) (t : Int) wr (HL.out.below (hb.trans (hbW2.mono hsW))) B1 (by rw [← hB1]; exact HFM.out.bit htN))
                    have HH2 := Lib.hid (rhas_any a2 n2 c2 (li B2) (t : Int) wr hOB.out.isL BB hBB)
                    have HB1 := Lib.hid hB1
                    have HBB := Lib.hid hBB
                    clear ht hB1 hBB htN
                    cases B1 with
                    | false =>
                      have hBF2 := Lib.hid (hBF.out.skip (fun h => by rw [HJT.out, HB1.out] at h; cases h))
                      go_wp2_with fail
                      refine HH1.out.mono ?_
                      rintro e w7 ⟨rfl, rfl⟩
                      clear HH1 HH2 hBF
                      go_wp2_with fail
                      go_roundw
                      case rel => first | exact ⟨jj + 1, n2, a2, c2, B2, by go_num, rfl, by omega, by omega, by omega, hBF2, HU, hOB, hN, hS, hbW2⟩ | ((repeat apply Exists.intro); exact ⟨⟨jj + 1, n2, a2, c2, B2, by go_num, rfl, by omega, by omega, by omega, hBF2, HU, hOB, hN, hS, hbW2⟩, rfl⟩)
                      case measure => (simp [intOf] <;> omega)
                    | true =>
                      cases BB with
                      | true =>
                        have hBF2 := Lib.hid (hBF.out.skip (fun h => by rw [HJT.out]; exact mem_li.1 (of_decide_eq_true HBB.out)))
                        go_wp2_with fail
                        refine HH1.out.mono ?_
                        rintro e w7 ⟨rfl, rfl⟩
                        go_wp2_with fail
                        refine HH2.out.mono ?_
                        rintro e w7 ⟨rfl, rfl⟩
                        clear HH1 HH2 hBF
                        go_wp2_with fail
                        go_roundw
                        case rel => first | exact ⟨jj + 1, n2, a2, c2, B2, by go_num, rfl, by omega, by omega, by omega, hBF2, HU, hOB, hN, hS, hbW2⟩ | ((repeat apply Exists.intro); exact ⟨⟨jj + 1, n2, a2, c2, B2, by go_num, rfl, by omega, by omega, by omega, hBF2, HU, hOB, hN, hS, hbW2⟩, rfl⟩)
                        case measure => (simp [intOf] <;> omega)
                      | false =>
                        have hKL : kk < B2.length := by have := hOB.out.len; rw [li_len] at this; omega
                        have hADD := hBF.out.add HK.out HSD.out HBK.out hKL hJL.out (by rw [HJT.out]; exact HB1.out) (by rw [HJT.out]; exact fun h => of_decide_eq_false HBB.out (mem_li.2 h))
                        rw [HJT.out] at hADD
                        have hn26 : n2 + 1 ≤ 25 := by
                          have h1 := hADD.gd.len
                          have h2 := hOB.out.len
                          rw [li_len] at h2
                          rw [List.length_append, List.length_singleton] at h1
                          omega
                        have hBF2 := Lib.hid hADD
                        have hU2 : Hid ((B2 ++ [t]).getD kk 0 = u) := Lib.hid (by rw [app_get hKL]; exact HU.out)
                        clear hKL hADD
                        go_wp2_with fail
                        refine HH1.out.mono ?_
                        rintro e w7 ⟨rfl, rfl⟩
                        go_wp2_with fail
                        refine HH2.out.mono ?_
                        rintro e w7 ⟨rfl, rfl⟩
                        clear HH1 HH2 hBF
                        go_wp2_with (at_builtin; refine wl_app_own Tryd.underlying22 elem3 W.heap.size (.tmp 82) (.tmp 87) rfl rfl rfl rfl (hOB.out.alloc _) (isL_one _ _ _) (by have := hbW2.size; simp; omega) (by omega) ?_)
                        intro a7 c7 w7 ho7 hg7 hb7 hv7
                        have hOB7 : Hid (OwnL w7 3 W.heap.size a7 (n2 + 1) c7 (li (B2 ++ [t]))) := Lib.hid (by rw [li_app]; exact ho7)
                        have hN7 : Hid (IsL w7 (some ⟨bx, ox, none⟩) Q cxb (li L)) := Lib.hid ((hN.out.alloc _).grown hg7 hS.out)
                        have hS7 : Hid (Sep (some ⟨bx, ox, none⟩) a7) := Lib.hid (hS.out.symm.via hv7 ((hN.out.alloc _).lt (by omega))).symm
                        have hbW7 : Below W.heap.size W w7 := (hbW2.alloc hbW2.size _).trans hb7
                        clear ho7 hg7 hb7 hv7 hOB hN hS hbW2 HU y3
                        go_wp2_with fail
                        go_roundw
                        case rel => first | exact ⟨jj + 1, n2 + 1, a7, c7, B2 ++ [t], by go_num, rfl, by omega, by omega, by omega, hBF2, hU2, hOB7, hN7, hS7, hbW7⟩ | ((repeat apply Exists.intro); exact ⟨⟨jj + 1, n2 + 1, a7, c7, B2 ++ [t], by go_num, rfl, by omega, by omega, by omega, hBF2, hU2, hOB7, hN7, hS7, hbW7⟩, rfl⟩)
                        case measure => (simp [intOf] <;> omega)
                  · obtain rfl : Q = jj := by omega
                    have hBF2 := Lib.hid (hBF.out.next (by rw [HU.out, HLL.out, HQQ.out]; exact Nat.le_refl _))
                    clear hBF hN hS HU
                    go_wp2_with fail
                    go_roundw
                    case rel => first | exact ⟨kk + 1, n2, a2, c2, B2, by go_num, rfl, by omega, by omega, hBF2, hOB, hbW2⟩ | ((repeat apply Exists.intro); exact ⟨⟨kk + 1, n2, a2, c2, B2, by go_num, rfl, by omega, by omega, hBF2, hOB, hbW2⟩, rfl⟩)
                    case measure => (simp [intOf] <;> omega)
              · obtain rfl : nB = kk := by omega
                have HMEM := Lib.hid (hBF.out.done HK.out HBK.out HRC.out (by rw [HLB.out]; exact Nat.le_refl _))
                have HGD := Lib.hid hBF.out.gd
                have HRB2 := Lib.hid (HNX.out Bl HGD.out HMEM.out)
                have HBBX := Lib.hid (bbK_fin HBK.out HSD.out HMEM.out HGD.out.lt)
                rw [HLB.out] at HBBX
                have hsz1 := hbW.size
                clear hBF
                go_wp2_with (at_builtin; refine wl_app_own Tryd.underlying22 elem3 w2.heap.size (.tmp 89) (.tmp 90) rfl rfl rfl rfl (hOM.out.below hbW) hOB.out.isL (by omega) (by omega) ?_)
                intro aM2 cM2 w7 hoM hgM hbM hvM
                have hOM7 : Hid (OwnL w7 3 w2.heap.size aM2 (nM + nB) cM2 (li (M ++ Bl))) := Lib.hid (by rw [li_app]; exact hoM)
                have hO7 : Hid (OwnQ w7 w2.heap.size a5 n5 c5 ((blksF R C 26 s0).take n5)) := Lib.hid ((hO5.out.below hbW).grown hgM hSP.out)
                have hS7 : Hid (Sep a5 aM2) := Lib.hid (hSP.out.symm.via hvM (fun x hx => ((hO5.out.below hbW).lt x hx).2)).symm
                have hI7 : Hid (IsL w7 ab nB cb (li Bl)) := Lib.hid (hOB.out.isL.grown hgM (fun x y hx hy => by
                  have h1 := (hOB.out.lt x hx).1
                  have h2 := (hOM.out.lt y hy).2
                  omega))
                have hb7 : Below w2.heap.size w2 w7 := (hb.trans (hbW.mono hsW)).trans hbM
                have HBX7 := Lib.hid (HB2.out.to hb7)
                clear hoM hgM hbM hvM HBX hOB hOM hO5 hSP
                obtain ⟨W7, rfl⟩ : ∃ W, W = w7 := ⟨_, rfl⟩
                have hA0 : Hid (ArrV iN (W7.alloc (.cells #[.int .i64 5, .int .i64 5, .int .i64 0, .int .i64 0] 55)) W7.heap.size 55 (qL (bbK C Bl 0))) := Lib.hid (ArrV.new _ _ _ _ _ rfl rfl)
                go_wp2_with fail
                go_loopw [14] (fun vi wr => ∃ q : Nat, vi = .int .i64 (q : Int) ∧ q ≤ nB ∧ Hid (ArrV iN wr W7.heap.size 55 (qL (bbK C Bl q))) ∧ Below W7.heap.size W7 wr) (fun vi _ => nB - (intOf vi).toNat)
                case atStart => exact ⟨0, rfl, by omega, hA0, (Below.refl _ _).alloc (Nat.le_refl _) _⟩
                case round =>
                  clear hA0
                  obtain ⟨q, rfl, hq, hAr, hb8⟩ := hrel
                  by_cases hqn : q < nB
                  · have q4 : (q : Int) < (nB : Int) := by omega
                    obtain ⟨bb, ob, rfl⟩ := isL_addr hI7.out (by omega)
                    have y4 := at_isL (hI7.out.below hb8) hqn
                    rw [li_get] at y4
                    have HBX8 := Lib.hid (HBX7.out.to hb8)
                    have x1 := val HBX8.out.box 1 rfl
                    obtain ⟨⟨e1, e2, e3, e4⟩, hbk⟩ : (wr.cell? ⟨W7.heap.size, 0, none⟩ = some (.int .i64 ((bbK C Bl q).1 : Int)) ∧ wr.cell? ⟨W7.heap.size, 1, none⟩ = some (.int .i64 ((bbK C Bl q).2.1 : Int)) ∧ wr.cell? ⟨W7.heap.size, 2, none⟩ = some (.int .i64 ((bbK C Bl q).2.2.1 : Int)) ∧ wr.cell? ⟨W7.heap.size, 3, none⟩ = some (.int .i64 ((bbK C Bl q).2.2.2 : Int))) ∧ bbK C Bl (q + 1) = (min (bbK C Bl q).1 (Bl.getD q 0 / C), min (bbK C Bl q).2.1 (Bl.getD q 0 % C), max (bbK C Bl q).2.2.1 (Bl.getD q 0 / C), max (bbK C Bl q).2.2.2 (Bl.getD q 0 % C)) := ⟨⟨hAr.out.cell 0 0 (by simp), hAr.out.cell 1 0 (by simp), hAr.out.cell 2 0 (by simp), hAr.out.cell 3 0 (by simp)⟩, rfl⟩
                    have hUN : Bl.getD q 0 < R * C := HGD.out.lt _ (by rw [getD_at (by rw [HLB.out]; exact hqn)]; exact List.getElem_mem _)
                    obtain ⟨u, hu⟩ : ∃ u, Bl.getD q 0 = u := ⟨_, rfl⟩
                    rw [hu] at y4 hUN hbk
                    have HBK4 := Lib.hid hbk
                    obtain ⟨b1, hb1⟩ : ∃ b, (bbK C Bl q).1 = b := ⟨_, rfl⟩
                    obtain ⟨b2, hb2⟩ : ∃ b, (bbK C Bl q).2.1 = b := ⟨_, rfl⟩
                    obtain ⟨b3, hb3⟩ : ∃ b, (bbK C Bl q).2.2.1 = b := ⟨_, rfl⟩
                    obtain ⟨b4, hb4⟩ : ∃ b, (bbK C Bl q).2.2.2 = b := ⟨_, rfl⟩
                    rw [hb1] at e1 HBK4
                    rw [hb2] at e2 HBK4
                    rw [hb3] at e3 HBK4
                    rw [hb4] at e4 HBK4
                    obtain ⟨ur, hur⟩ : ∃ t, u / C = t := ⟨_, rfl⟩
                    obtain ⟨uc, huc⟩ : ∃ t, u % C = t := ⟨_, rfl⟩
                    rw [hur, huc] at HBK4
                    have i1 : (u : Int) / (C : Int) = (ur : Int) := by rw [← hur]; simp
                    have i2 : (u : Int) % (C : Int) = (uc : Int) := by rw [← huc]; simp
                    have hu25 : u < 25 := by omega
                    have hur5 : ur ≤ u := by rw [← hur]; exact Nat.div_le_self u C
                    have huc5 : uc < C := by rw [← huc]; exact Nat.mod_lt _ (by omega)
                    have i5 : ¬ (C : Int) = 0 := by omega
                    have i6 : (0 : Int) < (C : Int) := by omega
                    have i7 : ((C : Int) == 0) = false := by simp; omega
                    clear hu hbk hb1 hb2 hb3 hb4 hur huc
                    obtain ⟨m1, m2, m3, m4, hm, f1, f2, f3, f4⟩ : ∃ m1 m2 m3 m4, (min b1 ur, min b2 uc, max b3 ur, max b4 uc) = (m1, m2, m3, m4) ∧ (if ur < b1 then (ur : Int) else (b1 : Int)) = (m1 : Int) ∧ (if uc < b2 then (uc : Int) else (b2 : Int)) = (m2 : Int) ∧ (if b3 < ur then (ur : Int) else (b3 : Int)) = (m3 : Int) ∧ (if b4 < uc then (uc : Int) else (b4 : Int)) = (m4 : Int) :=
                      ⟨_, _, _, _, rfl, by split <;> omega, by split <;> omega, by split <;> omega, by split <;> omega⟩
                    rw [hm] at HBK4
                    have hA9 : Hid (∀ w', ArrV iN w' W7.heap.size 55 (qL (bbK C Bl q)) → ArrV iN ((((w'.setCell ⟨W7.heap.size, 0, none⟩ (.int .i64 (m1 : Int))).setCell ⟨W7.heap.size, 1, none⟩ (.int .i64 (m2 : Int))).setCell ⟨W7.heap.size, 2, none⟩ (.int .i64 (m3 : Int))).setCell ⟨W7.heap.size, 3, none⟩ (.int .i64 (m4 : Int))) W7.heap.size 55 (qL (bbK C Bl (q + 1)))) := Lib.hid fun w' h => by
                      rw [HBK4.out]
                      exact (((h.set 0 m1).set 1 m2).set 2 m3).set 3 m4
                    have hB9 : Hid (∀ w', Below W7.heap.size W7 w' → Below W7.heap.size W7 ((((w'.setCell ⟨W7.heap.size, 0, none⟩ (.int .i64 (m1 : Int))).setCell ⟨W7.heap.size, 1, none⟩ (.int .i64 (m2 : Int))).setCell ⟨W7.heap.size, 2, none⟩ (.int .i64 (m3 : Int))).setCell ⟨W7.heap.size, 3, none⟩ (.int .i64 (m4 : Int)))) := Lib.hid fun w' h => (((h.setCell (p := ⟨W7.heap.size, 0, none⟩) (Nat.le_refl _) _).setCell (p := ⟨W7.heap.size, 1, none⟩) (Nat.le_refl _) _).setCell (p := ⟨W7.heap.size, 2, none⟩) (Nat.le_refl _) _).setCell (p := ⟨W7.heap.size, 3, none⟩) (Nat.le_refl _) _
                    have g0 := hAr.out.frozen 0
                    have g1 := hAr.out.frozen 1
                    have g2 := hAr.out.frozen 2
                    have g3 := hAr.out.frozen 3
                    have hHA : Hid (∀ p, ArrV iN (wr.drewN p) W7.heap.size 55 (qL (bbK C Bl q))) := Lib.hid fun p => hAr.out.drewN p
                    have hHB : Hid (∀ p, Below W7.heap.size W7 (wr.drewN p)) := Lib.hid fun p => belowN hb8 p
                    clear hm hAr hb8
                    go_wp2_with fail
                    go_quiet (fail)
                    simp only [i2]
                    clear i1 i2
                    go_wp2
                    go_roundw
                    case rel => first | exact ⟨q + 1, by go_num, by omega, Lib.hid (hA9.out _ (hHA.out _)), hB9.out _ (hHB.out _)⟩ | ((repeat apply Exists.intro); exact ⟨⟨q + 1, by go_num, by omega, Lib.hid (hA9.out _ (hHA.out _)), hB9.out _ (hHB.out _)⟩, rfl⟩)
                    case measure => (simp [intOf] <;> omega)
                  · obtain rfl : nB = q := by omega
                    rw [HBBX.out] at hAr
                    have e1 := hAr.out.cell 0 0 (by simp)
                    have e2 := hAr.out.cell 1 0 (by simp)
                    have e3 := hAr.out.cell 2 0 (by simp)
                    have e4 := hAr.out.cell 3 0 (by simp)
                    have hW7 := hb7.size
                    have hsz2 := hb8.size
                    have hip2 : n5 + 1 ≤ 1000000 := by omega
                    have hO8 := Lib.hid (hO7.out.below hb8)
                    have hOM8 := Lib.hid (hOM7.out.below hb8)
                    have hb9 := hb7.trans (hb8.mono hW7)
                    have HTK : Hid ((blksF R C 26 s0).take n5 ++ [(rr, cc, xx, yy)] = (blksF R C 26 s0).take (n5 + 1)) := Lib.hid (by
                      have h1 := HIA.out
                      rw [List.take_succ_eq_append_getElem h1]
                      have h2 := HA.out
                      rw [List.getD_eq_getElem?_getD, List.getElem?_eq_getElem h1, Option.getD_some] at h2
                      rw [h2])
                    clear hAr hb8
                    go_wp2_with (at_builtin; refine wl_app_quad2 w2.heap.size (.tmp 130) (.tmp 132) rfl rfl rfl rfl (hO8.out.below ((Below.refl _ _).alloc (Nat.le_refl _) _)) (rr, cc, xx, yy) (by simp [go_sem]) (by simp [go_sem]) (by simp [go_sem]) (by simp [go_sem]) (by simp; omega) hip2 ?_)
                    intro a9 c9 w9 ho9 hg9 hb10 hv9
                    have hO9 : Hid (OwnQ w9 w2.heap.size a9 (n5 + 1) c9 ((blksF R C 26 s0).take (n5 + 1))) := Lib.hid (by rw [← HTK.out]; exact ho9)
                    have hOM9 : Hid (OwnL w9 3 w2.heap.size aM2 (nM + nB) cM2 (li (M ++ Bl))) := Lib.hid ((hOM8.out.alloc _).grown hg9 hS7.out.symm)
                    have hS9 : Hid (Sep a9 aM2) := Lib.hid (hS7.out.via hv9 (fun x hx => ((hOM8.out.alloc _).lt x hx).2))
                    have hb11 : Below w2.heap.size w2 w9 := (hb9.alloc (by omega) _).trans hb10
                    clear ho9 hg9 hb10 hv9 hO8 hOM8
                    go_wp2_with fail
                    go_roundw
                    case rel => first | exact ⟨p + 1, n5 + 1, a9, c9, nM + nB, aM2, cM2, M ++ Bl, _, _, by go_num, rfl, rfl, by omega, HRB2, hO9, hOM9, hS9, hb11⟩ | ((repeat apply Exists.intro); exact ⟨⟨p + 1, n5 + 1, a9, c9, nM + nB, aM2, cM2, M ++ Bl, _, _, by go_num, rfl, rfl, by omega, HRB2, hO9, hOM9, hS9, hb11⟩, rfl⟩)
                    case measure => (simp [intOf] <;> omega)
        · obtain rfl : P = p := by omega
          have HDN := Lib.hid (hRB.out.done HLT.out (by rw [HPL.out]; exact Nat.le_refl _))
          have hb9 := HBR.out.below
          have HO9 : Hid (OwnQ wr w2.heap.size a5 n5 c5 (blksF R C 26 s0)) := Lib.hid (by rw [← HDN.out]; exact hO5.out)
          clear HBR hRB hO5 hOM hSP hb
          go_wp2_with fail
          go_ret2
          exact BP.done HRE.out HRL.out HO9.out hb9
  · have t1 : (E != 0) = true := by simpa using h0
    have t2 : (E == 0) = false := by simpa using h0
    have H0 : Hid (openE r c S F ≠ 0) := Lib.hid (by rw [hE]; exact h0)
    clear h0 hE hS hF
    go_enter Tryd.func19, Tryd.ntmps19
    go_wp2_with fail
    refine HC.out.mono ?_
    rintro e w1 ⟨rfl, b1⟩
    rw [HE.out]
    have hb1 := (HB0.out.to b1).below
    clear HC x0 x1 x2 x3 b1 HB0
    go_wp2_with fail
    go_ret2
    exact BP.nil (by rw [(bad_blk H0.out).1, HE.out]) (bad_blk H0.out).2 hb1
end Go.Proofs.YtbhjphcomppjgaaDoor
