/- Walks of chapter 11: StoreCounted's closure. -/
import Derived.Test.YtjedmiegcbdedaaXc
import Derived.Test.YtjedmiegcbdedaaWv
namespace Go.Proofs.Ytjedmiegcbdedaa
open Go.RowKit Store11

theorem setCell_other (w : World) (p : Addr) (v : Value) (k : Nat) (h : p.block ≠ k) : (w.setCell p v).heap[k]? = w.heap[k]? := by
  simp [World.setCell, Array.getElem?_modify, h]
/-- the rooms' counts as a block -/
def histA (n i : Nat) : Array Value := #[.int .i64 (histN n i 0 : Nat), .int .i64 (histN n i 1 : Nat), .int .i64 (histN n i 2 : Nat), .int .i64 (histN n i 3 : Nat), .int .i64 (histN n i 4 : Nat), .int .i64 (histN n i 5 : Nat), .int .i64 (histN n i 6 : Nat), .int .i64 (histN n i 7 : Nat)]
theorem histA_get (n i : Nat) : ∀ k, k < 8 → (histA n i)[k]? = some (.int .i64 (histN n i k : Nat))
  | 0, _ | 1, _ | 2, _ | 3, _ | 4, _ | 5, _ | 6, _ | 7, _ => rfl
  | k + 8, h => absurd h (by omega)
theorem histA_set {n i : Nat} {l : List Int} (h : (allL n)[i]? = some l) : ∀ k, k < 8 → roomsN l = (k : Nat) → (histA n i).setIfInBounds k (.int .i64 ((histN n i k : Nat) + 1)) = histA n (i + 1)
  | 0, _, e | 1, _, e | 2, _, e | 3, _, e | 4, _, e | 5, _, e | 6, _, e | 7, _, e => by
    simp [histA, hist_succ h, e]
  | k + 8, h, _ => absurd h (by omega)
/-- the blocks of the law: the size, the count, the rooms' counts, good -/
structure CntH (n b t : Nat) (ct : Int) (i : Nat) (w : World) : Prop where
  sz : b + 4 ≤ w.heap.size
  h0 : w.heap[b]? = some (.cells #[.int .i64 n] 3 (0, 0))
  h1 : w.heap[b + 1]? = some (.cells #[.int .i64 ct] 3 (0, 0))
  h2 : w.heap[b + 2]? = some (.cells (histA n i) t (0, 0))
  h3 : w.heap[b + 3]? = some (.cells #[.bool true] 4 (0, 0))
namespace CntH
variable {n b t i : Nat} {ct : Int} {w w' : World}
theorem step (h : CntH n b t ct i w) (hb : Below (b + 4) w w') : CntH n b t ct i w' where
  sz := Nat.le_trans h.sz hb.size
  h0 := (hb.block _ (by omega)).trans h.h0
  h1 := (hb.block _ (by omega)).trans h.h1
  h2 := (hb.block _ (by omega)).trans h.h2
  h3 := (hb.block _ (by omega)).trans h.h3
theorem new (h : CntH n b t ct i w) (hb : Below w.heap.size w w') : CntH n b t ct i w' := h.step (hb.mono h.sz)
theorem k0 (h : CntH n b t ct i w) : w.cell? ⟨b, 0, none⟩ = some (.int .i64 n) := by rw [World.cell?]; simp [h.h0]
theorem k1 (h : CntH n b t ct i w) : w.cell? ⟨b + 1, 0, none⟩ = some (.int .i64 ct) := by rw [World.cell?]; simp [h.h1]
theorem k2 (h : CntH n b t ct i w) {k : Nat} (hk : k < 8) : w.cell? ⟨b + 2, k, none⟩ = some (.int .i64 (histN n i k : Nat)) := by rw [World.cell?]; simp [h.h2, histA_get n i k hk]
theorem k3 (h : CntH n b t ct i w) : w.cell? ⟨b + 3, 0, none⟩ = some (.bool true) := by rw [World.cell?]; simp [h.h3]
theorem f1 (h : CntH n b t ct i w) (k : Nat) : w.frozen? ⟨b + 1, k, none⟩ = false := by simp [World.frozen?, h.h1]
theorem f2 (h : CntH n b t ct i w) (k : Nat) : w.frozen? ⟨b + 2, k, none⟩ = false := by simp [World.frozen?, h.h2]
theorem f3 (h : CntH n b t ct i w) (k : Nat) : w.frozen? ⟨b + 3, k, none⟩ = false := by simp [World.frozen?, h.h3]
theorem put3 (h : CntH n b t ct i w) : CntH n b t ct i (w.setCell ⟨b + 3, 0, none⟩ (.bool true)) where
  sz := by rw [setCell_size]; exact h.sz
  h0 := (setCell_other _ _ _ _ (by show b + 3 ≠ b; omega)).trans h.h0
  h1 := (setCell_other _ _ _ _ (by show b + 3 ≠ b + 1; omega)).trans h.h1
  h2 := (setCell_other _ _ _ _ (by show b + 3 ≠ b + 2; omega)).trans h.h2
  h3 := by have := setCell_own h.h3 0 (.bool true); simpa using this
theorem put1 (h : CntH n b t ct i w) (x : Int) : CntH n b t x i (w.setCell ⟨b + 1, 0, none⟩ (.int .i64 x)) where
  sz := by rw [setCell_size]; exact h.sz
  h0 := (setCell_other _ _ _ _ (by show b + 1 ≠ b; omega)).trans h.h0
  h1 := by have := setCell_own h.h1 0 (.int .i64 x); simpa using this
  h2 := (setCell_other _ _ _ _ (by show b + 1 ≠ b + 2; omega)).trans h.h2
  h3 := (setCell_other _ _ _ _ (by show b + 1 ≠ b + 3; omega)).trans h.h3
theorem put2 (h : CntH n b t ct i w) {l : List Int} {k : Nat} (hl : (allL n)[i]? = some l) (hk : k < 8) (e : roomsN l = (k : Nat)) : CntH n b t ct (i + 1) (w.setCell ⟨b + 2, k, none⟩ (.int .i64 ((histN n i k : Nat) + 1))) where
  sz := by rw [setCell_size]; exact h.sz
  h0 := (setCell_other _ _ _ _ (by show b + 2 ≠ b; omega)).trans h.h0
  h1 := (setCell_other _ _ _ _ (by show b + 2 ≠ b + 1; omega)).trans h.h1
  h2 := by have := setCell_own h.h2 k (.int .i64 ((histN n i k : Nat) + 1)); rw [histA_set hl k hk e] at this; exact this
  h3 := (setCell_other _ _ _ _ (by show b + 2 ≠ b + 3; omega)).trans h.h3
end CntH
theorem wf_small {l : List Int} (h : ∀ x ∈ l, 0 ≤ x ∧ x < 1000) : Wf l := fun x hx => by
  have := h x hx
  simp [Lit.wf, IntKind.min, IntKind.max, IntKind.signed, IntKind.bits]; omega
theorem Above.setCell {B : Nat} {w w' : World} (h : Above B w w') {p : Addr} (hp : p.block < B) (v : Value) : Above B w (w'.setCell p v) where
  size := by rw [setCell_size]; exact h.size
  block := fun k hk hk2 => (setCell_other _ _ _ _ (by omega)).trans (h.block k hk hk2)
theorem Above.more {B : Nat} {w w' w2 : World} (h : Above B w w') (hb : Below w'.heap.size w' w2) : Above B w w2 := h.trans (Above.of_below hb)

set_option maxHeartbeats 4000000 in
set_option maxRecDepth 100000 in
theorem cnt1_any (w0 : World) (n b t : Nat) (hn : n < 8) (hn1 : 1 ≤ n) (h0 : w0.heap.size ≤ b) (i : Nat) (l : List Int) (w : World) (a : Option Addr) (m c : Nat) (hl : (allL n)[i]? = some l) (hI : CntH n b t i i w) (hB : Below w0.heap.size w0 w) (h : IsL w a m c l) (hx : ∀ x, a = some x → b + 4 ≤ x.block) :
    Calls Try.prog 50 #[.slice a m c, .pointer (some ⟨b + 1, 0, none⟩), .pointer (some ⟨b + 3, 0, none⟩), .pointer (some ⟨b, 0, none⟩), .pointer (some ⟨b + 2, 0, none⟩)] w fun e w2 => e = .returned (.tuple #[]) ∧ (CntH n b t (i + 1 : Nat) (i + 1) w2 ∧ Below w0.heap.size w0 w2) ∧ Above (b + 4) w w2 := by
  obtain ⟨g1, g2, g3, g4, g5, g6, g7⟩ := good_get hn hn1 hl
  obtain rfl : m = n := by rw [← h.len, g1]
  have hil : i < 1000 := by
    have := (List.getElem?_eq_some_iff.1 hl).1
    have := (count_all m hn hn1).2.1
    omega
  obtain ⟨k, hk⟩ : ∃ k : Nat, roomsN l = (k : Int) := ⟨(roomsN l).toNat, by omega⟩
  have hk8 : k < 8 := by omega
  have hk8' : (k : Int) < 8 := by omega
  have hhl : histN m i k < 1000 := Nat.lt_of_le_of_lt (hist_le m i k) (count_all m hn hn1).2.1
  obtain ⟨q, hqq⟩ : ∃ q, histN m i k = q := ⟨_, rfl⟩
  have HQ := Lib.hid hqq
  rw [hqq] at hhl
  have hci : IntKind.i64.wrap ((i : Int) + 1) = (i : Int) + 1 := IntWalk.i64_in _ (by omega)
  have HKR := Lib.hid hk
  have HRB : Hid (0 ≤ roomsN l ∧ roomsN l ≤ 100) := Lib.hid (by omega)
  have HL := Lib.hid hl
  have HI := Lib.hid hI
  have HW : Hid (Wf l) := Lib.hid (wf_small fun r hr => by have := g7 r hr; omega)
  have HB := Lib.hid hB
  have HSZ := Lib.hid (show sizeE l.length = 0 by rw [g1, sizeE, if_neg (by omega), if_neg (by omega)])
  have GA : Hid (atE m i = 0) := Lib.hid (by
    by_cases he : atE m i = 0
    · exact he
    · rw [atL, if_neg he] at g3; rw [← g3] at g1; simp at g1; omega)
  have G2 := Lib.hid g2
  have G3 := Lib.hid g3
  have G4 := Lib.hid g4
  have G5 := Lib.hid g5
  clear g1 g2 g3 g4 g5 g6 g7 hqq hk
  by_cases hq : i % 4 = 0
  · have e4 : ((i : Int) % 4 == 0) = true := by simp; omega
    have c0 := hI.k0
    have c1 := hI.k1
    have c3 := hI.k3
    clear hl hI hB hq
    go_enter Try.func50, Try.ntmps50
    go_wp2_with fail
    refine (At_c _ _ _ G3.out GA.out).mono ?_
    rintro e w1 ⟨a1, m1, cc1, rfl, l1, b1⟩
    have HI1 := Lib.hid (HI.out.new b1)
    have HB1 := Lib.hid (HB.out.trans (b1.mono HB.out.size))
    have HA1 := Lib.hid (Above.of_below (B := b + 4) b1)
    have h1 := h.below b1
    clear c0 c1 c3
    go_wp2_with fail
    refine (Number_c _ _ _ _ h1 G2.out G4.out).mono ?_
    rintro e w2 ⟨rfl, b2⟩
    have HI2 := Lib.hid (HI1.out.new b2)
    have HB2 := Lib.hid (HB1.out.trans (b2.mono HB1.out.size))
    have HA2 := Lib.hid (HA1.out.more b2)
    have h2 := h1.below b2
    have l2 := l1.below b2
    clear HI1 HB1 HA1 h1 l1
    go_wp2_with fail
    refine (Of_c _ _ _ _ h2 G5.out HSZ.out HW.out).mono ?_
    rintro e w3 ⟨a3, m3, cc3, rfl, l3, b3⟩
    have HI3 := Lib.hid (HI2.out.new b3)
    have HB3 := Lib.hid (HB2.out.trans (b3.mono HB2.out.size))
    have HA3 := Lib.hid (HA2.out.more b3)
    have h3 := h2.below b3
    have l23 := l2.below b3
    have s1 := HI3.out.k1
    clear HI2 HB2 HA2 h2 l2 b1 b2 b3
    go_wp2_with fail
    refine (same_c l23 h3).mono ?_
    rintro e w4 ⟨rfl, b4⟩
    have l34 := l3.below b4
    have h4 := h3.below b4
    have HI4 := HI3.out.new b4
    have HB4 := HB3.out.trans (b4.mono HB3.out.size)
    have HA4 := HA3.out.more b4
    have s1 := HI4.k1
    go_wp2_with fail
    refine (same_c l34 h4).mono ?_
    rintro e w5 ⟨rfl, b5⟩
    have HI5 := HI4.new b5
    have HB5 := HB4.trans (b5.mono HB4.size)
    have HA5 := HA4.more b5
    have h5 := h4.below b5
    clear s1
    have s3 := HI5.f3 0
    have HI6 := HI5.put3
    have HA6 := Above.setCell HA5 (p := ⟨b + 3, 0, none⟩) (by show b + 3 < b + 4; omega) (.bool true)
    have HB6 := Below.setCell HB5 (p := ⟨b + 3, 0, none⟩) (by show w0.heap.size ≤ b + 3; omega) (.bool true)
    have h6 := h.above HA6 hx
    have s4 := HI5.k3
    have s1 := HI5.k1
    clear HI3 HB3 HA3 h3 l3 l23 l34 h4 b4 b5 HI4 HB4 HA4 HI5 HB5 HA5
    go_upto_region 5 with (fail)
    clear s1 s3 s4
    obtain ⟨W6, hW6⟩ : ∃ W, w5.setCell ⟨b + 3, 0, none⟩ (.bool true) = W := ⟨_, rfl⟩
    simp only [hW6]
    rw [hW6] at HI6 HA6 HB6
    clear hW6 h5 h6
    have K6 := HI6
    have A6 := HA6
    have B6 := HB6
    clear HI6 HA6 HB6
    have s1 := K6.k1
    have s2 := K6.f1 0
    have K7 := K6.put1 ((i : Int) + 1)
    have A7 := Above.setCell A6 (p := ⟨b + 1, 0, none⟩) (by show b + 1 < b + 4; omega) (.int .i64 ((i : Int) + 1))
    have B7 := Below.setCell B6 (p := ⟨b + 1, 0, none⟩) (by show w0.heap.size ≤ b + 1; omega) (.int .i64 ((i : Int) + 1))
    have h7 := h.above A7 hx
    obtain ⟨W7, hW7⟩ : ∃ W, W6.setCell ⟨b + 1, 0, none⟩ (.int .i64 ((i : Int) + 1)) = W := ⟨_, rfl⟩
    rw [hW7] at K7 A7 B7 h7
    go_upto_region 6 with (fail)
    try simp only [hW7]
    clear hW7 s1 s2
    have s1 := K7.k2 hk8
    have s2 := K7.f2 k
    rw [HQ.out] at s1
    have K8 := K7.put2 HL.out hk8 HKR.out
    rw [HQ.out] at K8
    have K8 := Lib.hid K8
    have A8 := Lib.hid (Above.setCell A7 (p := ⟨b + 2, k, none⟩) (by show b + 2 < b + 4; omega) (.int .i64 ((q : Int) + 1)))
    have B8 := Lib.hid (Below.setCell B7 (p := ⟨b + 2, k, none⟩) (by show w0.heap.size ≤ b + 2; omega) (.int .i64 ((q : Int) + 1)))
    clear K7 A7 B7 K6 A6 B6
    go_wp2_with fail
    refine (rooms_any a m c l _ h7 hn1 HRB.out).mono ?_
    rintro e w9 ⟨rfl, rfl⟩
    rw [HKR.out]
    go_wp2
    go_end0
    exact ⟨rfl, ⟨by rw [show ((i + 1 : Nat) : Int) = (i : Int) + 1 by omega]; exact K8.out, B8.out⟩, A8.out⟩
  · have e4 : ((i : Int) % 4 == 0) = false := by simp; omega
    have hA := Above.refl (b + 4) w
    have s1 := hI.k1
    have s3 := hI.k3
    clear hl hq
    go_enter Try.func50, Try.ntmps50
    go_upto_region 5 with (fail)
    clear s1 s3
    have s1 := hI.k1
    have s2 := hI.f1 0
    have K7 := hI.put1 ((i : Int) + 1)
    have A7 := Above.setCell hA (p := ⟨b + 1, 0, none⟩) (by show b + 1 < b + 4; omega) (.int .i64 ((i : Int) + 1))
    have B7 := Below.setCell hB (p := ⟨b + 1, 0, none⟩) (by show w0.heap.size ≤ b + 1; omega) (.int .i64 ((i : Int) + 1))
    have h7 := h.above A7 hx
    obtain ⟨W7, hW7⟩ : ∃ W, w.setCell ⟨b + 1, 0, none⟩ (.int .i64 ((i : Int) + 1)) = W := ⟨_, rfl⟩
    rw [hW7] at K7 A7 B7 h7
    go_upto_region 6 with (fail)
    try simp only [hW7]
    clear hW7 s1 s2
    have s1 := K7.k2 hk8
    have s2 := K7.f2 k
    rw [HQ.out] at s1
    have K8 := K7.put2 HL.out hk8 HKR.out
    rw [HQ.out] at K8
    have K8 := Lib.hid K8
    have A8 := Lib.hid (Above.setCell A7 (p := ⟨b + 2, k, none⟩) (by show b + 2 < b + 4; omega) (.int .i64 ((q : Int) + 1)))
    have B8 := Lib.hid (Below.setCell B7 (p := ⟨b + 2, k, none⟩) (by show w0.heap.size ≤ b + 2; omega) (.int .i64 ((q : Int) + 1)))
    clear K7 A7 B7 hI hA hB
    go_wp2_with fail
    refine (rooms_any a m c l _ h7 hn1 HRB.out).mono ?_
    rintro e w9 ⟨rfl, rfl⟩
    rw [HKR.out]
    go_wp2
    go_end0
    exact ⟨rfl, ⟨by rw [show ((i + 1 : Nat) : Int) = (i : Int) + 1 by omega]; exact K8.out, B8.out⟩, A8.out⟩
end Go.Proofs.Ytjedmiegcbdedaa
