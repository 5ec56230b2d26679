/- Walks of chapter 11: StoreKreweras' closure. -/
import Derived.Test.YtjedmiegcbdedaaXe
import Derived.Test.YtjedmiegcbdedaaXd
import Derived.Test.YtjedmiegcbdedaaLib6
import Derived.Test.YtjedmiegcbdedaaLib8
import Derived.Test.YtjedmiegcbdedaaPz
import Derived.Test.YtjedmiegcbdedaaWu
import Derived.Test.YtjedmiegcbdedaaWy
import Derived.BigQuiet
namespace Go.Proofs.Ytjedmiegcbdedaa
open Go.RowKit Store11
abbrev VW : Value → Value := fun v => v
theorem cellV {w : World} {g : Nat} {t : TypeId} {l : List Value} (h : ArrV VW w g t l) (i : Nat) {v : Value} (hv : l[i]? = some v) : w.cell? ⟨g, i, none⟩ = some v := by
  obtain ⟨hi, e⟩ := List.getElem?_eq_some_iff.1 hv
  have := h.cell i v hi
  rw [this]
  simp [List.getD, hv]
theorem ArrV.blockK {α : Type} {f : α → Value} {w w' : World} {g : Nat} {t : TypeId} {l : List α} (h : ArrV f w g t l) (hb : w'.heap[g]? = w.heap[g]?) : ArrV f w' g t l := hb.trans h
noncomputable abbrev encS : KeyEnc Try.prog 9 ByteArray := encStr Try.underlying9
/-- the blocks of StoreKreweras: how many boxes, the count, good, the names met (a map, and its box) -/
structure KrS (w0 : World) (g n N ct sz : Nat) (f : ByteArray → Bool) (w : World) : Prop where
  s5 : g + 5 ≤ w.heap.size
  hn : ArrV VW w g 3 [.int .i64 (n : Int)]
  hc : ArrV VW w (g + 1) 3 [.int .i64 (ct : Int)]
  hg : ArrV VW w (g + 2) 4 [.bool true]
  hm : MapB encS 4 w (g + 3) N sz f
  hx : ArrV VW w (g + 4) 61 [.map (some (g + 3))]
  bel : Below g w0 w
namespace KrS
variable {w0 w w' : World} {g n N ct sz : Nat} {f : ByteArray → Bool}
theorem newB (h : KrS w0 g n N ct sz f w) (hb : Below (g + 5) w w') : KrS w0 g n N ct sz f w' := by
  have hs := h.s5
  have k : ∀ b, b < g + 5 → w'.heap[b]? = w.heap[b]? := fun b hbb => hb.block b hbb
  exact ⟨Nat.le_trans h.s5 hb.size, h.hn.blockK (k _ (by omega)), h.hc.blockK (k _ (by omega)), h.hg.blockK (k _ (by omega)), h.hm.block (k _ (by omega)), h.hx.blockK (k _ (by omega)), h.bel.trans (hb.mono (by omega))⟩
theorem new (h : KrS w0 g n N ct sz f w) (hb : Below w.heap.size w w') : KrS w0 g n N ct sz f w' := h.newB (hb.mono h.s5)
theorem putg (h : KrS w0 g n N ct sz f w) : KrS w0 g n N ct sz f (w.setCell ⟨g + 2, 0, none⟩ (.bool true)) :=
  ⟨by rw [setCell_size]; exact h.s5, h.hn.other (by show g + 2 ≠ g; omega) _, h.hc.other (by show g + 2 ≠ g + 1; omega) _, h.hg.set 0 (.bool true), h.hm.setCell (by show g + 3 ≠ g + 2; omega) _, h.hx.other (by show g + 2 ≠ g + 4; omega) _, h.bel.setCell (p := ⟨g + 2, 0, none⟩) (by show g ≤ g + 2; omega) _⟩
theorem putc (h : KrS w0 g n N ct sz f w) (x : Nat) : KrS w0 g n N x sz f (w.setCell ⟨g + 1, 0, none⟩ (.int .i64 (x : Int))) :=
  ⟨by rw [setCell_size]; exact h.s5, h.hn.other (by show g + 1 ≠ g; omega) _, h.hc.set 0 (.int .i64 (x : Int)), h.hg.other (by show g + 1 ≠ g + 2; omega) _, h.hm.setCell (by show g + 3 ≠ g + 1; omega) _, h.hx.other (by show g + 1 ≠ g + 4; omega) _, h.bel.setCell (p := ⟨g + 1, 0, none⟩) (by show g ≤ g + 1; omega) _⟩
theorem putm {N' sz' : Nat} {f' : ByteArray → Bool} (h : KrS w0 g n N ct sz f w) (hg : w.grownBy w' (some (g + 3))) (hM : MapB encS 4 w' (g + 3) N' sz' f') : KrS w0 g n N' ct sz' f' w' := by
  have hs := h.s5
  have k : ∀ b, b < g + 5 → b ≠ g + 3 → w'.heap[b]? = w.heap[b]? := fun b hb hne => hg.block b (by omega) (by simpa using hne)
  exact ⟨Nat.le_trans h.s5 hg.size, h.hn.blockK (k _ (by omega) (by omega)), h.hc.blockK (k _ (by omega) (by omega)), h.hg.blockK (k _ (by omega) (by omega)), hM, h.hx.blockK (k _ (by omega) (by omega)), h.bel.grown hg (by omega) (fun q hq => by cases hq; omega)⟩
theorem monoN {N' : Nat} (h : KrS w0 g n N ct sz f w) (hN : N ≤ N') : KrS w0 g n N' ct sz f w := ⟨h.s5, h.hn, h.hc, h.hg, h.hm.mono hN, h.hx, h.bel⟩
end KrS
theorem above_grown {w w' : World} {B b : Nat} (hg : w.grownBy w' (some b)) (hb : b < B) : Above B w w' := ⟨hg.size, fun k hk hk2 => hg.block k hk2 (by simp; omega)⟩
def nmK (l : List Int) : ByteArray := nameB (gapL l)
def seenK (L : List (List Int)) (s : ByteArray) : Bool := L.any fun l => decide ((cnX l).1 = 0) && decide (s = nmK l)
def KrI (w0 : World) (g n i : Nat) (w : World) : Prop := KrS w0 g n i (flatC ((allL n).take i)) (flatC ((allL n).take i)) (seenK ((allL n).take i)) w
theorem take_atK {n i : Nat} {l : List Int} (h : (allL n)[i]? = some l) : (allL n).take (i + 1) = (allL n).take i ++ [l] := by
  rw [List.take_add_one, h]; rfl
theorem flatC_snoc (L : List (List Int)) (l : List Int) : flatC (L ++ [l]) = flatC L + if (cnX l).1 = 0 then 1 else 0 := by
  unfold flatC; rw [List.countP_append, List.countP_singleton]; simp
theorem seenK_snoc (L : List (List Int)) (l : List Int) (s : ByteArray) : seenK (L ++ [l]) s = (seenK L s || (decide ((cnX l).1 = 0) && decide (s = nmK l))) := by
  unfold seenK; rw [List.any_append]; simp
theorem smallK {n : Nat} {l : List Int} (h : smL n l = true) : ∀ x ∈ l, 0 ≤ x ∧ x ≤ 25 := fun x hx => by
  obtain ⟨i, hi, rfl⟩ := List.mem_iff_getElem.1 hx
  obtain ⟨h1, h2⟩ := smL_get h
  have := h2 i (by omega)
  simp only [List.getD, List.getElem?_eq_getElem hi, Option.getD_some] at this
  omega
theorem seenK_not {n i : Nat} {l : List Int} (hn : n < 7) (h1 : 1 ≤ n) (h : (allL n)[i]? = some l) (hc : (cnX l).1 = 0) : seenK ((allL n).take i) (nmK l) = false := by
  unfold seenK
  rw [Bool.eq_false_iff]
  intro hany
  obtain ⟨l', hm, he⟩ := List.any_eq_true.1 hany
  rw [Bool.and_eq_true, decide_eq_true_eq, decide_eq_true_eq] at he
  obtain ⟨j, hj, e⟩ := List.mem_iff_getElem.1 hm
  rw [List.length_take] at hj
  rw [List.getElem_take] at e
  obtain ⟨hi, ei⟩ := List.getElem?_eq_some_iff.1 h
  have m1 : l ∈ allL n := by rw [← ei]; exact List.getElem_mem _
  have m2 : l' ∈ allL n := List.mem_of_mem_take hm
  have k1 := (krew_get hn h1 m1).2.2.2.2.2 (by omega)
  have k2 := (krew_get hn h1 m2).2.2.2.2.2 (by omega)
  have hs := gap_inj k1 k2 (nameB_inj (smallK k1.gs) (smallK k2.gs) he.2)
  subst hs
  have := (List.pairwise_iff_getElem.1 (allL_nodup n hn h1)) j i (by omega) hi (by omega)
  rw [e, ei] at this
  exact this rfl
theorem at_isG {w : World} {bb oo n c i : Nat} {l : List Int} (h : IsL w (some ⟨bb, oo, none⟩) n c l) (hi : i < n) : w.cell? ⟨bb, oo + i, none⟩ = some (.int .i64 (l.getD i 0)) := by
  obtain ⟨b9, o9, e9, _, hc⟩ := h.cells (by omega)
  obtain ⟨rfl, rfl⟩ : b9 = bb ∧ o9 = oo := by simpa [eq_comm] using e9
  exact hc i hi
theorem isG_addr {w : World} {a : Option Addr} {n c : Nat} {l : List Int} (h : IsL w a n c l) (hn : 0 < n) : ∃ b o, a = some ⟨b, o, none⟩ := by
  obtain ⟨b, o, h, _⟩ := h.cells hn
  exact ⟨b, o, h⟩
theorem wfK {n : Nat} {l : List Int} (h : smL n l = true) : Wf l := wf_small fun x hx => by have := smallK h x hx; omega
set_option maxHeartbeats 8000000 in
set_option maxRecDepth 100000 in
theorem krew_no (w0 : World) (g n : Nat) (hn1 : 1 ≤ n) (hn : n < 7) (i : Nat) (l : List Int) (w : World) (a : Option Addr) (m c : Nat) (hl : (allL n)[i]? = some l) (hI : KrI w0 g n i w) (h1 : IsL w a m c l) (hc : 0 < (cnX l).1) :
    Calls Try.prog 56 #[.slice a m c, .pointer (some ⟨g + 2, 0, none⟩), .pointer (some ⟨g + 1, 0, none⟩), .pointer (some ⟨g, 0, none⟩), .pointer (some ⟨g + 4, 0, none⟩)] w fun e w2 => e = .returned (.tuple #[]) ∧ KrI w0 g n (i + 1) w2 ∧ Above (g + 5) w w2 := by
  have htk := take_atK hl
  have hm : l ∈ allL n := by obtain ⟨hi, ei⟩ := List.getElem?_eq_some_iff.1 hl; rw [← ei]; exact List.getElem_mem _
  obtain ⟨k1, k2, k3, k4, k5, _⟩ := krew_get hn hn1 hm
  have hfl := k5 hc
  have hgp : gapL l = [] := by unfold gapL; rw [if_neg (by rw [hfl]; decide)]
  have hbk : backL l = [] := by unfold backL; rw [if_neg (by rw [hfl]; decide)]
  have hll := (smL_get k1).1
  obtain rfl : m = n := by rw [← h1.len, hll]
  have HEND : Hid (∀ W, KrI w0 g m i W → KrI w0 g m (i + 1) W) := Lib.hid fun W h => by
    unfold KrI at h ⊢
    rw [htk, flatC_snoc, if_neg (by omega), Nat.add_zero, show seenK ((allL m).take i ++ [l]) = seenK ((allL m).take i) from funext fun s => by rw [seenK_snoc, show decide ((cnX l).1 = 0) = false from decide_eq_false (by omega)]; simp]
    exact KrS.monoN h (Nat.le_succ i)
  have HW := Lib.hid (wfK k1)
  have HFL := Lib.hid hfl
  have HGP := Lib.hid hgp
  have HBK := Lib.hid hbk
  obtain ⟨x, hx⟩ : ∃ x, (cnX l).1 = x := ⟨_, rfl⟩
  obtain ⟨y, hy⟩ : ∃ y, (cnX l).2 = y := ⟨_, rfl⟩
  have HX := Lib.hid hx
  have HY := Lib.hid hy
  rw [hx] at hc
  have HCX := Lib.hid (larcs_any a m c l w h1 (by omega))
  rw [hx, hy] at HCX
  have HI := Lib.hid hI
  have y0 := cellV (show KrS w0 g m i _ _ _ w from hI).hg 0 rfl
  have q0 : decide (0 < x) = true := decide_eq_true hc
  have HH := Lib.hid h1
  clear htk hm k1 k2 k3 k4 k5 hfl hgp hbk hll hx hy hI h1 hl
  go_enter Try.func56, Try.ntmps56
  go_wp2_with fail
  refine HCX.out.mono ?_
  rintro e w1 ⟨rfl, b1⟩
  have h2 := HH.out.below b1
  clear y0 HCX
  go_wp2_with fail
  refine (Gaps_c _ _ _ _ h2 HGP.out HFL.out HW.out).mono ?_
  rintro e w2 ⟨a2, n2, c2, rfl, l2, b2⟩
  obtain rfl : n2 = 0 := l2.len.symm
  have hb2 := b1.trans (b2.mono b1.size)
  have h3 := HH.out.below hb2
  clear b1 b2 h2 l2
  go_wp2_with fail
  refine (Back_c _ _ _ _ h3 HBK.out HFL.out HW.out).mono ?_
  rintro e w3 ⟨a3, n3, c3, rfl, l3, b3⟩
  obtain rfl : n3 = 0 := l3.len.symm
  have hb3 := hb2.trans (b3.mono hb2.size)
  have hK3 := KrS.new HI.out hb3
  have y0 := cellV hK3.hg 0 rfl
  have y1 := hK3.hg.frozen 0
  have HF := Lib.hid (HEND.out _ hK3.putg)
  have A3 := Lib.hid (Above.setCell (Above.of_below hb3) (B := g + 5) (p := ⟨g + 2, 0, none⟩) (by show g + 2 < g + 5; omega) (.bool true))
  clear b3 hb2 h3 l3 hb3 hK3
  go_wp2_with fail
  (try simp only [Exit.inBlock, Exit.then])
  refine bodyPost_ret (results_none rfl _ _ _) rfl ?_
  exact ⟨rfl, HF.out, A3.out⟩
theorem Gaps_o {a : Option Addr} {n c g : Nat} {l : List Int} {w : World} (h : IsL w a n c l) (hw : Wf l) (hz : flatE l = 0) (hg : g ≤ w.heap.size) : Calls Try.prog 39 #[.slice a n c] w fun e w' => ∃ a' n' c', e = .returned (.tuple #[.slice a' n' c', .int .i64 0]) ∧ OwnL w' 3 g a' n' c' (gapL l) ∧ Below w.heap.size w w' := by
  have := Gaps_own a n c l w h hw hz
  rw [hz] at this
  exact this.mono fun _ _ ⟨a', n', c', e, o, b⟩ => ⟨a', n', c', e, o.weaken hg, b⟩
theorem Back_o {a : Option Addr} {n c g : Nat} {l : List Int} {w : World} (h : IsL w a n c l) (hw : Wf l) (hz : flatE l = 0) (hg : g ≤ w.heap.size) : Calls Try.prog 41 #[.slice a n c] w fun e w' => ∃ a' n' c', e = .returned (.tuple #[.slice a' n' c', .int .i64 0]) ∧ OwnL w' 3 g a' n' c' (backL l) ∧ Below w.heap.size w w' := by
  have := Back_own a n c l w h hw hz
  rw [hz] at this
  exact this.mono fun _ _ ⟨a', n', c', e, o, b⟩ => ⟨a', n', c', e, o.weaken hg, b⟩
set_option maxHeartbeats 32000000 in
set_option maxRecDepth 100000 in
theorem krew_yes (w0 : World) (g n : Nat) (hn1 : 1 ≤ n) (hn : n < 7) (i0 : Nat) (l : List Int) (w : World) (a : Option Addr) (m c : Nat) (hl : (allL n)[i0]? = some l) (hI : KrI w0 g n i0 w) (h1 : IsL w a m c l) (hx : ∀ x, a = some x → g + 5 ≤ x.block) (hc : ¬ 0 < (cnX l).1) :
    Calls Try.prog 56 #[.slice a m c, .pointer (some ⟨g + 2, 0, none⟩), .pointer (some ⟨g + 1, 0, none⟩), .pointer (some ⟨g, 0, none⟩), .pointer (some ⟨g + 4, 0, none⟩)] w fun e w2 => e = .returned (.tuple #[]) ∧ KrI w0 g n (i0 + 1) w2 ∧ Above (g + 5) w w2 := by
  have htk := take_atK hl
  have hm : l ∈ allL n := by obtain ⟨hi, ei⟩ := List.getElem?_eq_some_iff.1 hl; rw [← ei]; exact List.getElem_mem _
  obtain ⟨k1, k2, k3, k4, k5, k6⟩ := krew_get hn hn1 hm
  clear k5
  have K := k6 hc
  have hc0 : (cnX l).1 = 0 := by omega
  have hll := (smL_get k1).1
  obtain rfl : m = n := by rw [← h1.len, hll]
  have hil : i0 < 1000 := by
    have h9 := (List.getElem?_eq_some_iff.1 hl).1
    have := (krew_cnt m hn hn1).2.2
    omega
  have hct : flatC ((allL m).take i0) ≤ i0 := Nat.le_trans List.countP_le_length (by rw [List.length_take]; omega)
  have hnew := seenK_not hn hn1 hl hc0
  have HEND : Hid (∀ W, KrS w0 g m (i0 + 1) (flatC ((allL m).take i0) + 1) (flatC ((allL m).take i0) + 1) (fun y => decide (y = nmK l) || seenK ((allL m).take i0) y) W → KrI w0 g m (i0 + 1) W) := Lib.hid fun W h => by
    unfold KrI
    rw [htk, flatC_snoc, if_pos hc0, show seenK ((allL m).take i0 ++ [l]) = fun y => decide (y = nmK l) || seenK ((allL m).take i0) y from funext fun s => by rw [seenK_snoc, decide_eq_true hc0, Bool.true_and, Bool.or_comm]]
    exact h
  have HW := Lib.hid (wfK k1)
  have HWG := Lib.hid (wfK K.gs)
  have HWB := Lib.hid (wfK K.bs)
  have HK := Lib.hid K
  have HSG := Lib.hid (smallK K.gs)
  have HLG := Lib.hid (smL_get K.gs).1
  have HLB := Lib.hid (smL_get K.bs).1
  have HSL : Hid (∀ k, k < m → ∃ v : Nat, l.getD k 0 = (v : Int) ∧ v < 7) := Lib.hid fun k hk => by
    have := (smL_get k1).2 k hk
    exact ⟨(l.getD k 0).toNat, by omega, by omega⟩
  have HCH := Lib.hid k2
  have HSI : Hid (∀ k, k < m → ∃ v : Nat, (gapL l).getD k 0 = (v : Int) ∧ v < 7) := Lib.hid fun k hk => by
    have := (smL_get K.gs).2 k hk
    exact ⟨((gapL l).getD k 0).toNat, by omega, by omega⟩
  have HLL := Lib.hid hll
  obtain ⟨R, hR⟩ : ∃ R : Nat, roomsN l = (R : Int) := ⟨(roomsN l).toNat, by omega⟩
  obtain ⟨G, hG⟩ : ∃ G : Nat, roomsN (gapL l) = (G : Int) := ⟨(roomsN (gapL l)).toNat, by have := K.gr; omega⟩
  have hR7 : 1 ≤ R ∧ R ≤ 7 := by omega
  have hG7 : 1 ≤ G ∧ G ≤ 7 := by have := K.gr; omega
  have hGR : (G : Int) + (R : Int) = (m : Int) + 1 := by have := K.rs; omega
  have HRB : Hid (0 ≤ roomsN l ∧ roomsN l ≤ 100) := Lib.hid (by omega)
  have HGB : Hid (0 ≤ roomsN (gapL l) ∧ roomsN (gapL l) ≤ 100) := Lib.hid (by omega)
  have HDF : Hid (∀ i j, i < j → j < m → wholeR l i j R = decide ((gapL l).getD i 0 = (gapL l).getD j 0)) := Lib.hid fun i j h1 h2 => by
    have := defB_get K.df (by omega : j < l.length) h1
    rwa [hR, Int.toNat_natCast] at this
  have HR := Lib.hid hR
  have HG := Lib.hid hG
  have HGR := Lib.hid hGR
  obtain ⟨y, hy⟩ : ∃ y, (cnX l).2 = y := ⟨_, rfl⟩
  obtain ⟨y2, hy2⟩ : ∃ y, (cnX (gapL l)).2 = y := ⟨_, rfl⟩
  have HCX := Lib.hid (larcs_any a m c l w h1 (by omega))
  rw [hc0, hy] at HCX
  have HCG : Hid (∀ a n c w, IsL w a n c (gapL l) → n ≤ 100 → Calls Try.prog 49 #[.slice a n c] w fun e w' => e = .returned (.tuple #[.int .i64 0, .int .i64 y2]) ∧ Below w.heap.size w w') := Lib.hid fun a n c w h hn => by
    have := larcs_any a n c (gapL l) w h hn
    rwa [K.gx, hy2] at this
  have hF : KrS w0 g m i0 (flatC ((allL m).take i0)) (flatC ((allL m).take i0)) (seenK ((allL m).take i0)) w := hI
  obtain ⟨ct, hct2⟩ : ∃ ct, flatC ((allL m).take i0) = ct := ⟨_, rfl⟩
  obtain ⟨f, hf⟩ : ∃ f, seenK ((allL m).take i0) = f := ⟨_, rfl⟩
  rw [hct2] at hF hct HEND
  rw [hf] at hF hnew HEND
  have HNEW := Lib.hid hnew
  have HF := Lib.hid hF
  have HH := Lib.hid h1
  have HX := Lib.hid hx
  have y0 := cellV hF.hg 0 rfl
  have hcap := h1.cap
  have hle := h1.le
  clear htk hm k1 k2 k3 k4 k6 K hc hc0 hll hnew hR hG hGR hy hy2 hI hF h1 hx hl hct2 hf
  go_enter Try.func56, Try.ntmps56
  go_wp2_with fail
  refine HCX.out.mono ?_
  rintro e w1 ⟨rfl, b1⟩
  have h2 := HH.out.below b1
  clear y0 HCX
  go_wp2_with fail
  have s1 : g + 5 ≤ w1.heap.size := Nat.le_trans HF.out.s5 b1.size
  refine (Gaps_o h2 HW.out HK.out.fl s1).mono ?_
  rintro e w2 ⟨ag, ng, cg, rfl, l2, b2⟩
  obtain rfl : ng = m := by rw [← l2.len]; exact HLG.out
  have hb2 := b1.trans (b2.mono b1.size)
  have h3 := HH.out.below hb2
  have HG2 := Lib.hid l2
  have s2 : g + 5 ≤ w2.heap.size := Nat.le_trans HF.out.s5 hb2.size
  clear b1 b2 h2 l2 s1
  go_wp2_with fail
  refine (Back_o h3 HW.out HK.out.fl s2).mono ?_
  rintro e w3 ⟨ab, nb, cb, rfl, l3, b3⟩
  obtain rfl : nb = ng := by rw [← l3.len]; exact HLB.out
  have hb3 := hb2.trans (b3.mono hb2.size)
  have hF3 := HF.out.new hb3
  have c1 := cellV hF3.hc 0 rfl
  have c2 := hF3.hc.frozen 0
  have hF4 := hF3.putc (ct + 1)
  have A4 := Above.setCell (Above.of_below hb3) (B := g + 5) (p := ⟨g + 1, 0, none⟩) (by show g + 1 < g + 5; omega) (.int .i64 ((ct + 1 : Nat) : Int))
  have A3 := Above.setCell (Above.refl (g + 5) w3) (p := ⟨g + 1, 0, none⟩) (by show g + 1 < g + 5; omega) (.int .i64 ((ct + 1 : Nat) : Int))
  have HG4 := Lib.hid ((HG2.out.below b3).above A3)
  have HB4 := Lib.hid (l3.above A3)
  have HH4 := Lib.hid (HH.out.above A4 HX.out)
  have e9 : ((ct + 1 : Nat) : Int) = (ct : Int) + 1 := by omega
  rw [e9] at hF4 A4 A3 HG4 HB4 HH4
  have HF4 := Lib.hid hF4
  have HA4 := Lib.hid A4
  clear b3 hb2 h3 l3 hF3 e9 HG2 A3 A4 hF4 s2 hb3
  go_upto_region 7 with (fail)
  obtain ⟨w4, hw4⟩ : ∃ W, w3.setCell ⟨g + 1, 0, none⟩ (.int .i64 ((ct : Int) + 1)) = W := ⟨_, rfl⟩
  try simp only [hw4]
  rw [hw4] at HF4 HA4 HG4 HB4 HH4
  clear hw4 c1 c2
  have y3 := cellV HF4.out.hn 0 rfl
  have e1 : (G : Int) + (R : Int) = (nb : Int) + 1 := HGR.out
  have HQ1 : Hid (∀ q, Calls Try.prog 21 #[.slice ag nb cg] (w4.drewN q) fun e w' => e = .returned (.int .i64 0) ∧ w' = w4.drewN q) := Lib.hid fun q => (Check_any _ _ _ _ _ (HG4.out.isL.below (belowN (Below.refl _ _) q))).mono fun _ _ h => ⟨by rw [h.1, HK.out.gc], h.2.symm⟩
  have HQ2 : Hid (∀ q, Calls Try.prog 51 #[.slice ag nb cg] (w4.drewN q) fun e w' => e = .returned (.int .i64 (G : Int)) ∧ w' = w4.drewN q) := Lib.hid fun q => (rooms_any _ _ _ _ _ (HG4.out.isL.below (belowN (Below.refl _ _) q)) hn1 HGB.out).mono fun _ _ h => ⟨by rw [h.1, HG.out], h.2.symm⟩
  have HQ3 : Hid (∀ q, Calls Try.prog 51 #[.slice a nb c] (w4.drewN q) fun e w' => e = .returned (.int .i64 (R : Int)) ∧ w' = w4.drewN q) := Lib.hid fun q => (rooms_any _ _ _ _ _ (HH4.out.below (belowN (Below.refl _ _) q)) hn1 HRB.out).mono fun _ _ h => ⟨by rw [h.1, HR.out], h.2.symm⟩
  go_quiet (with_reducible first | (go_at_call 21; exact Calls.quiet_of_same (HQ1.out _)) | (go_at_call 51; exact Calls.quiet_of_same (HQ2.out _)) | (go_at_call 51; exact Calls.quiet_of_same (HQ3.out _)))
  obtain ⟨w5, hw5⟩ : ∃ W, w4.drewN nq = W := ⟨_, rfl⟩
  have hb5 : Below w4.heap.size w4 w5 := by rw [← hw5]; exact belowN (Below.refl _ _) nq
  try simp only [hw5]
  have HF5 := Lib.hid (HF4.out.new hb5)
  have HA5 := Lib.hid (HA4.out.trans (Above.of_below hb5 (B := g + 5)))
  have HG5 := Lib.hid (HG4.out.below hb5)
  have HB5 := Lib.hid (HB4.out.below hb5)
  have HH5 := Lib.hid (HH4.out.below hb5)
  clear HQ1 HQ2 HQ3 y3 e1 hw5 hb5 HF4 HA4 HG4 HB4 HH4
  go_wp2_with fail
  refine (HCG.out _ _ _ _ HG5.out.isL (by omega)).mono ?_
  rintro e w6 ⟨rfl, b6⟩
  have HF6 := Lib.hid (HF5.out.new b6)
  have HA6 := Lib.hid (HA5.out.trans (Above.of_below b6 (B := g + 5)))
  have HG6 := Lib.hid (HG5.out.below b6)
  have HB6 := Lib.hid (HB5.out.below b6)
  have HH6 := Lib.hid (HH5.out.below b6)
  clear b6 HF5 HA5 HG5 HB5 HH5 HCG
  have y3 := cellV HF6.out.hn 0 rfl
  go_wp2_with fail
  go_loopw [97] (fun vj wr => ∃ j : Nat, j ≤ nb ∧ vj = .int .i64 (j : Int) ∧ Below w6.heap.size w6 wr) (fun vj _ => nb - (intOf vj).toNat)
  case atStart => exact ⟨0, by omega, rfl, Below.refl _ _⟩
  case round =>
    clear y3
    obtain ⟨j, hj, rfl, hb⟩ := hrel
    by_cases hjm : j < nb
    · have q1 : (j : Int) < (nb : Int) := by omega
      go_wp2_with fail
      go_loopw [101] (fun vi wr => ∃ i : Nat, i ≤ j ∧ vi = .int .i64 (i : Int) ∧ Below w6.heap.size w6 wr) (fun vi _ => j - (intOf vi).toNat)
      case atStart => exact ⟨0, by omega, rfl, hb⟩
      case round =>
        clear hb
        obtain ⟨i, hi, rfl, hb⟩ := hrel
        by_cases hij : i < j
        · have q2 : (i : Int) < (j : Int) := by omega
          have HI9 := Lib.hid (HH6.out.below hb)
          go_wp2_with fail
          refine (rooms_any _ _ _ _ _ HI9.out hn1 HRB.out).mono ?_
          rintro e wq ⟨rfl, rfl⟩
          rw [HR.out]
          go_wp2_with fail
          go_loopw [106, 16] (fun vr vw wr2 => ∃ (r : Nat) (bw : Bool), r ≤ R ∧ vr = .int .i64 (r : Int) ∧ vw = .bool bw ∧ Hid (wholeR l i j r = bw) ∧ wr = wr2) (fun vr _ _ => R - (intOf vr).toNat)
          case atStart => exact ⟨0, true, by omega, rfl, rfl, Lib.hid rfl, rfl⟩
          case round =>
            obtain ⟨r, bw, hr, rfl, rfl, hW, rfl⟩ := hrel
            by_cases hrR : r < R
            · have q3 : (r : Int) < (R : Int) := by omega
              go_wp2_with fail
              go_loopw [111, 18, 19] (fun vk vin vout wr2 => ∃ (k : Nat) (bi bo : Bool), k ≤ nb ∧ vk = .int .i64 (k : Int) ∧ vin = .bool bi ∧ vout = .bool bo ∧ Hid (inR l r i j k = bi) ∧ Hid (outR l r i j k = bo) ∧ wr = wr2) (fun vk _ _ _ => nb - (intOf vk).toNat)
              case atStart => exact ⟨0, false, false, by omega, rfl, rfl, rfl, Lib.hid rfl, Lib.hid rfl, rfl⟩
              case round =>
                obtain ⟨k, bi, bo, hk, rfl, rfl, rfl, hBI, hBO, rfl⟩ := hrel
                by_cases hkn : k < nb
                · have q4 : (k : Int) < (nb : Int) := by omega
                  obtain ⟨v, hv, hv7⟩ := HSL.out k hkn
                  obtain ⟨bb, oo, rfl⟩ := isG_addr HH6.out (by omega)
                  have x1 := at_isG HI9.out hkn
                  rw [hv] at x1
                  by_cases hvr : v = r
                  · subst hvr
                    have t1 : ((v : Int) == (v : Int)) = true := by simp
                    have t2 : decide (l.getD k 0 = (v : Int)) = true := decide_eq_true hv
                    by_cases hik : i < k
                    · have q5 : (i : Int) < (k : Int) := by omega
                      by_cases hkj : k ≤ j
                      · have q6 : (k : Int) ≤ (j : Int) := by omega
                        have t3 : inJ i j k = true := by unfold inJ; simp [hik, hkj]
                        have hBI2 : Hid (inR l v i j (k + 1) = true) := Lib.hid (by rw [inR_succ, hBI.out, t2, t3]; simp)
                        have hBO2 : Hid (outR l v i j (k + 1) = bo) := Lib.hid (by rw [outR_succ, hBO.out, t2, t3]; simp)
                        clear hBI hBO t2 t3 hv hik hkj
                        go_wp2_with fail
                        go_roundw
                        case rel => first | exact ⟨k + 1, true, bo, by omega, by go_num, rfl, rfl, hBI2, hBO2, by first | trivial | rfl⟩ | ((repeat apply Exists.intro); exact ⟨⟨k + 1, true, bo, by omega, by go_num, rfl, rfl, hBI2, hBO2, by first | trivial | rfl⟩, rfl⟩)
                        case measure => (simp [intOf] <;> omega)
                      · have q6 : ¬ (k : Int) ≤ (j : Int) := by omega
                        have t3 : inJ i j k = false := by unfold inJ; simp [hkj]
                        have hBI2 : Hid (inR l v i j (k + 1) = bi) := Lib.hid (by rw [inR_succ, hBI.out, t2, t3]; simp)
                        have hBO2 : Hid (outR l v i j (k + 1) = true) := Lib.hid (by rw [outR_succ, hBO.out, t2, t3]; simp)
                        clear hBI hBO t2 t3 hv hik hkj
                        go_wp2_with fail
                        go_roundw
                        case rel => first | exact ⟨k + 1, bi, true, by omega, by go_num, rfl, rfl, hBI2, hBO2, by first | trivial | rfl⟩ | ((repeat apply Exists.intro); exact ⟨⟨k + 1, bi, true, by omega, by go_num, rfl, rfl, hBI2, hBO2, by first | trivial | rfl⟩, rfl⟩)
                        case measure => (simp [intOf] <;> omega)
                    · have q5 : ¬ (i : Int) < (k : Int) := by omega
                      have t3 : inJ i j k = false := by unfold inJ; simp [hik]
                      have hBI2 : Hid (inR l v i j (k + 1) = bi) := Lib.hid (by rw [inR_succ, hBI.out, t2, t3]; simp)
                      have hBO2 : Hid (outR l v i j (k + 1) = true) := Lib.hid (by rw [outR_succ, hBO.out, t2, t3]; simp)
                      clear hBI hBO t2 t3 hv hik
                      go_wp2_with fail
                      go_roundw
                      case rel => first | exact ⟨k + 1, bi, true, by omega, by go_num, rfl, rfl, hBI2, hBO2, by first | trivial | rfl⟩ | ((repeat apply Exists.intro); exact ⟨⟨k + 1, bi, true, by omega, by go_num, rfl, rfl, hBI2, hBO2, by first | trivial | rfl⟩, rfl⟩)
                      case measure => (simp [intOf] <;> omega)
                  · have t1 : ((v : Int) == (r : Int)) = false := by simp; omega
                    have t2 : decide (l.getD k 0 = (r : Int)) = false := decide_eq_false (by omega)
                    have hBI2 : Hid (inR l r i j (k + 1) = bi) := Lib.hid (by rw [inR_succ, hBI.out, t2]; simp)
                    have hBO2 : Hid (outR l r i j (k + 1) = bo) := Lib.hid (by rw [outR_succ, hBO.out, t2]; simp)
                    clear hBI hBO t2 hv
                    go_wp2_with fail
                    go_roundw
                    case rel => first | exact ⟨k + 1, bi, bo, by omega, by go_num, rfl, rfl, hBI2, hBO2, by first | trivial | rfl⟩ | ((repeat apply Exists.intro); exact ⟨⟨k + 1, bi, bo, by omega, by go_num, rfl, rfl, hBI2, hBO2, by first | trivial | rfl⟩, rfl⟩)
                    case measure => (simp [intOf] <;> omega)
                · obtain rfl : nb = k := by omega
                  have hW1 : wholeR l i j (r + 1) = (bw && !(bi && bo)) := by rw [wholeR_succ, HLL.out, hW.out, hBI.out, hBO.out]
                  clear hW hBI hBO
                  cases bw <;> cases bi <;> cases bo <;> (
                    have HW1 := Lib.hid hW1
                    clear hW1
                    go_wp2_with fail
                    go_roundw
                    case rel => first | exact ⟨r + 1, _, by omega, by go_num, rfl, HW1, by first | trivial | rfl⟩ | ((repeat apply Exists.intro); exact ⟨⟨r + 1, _, by omega, by go_num, rfl, HW1, by first | trivial | rfl⟩, rfl⟩)
                    case measure => (simp [intOf] <;> omega))
            · obtain rfl : R = r := by omega
              have hD := HDF.out i j hij hjm
              rw [hW.out] at hD
              obtain ⟨v1, e1, h17⟩ := HSI.out i (by omega)
              obtain ⟨v2, e2, h27⟩ := HSI.out j hjm
              rw [e1, e2] at hD
              obtain ⟨b9, o9, rfl⟩ := isG_addr HG6.out.isL (by omega)
              have x1 := at_isG (HG6.out.isL.below hb) (show i < nb by omega)
              have x2 := at_isG (HG6.out.isL.below hb) hjm
              rw [e1] at x1
              rw [e2] at x2
              clear e1 e2 hW
              by_cases h12 : v1 = v2
              · subst h12
                obtain rfl : bw = true := by rw [hD]; simp
                have t1 : ((v1 : Int) == (v1 : Int)) = true := by simp
                clear hD
                go_wp2_with fail
                go_quiet (fail)
                go_wp2
                go_roundw
                case rel => first | exact ⟨i + 1, by omega, by go_num, belowN hb _⟩ | ((repeat apply Exists.intro); exact ⟨⟨i + 1, by omega, by go_num, belowN hb _⟩, rfl⟩)
                case measure => (simp [intOf] <;> omega)
              · obtain rfl : bw = false := by rw [hD, decide_eq_false]; omega
                have t1 : ((v1 : Int) == (v2 : Int)) = false := by simp; omega
                clear hD
                go_wp2_with fail
                go_quiet (fail)
                go_wp2
                go_roundw
                case rel => first | exact ⟨i + 1, by omega, by go_num, belowN hb _⟩ | ((repeat apply Exists.intro); exact ⟨⟨i + 1, by omega, by go_num, belowN hb _⟩, rfl⟩)
                case measure => (simp [intOf] <;> omega)
        · obtain rfl : j = i := by omega
          go_wp2_with fail
          go_roundw
          case rel => first | exact ⟨j + 1, by omega, by go_num, hb⟩ | ((repeat apply Exists.intro); exact ⟨⟨j + 1, by omega, by go_num, hb⟩, rfl⟩)
          case measure => (simp [intOf] <;> omega)
    · obtain rfl : nb = j := by omega
      have HF7 := Lib.hid (HF6.out.new hb)
      have HA7 := Lib.hid (HA6.out.trans (Above.of_below hb (B := g + 5)))
      have HG7 := Lib.hid (HG6.out.below hb)
      have HB7 := Lib.hid (HB6.out.below hb)
      have HH7 := Lib.hid (HH6.out.below hb)
      clear hb HF6 HA6 HG6 HB6 HH6
      clear hjm
      go_wp2_with fail
      go_loopw [157, 22] (fun vi vs wr2 => ∃ (q : Nat) (s0 : ByteArray), q ≤ nb ∧ vi = .int .i64 (q : Int) ∧ vs = .string s0 ∧ s0.size ≤ 10 ∧ Hid (s0 = nameB ((gapL l).take q)) ∧ wr = wr2) (fun vi _ _ => nb - (intOf vi).toNat)
      case atStart => exact ⟨0, _, by omega, rfl, rfl, by decide, Lib.hid rfl, rfl⟩
      case round =>
        obtain ⟨q, s0, hq, rfl, rfl, hs0, hS0, rfl⟩ := hrel
        by_cases hqk : q < nb
        · have q3 : (q : Int) < (nb : Int) := by omega
          obtain ⟨v, hv, hv6⟩ := HSI.out q hqk
          obtain ⟨bs, os, rfl⟩ := isG_addr HG7.out.isL (by omega)
          have x1 := at_isG HG7.out.isL hqk
          rw [hv] at x1
          have hS1 : Hid (s0 ++ Utf8.encode (97 + (v : Int)) = nameB ((gapL l).take (q + 1))) := Lib.hid (by
            have hql : q < (gapL l).length := by have := HLG.out; omega
            rw [List.take_succ_eq_append_getElem hql, nameB_snoc, ← hS0.out, show (gapL l)[q] = (v : Int) by rw [← hv]; simp [List.getD, hql]])
          have hsz1 : Hid ((s0 ++ Utf8.encode (97 + (v : Int))).size ≤ 10) := Lib.hid (by
            rw [hS1.out, nameB_size _ (fun x hx => HSG.out x (List.mem_of_mem_take hx)), List.length_take]; omega)
          have q5 : ¬ 25 < v := by omega
          have w5 : IntKind.i64.wrap (97 + (v : Int)) = 97 + (v : Int) := IntWalk.i64_in _ (by omega)
          have w6' : IntKind.i32.wrap (97 + (v : Int)) = 97 + (v : Int) := IntWalk.i32_in _ (by omega)
          clear hv
          obtain ⟨E, hE⟩ : ∃ E, Utf8.encode (97 + (v : Int)) = E := ⟨_, rfl⟩
          rw [hE] at hS1 hsz1
          have hcv : ∀ W : World, (convert 21 9 (.int .i32 (97 + (v : Int)))).run Try.prog W = .ok (.string E) W := fun W => by
            rw [run_convert_int_string W 21 9 .i32 (97 + (v : Int)) (by rfl) (by rfl), hE]
          have hE4 : E.size ≤ 4 := by
            rw [← hE, enc_small (by omega) (by omega)]
            show 1 ≤ 4
            omega
          clear hE
          go_wp2_with fail
          go_roundw
          case rel => first | exact ⟨q + 1, _, by omega, by go_num, rfl, hsz1.out, hS1, by first | trivial | rfl⟩ | ((repeat apply Exists.intro); exact ⟨⟨q + 1, _, by omega, by go_num, rfl, hsz1.out, hS1, by first | trivial | rfl⟩, rfl⟩)
          case measure => (simp [intOf] <;> omega)
        · obtain rfl : nb = q := by omega
          have hS9 : s0 = nmK l := by
            rw [hS0.out, List.take_of_length_le (by rw [HLG.out]; exact Nat.le_refl _)]; rfl
          subst hS9
          clear hqk hS0 hs0
          go_wp2_with fail
          refine (Back_c _ _ _ _ HG7.out.isL HK.out.gb HK.out.gf HWG.out).mono ?_
          rintro e w8 ⟨a8, n8, c8, rfl, h8, b8⟩
          obtain rfl : nb = n8 := by rw [← h8.len]; exact HLL.out.symm
          have HU8 := Lib.hid h8
          clear h8
          have HF8 := Lib.hid (HF7.out.new b8)
          have HA8 := Lib.hid (HA7.out.trans (Above.of_below b8 (B := g + 5)))
          have HG8 := Lib.hid (HG7.out.below b8)
          have HB8 := Lib.hid (HB7.out.below b8)
          have HH8 := Lib.hid (HH7.out.below b8)
          clear b8 HF7 HA7 HG7 HB7 HH7
          go_wp2_with fail
          refine (Gaps_c _ _ _ _ HB8.out.isL HK.out.bg HK.out.bf HWB.out).mono ?_
          rintro e w9 ⟨a9, n9, c9, rfl, h9, b9⟩
          obtain rfl : nb = n9 := by rw [← h9.len]; exact HLL.out.symm
          have HV9 := Lib.hid h9
          clear h9
          have HF9 := Lib.hid (HF8.out.new b9)
          have HA9 := Lib.hid (HA8.out.trans (Above.of_below b9 (B := g + 5)))
          have HG9 := Lib.hid (HG8.out.below b9)
          have HB9 := Lib.hid (HB8.out.below b9)
          have HH9 := Lib.hid (HH8.out.below b9)
          have HU9 := Lib.hid (HU8.out.below b9)
          clear b9 HF8 HA8 HG8 HB8 HH8 HU8
          have z4 := cellV HF9.out.hx 0 rfl
          have HOK : Hid ((nmK l).size ≤ maxLen) := Lib.hid (by
            unfold nmK
            rw [nameB_size _ HSG.out, HLG.out]
            unfold maxLen; omega)
          have hlk : (Instr.lookup 61 (.map (some (g + 3))) (.string (nmK l)) false).run Try.prog w9 = .ok (.bool false) w9 := by
            have := MapB.run Try.underlying61 Try.underlying4 (by rfl) HF9.out.hm (nmK l) HOK.out
            rw [HNEW.out] at this
            exact this
          obtain ⟨nm, hnm⟩ : ∃ nm, nmK l = nm := ⟨_, rfl⟩
          rw [hnm] at hlk HOK HNEW HEND ⊢
          clear hnm
          go_wp2_with fail
          refine (same_c HU9.out HH9.out).mono ?_
          rintro e w10 ⟨rfl, b10⟩
          clear z4 hlk HU9
          have HF10 := Lib.hid (HF9.out.new b10)
          have HA10 := Lib.hid (HA9.out.trans (Above.of_below b10 (B := g + 5)))
          have HH10 := Lib.hid (HH9.out.below b10)
          have HV10 := Lib.hid (HV9.out.below b10)
          clear b10 HF9 HA9 HH9 HV9
          go_wp2_with fail
          refine (same_c HV10.out HH10.out).mono ?_
          rintro e w11 ⟨rfl, b11⟩
          clear HV10
          have HF11 := Lib.hid (HF10.out.new b11)
          have HA11 := Lib.hid (HA10.out.trans (Above.of_below b11 (B := g + 5)))
          clear b11 HF10 HA10
          have z5 := cellV HF11.out.hg 0 rfl
          have z6 := HF11.out.hg.frozen 0
          have hF12 := Lib.hid HF11.out.putg
          have A12 := Lib.hid (Above.setCell HA11.out (B := g + 5) (p := ⟨g + 2, 0, none⟩) (by show g + 2 < g + 5; omega) (.bool true))
          clear HF11 HA11
          go_upto_region 46 with (fail)
          obtain ⟨W8, hW8⟩ : ∃ W, w11.setCell ⟨g + 2, 0, none⟩ (.bool true) = W := ⟨_, rfl⟩
          try simp only [hW8]
          rw [hW8] at hF12 A12
          clear hW8 z5 z6
          have z4 := cellV hF12.out.hx 0 rfl
          go_wp2_with (refine wl_putB_new (E := encS) rfl (.tmp 200) (.tmp 201) (.const (.bool true)) rfl Try.underlying61 Try.underlying4 hF12.out.hm (by unfold maxLen; omega) rfl nm HOK.out HNEW.out rfl rfl ?_)
          intro w13 hM13 hg13
          have hF13 := HEND.out _ (hF12.out.putm hg13 hM13)
          have A13 := A12.out.trans (above_grown hg13 (by omega : g + 3 < g + 5))
          clear hF12 A12 hM13 hg13 z4
          go_wp2_with fail
          go_end0
          exact ⟨rfl, hF13, A13⟩
end Go.Proofs.Ytjedmiegcbdedaa
