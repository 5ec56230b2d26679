/- Walks of chapter 2: a plan is checked; the earliest end. -/
import Derived.Test.YtpfaoagddgcmbaaDoorHl
namespace Heap02
/-- which hours are taken by the first k of a plan -/
def busK (l : List Int) (k : Nat) : List Int := (List.range 24).map fun h : Nat => if (h : Int) ∈ l.take k then 1 else 0
theorem busK_zero (l : List Int) : busK l 0 = List.replicate 24 0 := by
  unfold busK; simp [List.range_succ]
theorem busK_len (l : List Int) (k : Nat) : (busK l k).length = 24 := by simp [busK]
theorem busK_get (l : List Int) (k h : Nat) (hh : h < 24) : (busK l k).getD h 0 = if (h : Int) ∈ l.take k then 1 else 0 := by
  simp [busK, List.getD, hh]
theorem take_one (l : List Int) (k : Nat) (h : k < l.length) : l.take (k + 1) = l.take k ++ [l.getD k 0] := by
  rw [List.take_succ_eq_append_getElem h]; simp [List.getD, h]
theorem busK_set (l : List Int) (k h : Nat) (hk : k < l.length) (hh : l.getD k 0 = (h : Int)) (hno : (h : Int) ∉ l.take k) : busK l (k + 1) = (busK l k).set h ((busK l k).getD h 0 + 1) := by
  apply List.ext_getElem?
  intro j
  by_cases hj : j < 24
  · rw [List.getElem?_set, busK_len]
    by_cases hjh : h = j
    · subst hjh
      rw [if_pos rfl, if_pos hj, busK_get l k h hj, if_neg hno]
      have : (busK l (k + 1)).getD h 0 = 1 := by rw [busK_get l _ h hj, take_one l k hk, hh, if_pos (by simp)]
      rw [List.getD] at this
      rw [List.getElem?_eq_getElem (by rw [busK_len]; exact hj)] at this ⊢
      simpa using this
    · rw [if_neg hjh]
      have e1 := busK_get l (k + 1) j hj
      have e2 := busK_get l k j hj
      have e3 : ((j : Int) ∈ l.take (k + 1)) = ((j : Int) ∈ l.take k) := by
        rw [take_one l k hk, hh]; simp; omega
      simp only [e3] at e1
      rw [← e2] at e1
      rw [List.getD, List.getD, List.getElem?_eq_getElem (by rw [busK_len]; exact hj), List.getElem?_eq_getElem (by rw [busK_len]; exact hj)] at e1
      rw [List.getElem?_eq_getElem (by rw [busK_len]; exact hj), List.getElem?_eq_getElem (by rw [busK_len]; exact hj)]
      simpa using e1
  · rw [List.getElem?_eq_none (by rw [busK_len]; omega), List.getElem?_eq_none (by rw [List.length_set, busK_len]; omega)]
/-- the heaps, each to end at e at the latest -/
def clampL (L : List Hp) (e : Int) : List Hp := L.map fun x => (x.1, if e < x.2 then e else x.2)
theorem clamp_len (L : List Hp) (e : Int) : (clampL L e).length = L.length := by simp [clampL]
theorem clamp_get (L : List Hp) (e : Int) (i : Nat) (hi : i < L.length) : (clampL L e).getD i (0, 0) = ((L.getD i (0, 0)).1, if e < (L.getD i (0, 0)).2 then e else (L.getD i (0, 0)).2) := by
  simp [clampL, List.getD, hi]
theorem clamp_all {L : List Hp} {e : Int} (h : ∀ x ∈ L, x.2 ≤ e) : clampL L e = L := by
  unfold clampL
  conv => rhs; rw [← List.map_id L]
  refine List.map_congr_left fun x hx => ?_
  have := h x hx
  rw [if_neg (by omega)]; rfl
/-- the latest beginning of the first k -/
def mxF (L : List Hp) : Nat → Int
  | 0 => 0
  | k + 1 => if mxF L k < (L.getD k (0, 0)).1 then (L.getD k (0, 0)).1 else mxF L k
theorem mxF_ge (L : List Hp) : ∀ k i, i < k → (L.getD i (0, 0)).1 ≤ mxF L k
  | k + 1, i, h => by
    rw [mxF]
    by_cases e : i = k
    · subst e; split <;> omega
    · have := mxF_ge L k i (by omega)
      split <;> omega
theorem mxF_pos (L : List Hp) : ∀ k, 0 ≤ mxF L k
  | 0 => Int.le_refl _
  | k + 1 => by rw [mxF]; have := mxF_pos L k; split <;> omega
theorem mxF_le {L : List Hp} {b : Int} (hb : 0 ≤ b) : ∀ k, (∀ i, i < k → (L.getD i (0, 0)).1 ≤ b) → mxF L k ≤ b
  | 0, _ => hb
  | k + 1, h => by
    rw [mxF]
    have h1 := mxF_le hb k fun i hi => h i (by omega)
    have h2 := h k (by omega)
    split <;> omega
/-- the earliest end -/
structure EndH (L : List Hp) (E : Int) : Prop where
  ge : ∀ i, i < L.length → (L.getD i (0, 0)).1 ≤ E
  pos : 0 ≤ E
  ok : Feas 0 (clampL L E)
  least : ∀ e : Int, 0 ≤ e → (∀ i, i < L.length → (L.getD i (0, 0)).1 ≤ e) → e < E → ¬ Feas 0 (clampL L e)
/-- what is clamped so far: the first i -/
def ClmI (L : List Hp) (e : Int) (i : Nat) (M : List Hp) : Prop := M.length = L.length ∧ (∀ j, j < L.length → (M.getD j (0, 0)).1 = (L.getD j (0, 0)).1) ∧ ∀ j, j < i → j < L.length → (M.getD j (0, 0)).2 = if e < (L.getD j (0, 0)).2 then e else (L.getD j (0, 0)).2
theorem ClmI.step {L M : List Hp} {e : Int} {i : Nat} (h : ClmI L e i M) (hi : i < L.length) : ClmI L e (i + 1) (M.set i ((M.getD i (0, 0)).1, if e < (L.getD i (0, 0)).2 then e else (L.getD i (0, 0)).2)) := by
  obtain ⟨h1, h2, h3⟩ := h
  have hg : ∀ j, (M.set i ((M.getD i (0, 0)).1, if e < (L.getD i (0, 0)).2 then e else (L.getD i (0, 0)).2)).getD j (0, 0) = if i = j then ((M.getD i (0, 0)).1, if e < (L.getD i (0, 0)).2 then e else (L.getD i (0, 0)).2) else M.getD j (0, 0) := fun j => by
    rw [List.getD, List.getElem?_set]
    by_cases hij : i = j
    · subst hij; rw [if_pos rfl, if_pos (by omega), if_pos rfl]; rfl
    · rw [if_neg hij, if_neg hij, List.getD]
  refine ⟨by rw [List.length_set, h1], fun j hj => ?_, fun j hj hjl => ?_⟩
  · rw [hg j]
    by_cases hij : i = j
    · subst hij; rw [if_pos rfl]; exact h2 i hj
    · rw [if_neg hij]; exact h2 j hj
  · rw [hg j]
    by_cases hij : i = j
    · subst hij; rw [if_pos rfl]
    · rw [if_neg hij]; exact h3 j (by omega) hjl
theorem ClmI.done {L M : List Hp} {e : Int} (h : ClmI L e L.length M) : M = clampL L e := by
  obtain ⟨h1, h2, h3⟩ := h
  apply List.ext_getElem (by rw [h1, clamp_len])
  intro j hj1 hj2
  have hj : j < L.length := by omega
  have e1 := h2 j hj
  have e2 := h3 j hj hj
  have e3 := clamp_get L e j hj
  rw [List.getD, List.getElem?_eq_getElem hj1] at e1 e2
  rw [List.getD, List.getElem?_eq_getElem hj2] at e3
  simp only [Option.getD_some] at e1 e2 e3
  rw [e3]
  exact Prod.ext e1 e2
theorem ClmI.start {L M : List Hp} {e : Int} (h1 : M.length = L.length) (h2 : ∀ j, j < L.length → (M.getD j (0, 0)).1 = (L.getD j (0, 0)).1) : ClmI L e 0 M := ⟨h1, h2, fun j hj => by omega⟩
end Heap02
namespace Go.Proofs.YtpfaoagddgcmbaaDoor
open Go.RowKit Heap02
abbrev J64 : Int → Value := Value.int .i64
set_option maxHeartbeats 2000000 in
theorem has_yes (x y t : Int) (w : World) (h1 : x ≤ t) (h2 : t ≤ y) : Calls Tryd.prog 51 #[.agg #[.int .i64 x, .int .i64 y], .int .i64 t] w fun e w' => e = .returned (.bool true) ∧ Below w.heap.size w w' := by
  have hb := (Below.refl w.heap.size w).alloc (Nat.le_refl _) (.cells #[.int .i64 x, .int .i64 y] 27)
  go_enter Tryd.func51, Tryd.ntmps51
  go_wp2_with (go_at_call 94; refine (between_yes x t y _ h1 h2).mono ?_; rintro e w9 ⟨rfl, rfl⟩)
  go_ret
  exact ⟨rfl, hb⟩
set_option maxHeartbeats 4000000 in
set_option maxRecDepth 100000 in
theorem Verify_any (a b : Option Addr) (n c d : Nat) (L : List Hp) (l : List Int) (w : World) (h : IsH w a n c L) (h' : IsL w b n d l) (h10 : n ≤ 10) (hK : OkH L) (hP : PlanO L l) :
    Calls Tryd.prog 11 #[.slice a n c, .int .i64 1, .slice b n d] w fun e w' => e = .returned (.int .i64 0) ∧ Below w.heap.size w w' := by
  have hle := h.le
  have hcap := h.cap
  have hle' := h'.le
  have hcap' := h'.cap
  have HL := Lib.hid h.len
  have HL' := Lib.hid h'.len
  have HC := Lib.hid (handed_any a n c L w h h10 hK)
  have HH := Lib.hid h
  have HH' := Lib.hid h'
  have HK := Lib.hid hK
  have HP := Lib.hid hP
  have q0 : ((n : Int) != (n : Int)) = false := by simp
  clear h h' hK hP
  go_enter Tryd.func11, Tryd.ntmps11
  go_wp2_with fail
  refine HC.out.mono ?_
  rintro e w1 ⟨rfl, b1⟩
  clear HC
  go_wp2_with fail
  obtain ⟨gx, hgx⟩ : ∃ g, w1.heap.size = g := ⟨_, rfl⟩
  have hgw : w.heap.size ≤ gx := by have := b1.size; omega
  have A0 : Hid (ArrV J64 (w1.alloc (.cells #[.int .i64 0, .int .i64 0, .int .i64 0, .int .i64 0, .int .i64 0, .int .i64 0, .int .i64 0, .int .i64 0, .int .i64 0, .int .i64 0, .int .i64 0, .int .i64 0, .int .i64 0, .int .i64 0, .int .i64 0, .int .i64 0, .int .i64 0, .int .i64 0, .int .i64 0, .int .i64 0, .int .i64 0, .int .i64 0, .int .i64 0, .int .i64 0] 77)) gx 77 (busK l 0)) := Lib.hid (ArrV.new (f := J64) w1 _ _ _ _ hgx.symm (by rw [busK_zero]; rfl))
  have b2 := b1.alloc b1.size (.cells #[.int .i64 0, .int .i64 0, .int .i64 0, .int .i64 0, .int .i64 0, .int .i64 0, .int .i64 0, .int .i64 0, .int .i64 0, .int .i64 0, .int .i64 0, .int .i64 0, .int .i64 0, .int .i64 0, .int .i64 0, .int .i64 0, .int .i64 0, .int .i64 0, .int .i64 0, .int .i64 0, .int .i64 0, .int .i64 0, .int .i64 0, .int .i64 0] 77)
  have HGX := Lib.hid hgx
  generalize (w1.alloc (.cells #[.int .i64 0, .int .i64 0, .int .i64 0, .int .i64 0, .int .i64 0, .int .i64 0, .int .i64 0, .int .i64 0, .int .i64 0, .int .i64 0, .int .i64 0, .int .i64 0, .int .i64 0, .int .i64 0, .int .i64 0, .int .i64 0, .int .i64 0, .int .i64 0, .int .i64 0, .int .i64 0, .int .i64 0, .int .i64 0, .int .i64 0, .int .i64 0] 77)) = w2 at *
  simp only [hgx]
  clear b1 hgx
  go_loopw [26] (fun vi wr => ∃ k : Nat, k ≤ n ∧ vi = .int .i64 (k : Int) ∧ Hid (ArrV J64 wr gx 77 (busK l k)) ∧ Below w.heap.size w wr) (fun vi _ => n - (intOf vi).toNat)
  case atStart => exact ⟨0, by omega, rfl, A0, b2⟩
  case round =>
    clear A0 b2
    obtain ⟨k, hk, rfl, hA, hb⟩ := hrel
    by_cases hlt : k < n
    · have q1 : (k : Int) < (n : Int) := by omega
      have h1 := HH.out.below hb
      have h2 := HH'.out.below hb
      obtain ⟨hb1, rfl, _, hc1⟩ := h1.cells (by omega)
      obtain ⟨c1, c2⟩ := hc1 k hlt
      obtain ⟨hb2, o2, rfl, _, hc2⟩ := h2.cells (by omega)
      have y1 := hc2 k hlt
      have hbd := HP.out.bd k (by rw [HL.out]; exact hlt)
      have hok := HK.out.get k (by rw [HL.out]; exact hlt)
      obtain ⟨t, ht⟩ : ∃ t : Nat, l.getD k 0 = (t : Int) := ⟨(l.getD k 0).toNat, by omega⟩
      rw [ht] at y1 hbd
      obtain ⟨⟨x, y⟩, hx⟩ : ∃ x, L.getD k (0, 0) = x := ⟨_, rfl⟩
      rw [hx] at c1 c2 hbd hok
      simp only [] at c1 c2 hbd hok
      obtain ⟨t1, t2⟩ := hbd
      have ht24 : t < 24 := by omega
      have q2 : (t : Int) < 24 := by omega
      have hno : (t : Int) ∉ l.take k := fun hm => by
        obtain ⟨j, hj, e⟩ := List.mem_iff_getElem.1 hm
        rw [List.length_take] at hj
        rw [List.getElem_take] at e
        have h8 := (List.pairwise_iff_getElem.1 HP.out.nd) j k (by omega) (by rw [HL'.out]; exact hlt) (by omega)
        apply h8
        rw [e, ← ht, List.getD, List.getElem?_eq_getElem (by rw [HL'.out]; exact hlt)]
        rfl
      have hst := busK_set l k t (by rw [HL'.out]; exact hlt) ht hno
      have hg0 := busK_get l k t ht24
      rw [if_neg hno] at hg0
      rw [hg0] at hst
      have HST : Hid (busK l (k + 1) = (busK l k).set t 1) := Lib.hid hst
      have HG0 := Lib.hid hg0
      clear hc1 hc2 hst hg0 hno hx ht hok h1 h2
      go_wp2_with fail
      refine (has_yes x y (t : Int) _ t1 t2).mono ?_
      rintro e w4 ⟨rfl, b4⟩
      have hA4 := hA.out.below b4
      have hb4 := hb.trans (b4.mono hb.size)
      have m0 := hA4.cell t 0 (by rw [busK_len]; exact ht24)
      rw [HG0.out] at m0
      have m1 := hA4.frozen t
      have HA5 : Hid (ArrV J64 (w4.setCell ⟨gx, t, none⟩ (.int .i64 1)) gx 77 (busK l (k + 1))) := Lib.hid (by rw [HST.out]; exact hA4.set t 1)
      have hb5 := hb4.setCell (p := ⟨gx, t, none⟩) hgw (.int .i64 1)
      have e9 : IntKind.i64.wrap (0 + 1) = 1 := by decide
      clear hA hb b4 hA4 hb4 c1 c2 y1
      go_wp2_with fail
      go_roundw
      case rel => first | exact ⟨k + 1, by omega, by go_num, HA5, hb5⟩ | ((repeat apply Exists.intro); exact ⟨⟨k + 1, by omega, by go_num, HA5, hb5⟩, rfl⟩)
      case measure => (simp [intOf] <;> omega)
    · obtain rfl : k = n := by omega
      go_wp2
      go_ret
      exact ⟨rfl, hb⟩
set_option maxHeartbeats 8000000 in
set_option maxRecDepth 100000 in
theorem Finish_any (a : Option Addr) (n c : Nat) (L : List Hp) (w : World) (h : IsH w a n c L) (hn : 1 ≤ n) (h10 : n ≤ 10) (hK : OkH L) (hF : Feas 0 L) :
    Calls Tryd.prog 15 #[.slice a n c, .int .i64 1] w fun e w' => ∃ E, e = .returned (.tuple #[.int .i64 E, .int .i64 0]) ∧ Below w.heap.size w w' ∧ EndH L E := by
  have hle := h.le
  have hcap := h.cap
  have hl := h.len
  have HL := Lib.hid hl
  have HH := Lib.hid h
  have HK := Lib.hid hK
  have HF := Lib.hid hF
  have HHA := Lib.hid (handed_any a n c L w h h10 hK)
  clear h hK hF hl
  go_enter Tryd.func15, Tryd.ntmps15
  go_wp2_with fail
  refine HHA.out.mono ?_
  rintro e w1 ⟨rfl, b1⟩
  have h1 := HH.out.below b1
  clear HHA
  go_wp2_with fail
  refine (possible_any a n c L w1 h1 hn (by omega) HK.out.sml true ⟨fun _ => HF.out, fun _ => rfl⟩).mono ?_
  rintro e w2 ⟨rfl, b2⟩
  have k2 := b1.trans (b2.mono b1.size)
  clear h1 b1 b2
  go_wp2_with fail
  go_loopw [27, 7] (fun vi ve wr => ∃ i : Nat, i ≤ n ∧ vi = .int .i64 (i : Int) ∧ ve = .int .i64 (mxF L i) ∧ Below w.heap.size w wr) (fun vi _ _ => n - (intOf vi).toNat)
  case atStart => exact ⟨0, by omega, rfl, rfl, k2⟩
  case round =>
    clear k2
    obtain ⟨i, hi, rfl, rfl, hb⟩ := hrel
    by_cases hlt : i < n
    · have q1 : (i : Int) < (n : Int) := by omega
      have h1 := HH.out.below hb
      obtain ⟨hb1, rfl, _, hc1⟩ := h1.cells (by omega)
      obtain ⟨c1, c2⟩ := hc1 i hlt
      have HM : Hid (mxF L (i + 1) = if mxF L i < (L.getD i (0, 0)).1 then (L.getD i (0, 0)).1 else mxF L i) := Lib.hid (by rw [mxF])
      obtain ⟨⟨x, y⟩, hx⟩ : ∃ x, L.getD i (0, 0) = x := ⟨_, rfl⟩
      rw [hx] at c1 c2 HM
      simp only [] at c1 c2 HM
      obtain ⟨M, hM⟩ : ∃ M, mxF L i = M := ⟨_, rfl⟩
      rw [hM] at HM ⊢
      obtain ⟨N, hN⟩ : ∃ N, (if M < x then x else M) = N := ⟨_, rfl⟩
      have HN : Hid (mxF L (i + 1) = N) := Lib.hid (by rw [HM.out, hN])
      have hb2 : Below w.heap.size w (wr.alloc (.cells #[.int .i64 x, .int .i64 y] 27)) := hb.alloc hb.size _
      clear hc1 hx HM hM h1
      go_wp2_with fail
      exact ⟨⟨i + 1, by omega, by go_num, by rw [HN.out], hb2⟩, by simp [intOf]; omega⟩
    · obtain rfl : i = n := by omega
      have h1 := HH.out.below hb
      have h0 := mxF_pos L i
      have hmx : mxF L i ≤ 23 := mxF_le (by omega) i (fun j hj => by have := HK.out.get j (by rw [HL.out]; exact hj); omega)
      have hge : Hid (∀ j, j < i → (L.getD j (0, 0)).1 ≤ mxF L i) := Lib.hid (fun j hj => mxF_ge L i j hj)
      have hlw : Hid (∀ e : Int, 0 ≤ e → (∀ j, j < i → (L.getD j (0, 0)).1 ≤ e) → mxF L i ≤ e) := Lib.hid (fun e he h => mxF_le he i h)
      obtain ⟨m0, hm0⟩ : ∃ m0 : Nat, mxF L i = (m0 : Int) := ⟨(mxF L i).toNat, by omega⟩
      rw [hm0] at hge hlw hmx ⊢
      clear h0 hm0
      go_wp2_with fail
      refine (CloneH_any a i c L wr h1 hn (by omega)).mono ?_
      rintro e w3 ⟨nb, nc, rfl, hO, b3⟩
      have k3 := hb.trans (b3.mono hb.size)
      have HO : Hid (OwnP w3 27 w.heap.size (some ⟨nb, 0, none⟩) i nc L) := Lib.hid (hO.weakenP hb.size)
      clear h1 b3 hb hO
      go_wp2_with fail
      go_loopw [7] (fun ve wr => ∃ (E : Nat) (M : List Hp), m0 ≤ E ∧ E ≤ 23 ∧ ve = .int .i64 (E : Int) ∧ Hid (OwnP wr 27 w.heap.size (some ⟨nb, 0, none⟩) i nc M) ∧ Hid (∀ j, j < L.length → (M.getD j (0, 0)).1 = (L.getD j (0, 0)).1) ∧ Hid (∀ e : Int, (m0 : Int) ≤ e → e < (E : Int) → ¬ Feas 0 (clampL L e)) ∧ Below w.heap.size w wr) (fun ve _ => 24 - (intOf ve).toNat)
      case atStart => exact ⟨m0, L, by omega, by omega, rfl, HO, Lib.hid (fun _ _ => rfl), Lib.hid (fun e h1 h2 => by omega), k3⟩
      case round =>
        clear HO k3
        obtain ⟨E, M, hmE, hE, rfl, hO, hM1, hT, hb⟩ := hrel
        have hM0 : Hid (ClmI L (E : Int) 0 M) := Lib.hid (ClmI.start (by rw [hO.out.len, HL.out]) hM1.out)
        clear hM1
        go_wp2_with fail
        go_loopw [42] (fun vi wr => ∃ (t : Nat) (M : List Hp), t ≤ i ∧ vi = .int .i64 (t : Int) ∧ Hid (OwnP wr 27 w.heap.size (some ⟨nb, 0, none⟩) i nc M) ∧ Hid (ClmI L (E : Int) t M) ∧ Below w.heap.size w wr) (fun vi _ => i - (intOf vi).toNat)
        case atStart => exact ⟨0, M, by omega, rfl, hO, hM0, hb⟩
        case round =>
          clear hO hM0 hb
          obtain ⟨t, M, ht, rfl, hO, hC, hb⟩ := hrel
          by_cases hlt : t < i
          · have q1 : (t : Int) < (i : Int) := by omega
            have h1 := HH.out.below hb
            obtain ⟨hb1, rfl, _, hc1⟩ := h1.cells (by omega)
            obtain ⟨c1, c2⟩ := hc1 t hlt
            have hC2 := hC.out.step (by rw [HL.out]; exact hlt)
            obtain ⟨⟨x, y⟩, hx⟩ : ∃ x, L.getD t (0, 0) = x := ⟨_, rfl⟩
            rw [hx] at c1 c2 hC2
            simp only [] at c1 c2 hC2
            obtain ⟨N, hN⟩ : ∃ N, (if (E : Int) < y then (E : Int) else y) = N := ⟨_, rfl⟩
            rw [hN] at hC2
            have hO2 := hO.out.alloc (.cells #[.int .i64 x, .int .i64 y] 27)
            obtain ⟨d1, d2⟩ := hO2.cell t hlt
            have f1 := hO2.frozenP (t * 2 + 1)
            have hb2 : Below w.heap.size w (wr.alloc (.cells #[.int .i64 x, .int .i64 y] 27)) := hb.alloc hb.size _
            have hnb := (hO2.ltP _ rfl).1
            simp only [] at hnb
            have HO3 := Lib.hid ((hO.out.set2 t N hlt).alloc (.cells #[.int .i64 x, .int .i64 y] 27))
            have hb3 : Below w.heap.size w ((wr.setCell ⟨nb, t * 2 + 1, none⟩ (.int .i64 N)).alloc (.cells #[.int .i64 x, .int .i64 y] 27)) := (hb.setCell (p := ⟨nb, t * 2 + 1, none⟩) hnb (.int .i64 N)).alloc (by rw [setCell_size]; exact hb.size) _
            have HC2 := Lib.hid hC2
            have hnlt := (hO.out.ltP _ rfl).2
            simp only [] at hnlt
            clear hc1 hx hC2 h1 hO2 hO hC hb hb2
            go_wp2_with fail
            go_roundw
            case rel => exact ⟨t + 1, M.set t ((M.getD t (0, 0)).1, N), by omega, by go_num, HO3, HC2, hb3⟩
            case measure => (simp [intOf] <;> omega)
          · obtain rfl : t = i := by omega
            have hMC : M = clampL L (E : Int) := ClmI.done (by have := hC.out; rwa [← HL.out] at this)
            have HMC := Lib.hid hMC
            have HSM : Hid (SmlH M) := Lib.hid (by
              rw [HMC.out]
              intro z hz
              obtain ⟨z0, hz0, rfl⟩ := List.mem_map.1 hz
              have := HK.out z0 hz0
              simp only []
              split <;> omega)
            clear hMC hC
            by_cases hf : Feas 0 M
            · have HEND : Hid (EndH L (E : Int)) := Lib.hid ⟨fun j hj => by have := hge.out j (by rw [HL.out] at hj; exact hj); omega, by omega, by rw [← HMC.out]; exact hf, fun e he h1 h2 => hT.out e (hlw.out e he (fun j hj => h1 j (by rw [HL.out]; exact hj))) h2⟩
              have HFF := Lib.hid hf
              clear hf
              go_wp2_with fail
              refine (possible_any _ t nc M wr hO.out.isH hn (by omega) HSM.out true ⟨fun _ => HFF.out, fun _ => rfl⟩).mono ?_
              rintro e w6 ⟨rfl, b6⟩
              have hb6 := hb.trans (b6.mono hb.size)
              go_wp2
              go_ret2
              exact ⟨(E : Int), rfl, hb6, HEND.out⟩
            · have hE23 : E ≠ 23 := fun e => hf (by
                rw [HMC.out, e, clamp_all (fun x hx => by have := HK.out x hx; omega)]
                exact HF.out)
              have hT2 : Hid (∀ e : Int, (m0 : Int) ≤ e → e < ((E + 1 : Nat) : Int) → ¬ Feas 0 (clampL L e)) := Lib.hid (fun e h1 h2 => by
                by_cases he : e = (E : Int)
                · rw [he, ← HMC.out]; exact hf
                · exact hT.out e h1 (by omega))
              have hM1 : Hid (∀ j, j < L.length → (M.getD j (0, 0)).1 = (L.getD j (0, 0)).1) := Lib.hid (fun j hj => by rw [HMC.out, clamp_get L _ j hj])
              have HFF := Lib.hid hf
              have w9 : IntKind.i64.wrap ((E : Int) + 1) = (E : Int) + 1 := IntWalk.i64_in _ (by omega)
              clear hf
              go_wp2_with fail
              refine (possible_any _ t nc M wr hO.out.isH hn (by omega) HSM.out false ⟨fun h => Bool.noConfusion h, fun h => absurd h HFF.out⟩).mono ?_
              rintro e w6 ⟨rfl, b6⟩
              have hb6 := hb.trans (b6.mono hb.size)
              have hO6 := Lib.hid (hO.out.below b6)
              clear hO b6 hb
              go_wp2_with fail
              exact ⟨⟨E + 1, M, by omega, by omega, by go_num, hO6, hM1, hT2, hb6⟩, by simp [intOf]; omega⟩
end Go.Proofs.YtpfaoagddgcmbaaDoor
