/- Walks of chapter 9: a list is turned round; floors by numbers are made. -/
import Derived.Test.YtbhjphcomppjgaaDoorVa
import Derived.RegionTactic
import Derived.BigRegion
import Derived.Deep.Cut
import Derived.Deep.CutRange
import Derived.Deep.DeepCutAuto
import Derived.Test.YtbhjphcomppjgaaDoorWs
namespace Beetle09
theorem set_getD (l : List Int) (i j : Nat) (v : Int) (h : i < l.length) : (l.set i v).getD j 0 = if i = j then v else l.getD j 0 := by
  by_cases hij : i = j
  · subst hij; simp [List.getD, h]
  · rw [if_neg hij, List.getD, List.getElem?_set_ne hij, ← List.getD]
theorem ext_getD {l l' : List Int} (h : l.length = l'.length) (hg : ∀ j, j < l.length → l.getD j 0 = l'.getD j 0) : l = l' := by
  refine List.ext_getElem h fun j h1 h2 => ?_
  have := hg j h1
  simpa [List.getD, h1, h2] using this
theorem rev_getD (l : List Int) (j : Nat) (h : j < l.length) : l.reverse.getD j 0 = l.getD (l.length - 1 - j) 0 := by
  simp [List.getD, List.getElem?_reverse h]
def revK (l : List Int) : Nat → List Int
  | 0 => l
  | i + 1 => ((revK l i).set i ((revK l i).getD (l.length - 1 - i) 0)).set (l.length - 1 - i) ((revK l i).getD i 0)
theorem revK_len (l : List Int) : ∀ i, (revK l i).length = l.length
  | 0 => rfl
  | i + 1 => by rw [revK, List.length_set, List.length_set, revK_len l i]
theorem revK_get (l : List Int) : ∀ i, 2 * i ≤ l.length + 1 → ∀ j, j < l.length → (revK l i).getD j 0 = if j < i ∨ l.length - 1 - j < i then l.getD (l.length - 1 - j) 0 else l.getD j 0
  | 0, _, j, _ => by rw [revK, if_neg (by omega)]
  | i + 1, hi, j, hj => by
    have ih := revK_get l i (by omega)
    have hl := revK_len l i
    rw [revK, set_getD _ _ _ _ (by rw [List.length_set, hl]; omega), set_getD _ _ _ _ (by rw [hl]; omega)]
    by_cases h1 : l.length - 1 - i = j
    · rw [if_pos h1, if_pos (by omega), ih i (by omega)]
      by_cases h2 : i < i ∨ l.length - 1 - i < i
      · exfalso; omega
      · rw [if_neg h2]; congr 1; omega
    · rw [if_neg h1]
      by_cases h2 : i = j
      · rw [if_pos h2, if_pos (by omega), ih _ (by omega)]
        by_cases h3 : l.length - 1 - i < i ∨ l.length - 1 - (l.length - 1 - i) < i
        · exfalso; omega
        · rw [if_neg h3, h2]
      · rw [if_neg h2, ih j hj]
        by_cases h3 : j < i ∨ l.length - 1 - j < i
        · rw [if_pos h3, if_pos (by omega)]
        · rw [if_neg h3, if_neg (by omega)]
theorem revK_rev (l : List Int) (i : Nat) (h1 : 2 * i ≤ l.length + 1) (h2 : l.length ≤ 2 * i + 1) : revK l i = l.reverse := by
  refine ext_getD (by rw [revK_len]; simp) fun j hj => ?_
  rw [revK_len] at hj
  rw [revK_get l i h1 j hj, rev_getD l j hj]
  by_cases h3 : j < i ∨ l.length - 1 - j < i
  · rw [if_pos h3]
  · rw [if_neg h3]; congr 1; omega
/-- The numbers of a floor: its sides. -/
def mkN (p M : Nat) : Nat := 1 + p % M
/-- Its bales with beetles. -/
def mkS (N x : Nat) : Nat := x &&& (2 ^ N - 1)
/-- Its frozen ones. -/
def mkZ (b : Bool) (N x y : Nat) : Nat := if b = true then (y &&& (2 ^ N - 1)) &&& (4294967295 - mkS N x) else 0
theorem mk_sd {p q M : Nat} (h1 : 1 ≤ M) (h5 : M ≤ 5) : Sd (mkN p M) (mkN q M) := by
  have a := Nat.mod_lt p h1
  have b := Nat.mod_lt q h1
  unfold mkN
  exact ⟨by omega, by omega, by omega, by omega⟩
theorem mkS_lt (N x : Nat) : mkS N x < 2 ^ N := mask_lt x N
theorem mkZ_lt (b : Bool) (N x y : Nat) : mkZ b N x y < 2 ^ N := by
  unfold mkZ
  split
  · exact Nat.lt_of_le_of_lt Nat.and_le_left (mask_lt y N)
  · exact Nat.two_pow_pos N
theorem mk_dj {b : Bool} {N x y : Nat} (h : N ≤ 25) (k : Nat) (hk : (mkZ b N x y).testBit k = true) : (mkS N x).testBit k = false := by
  have hs := lt25 (mkS_lt N x) h
  have hk25 : k < 25 := bit_lt (lt25 (mkZ_lt b N x y) h) hk
  unfold mkZ at hk
  split at hk
  · rw [Nat.testBit_and, Bool.and_eq_true] at hk
    have := not_bit (q := mkS N x) (i := k) (by omega) (by omega)
    rw [this] at hk
    simpa using hk.2
  · simp at hk
/-- A floor by numbers is a store. -/
theorem mk_open {p q M x y : Nat} {b : Bool} (h1 : 1 ≤ M) (h5 : M ≤ 5) : openE ((mkN p M : Nat) : Int) ((mkN q M : Nat) : Int) (li (els 25 (mkS (mkN p M * mkN q M) x)).reverse) (li (els 25 (mkZ b (mkN p M * mkN q M) x y))) = 0 ∧ Opn ((mkN p M : Nat) : Int) ((mkN q M : Nat) : Int) (li (els 25 (mkS (mkN p M * mkN q M) x)).reverse) (li (els 25 (mkZ b (mkN p M * mkN q M) x y))) (mkN p M) (mkN q M) (mkS (mkN p M * mkN q M) x) (mkZ b (mkN p M * mkN q M) x y) :=
  open_made (mk_sd h1 h5) (mkS_lt _ _) (mkZ_lt _ _ _ _) (fun k hk => mk_dj (mk_sd h1 h5).n25 k hk)
end Beetle09
namespace Go.Proofs.YtbhjphcomppjgaaDoor
open Go.RowKit Beetle09
set_option maxHeartbeats 4000000 in
set_option maxRecDepth 100000 in
theorem Reverse_grown (B : Nat) (a : Option Addr) (n c : Nat) (l : List Int) (w : World) (h : OwnL w 3 B a n c l) (hn : 1 ≤ n) (_ : B ≤ w.heap.size) : Calls Tryd.prog 78 #[.slice a n c] w fun e w' => e = .returned (.tuple #[]) ∧ OwnL w' 3 B a n c l.reverse ∧ w.grownBy w' (Value.slice a n c).ownBlock := by
  have hl := h.len
  have hc := h.isL.cap
  have hle := h.isL.le
  obtain ⟨g, rfl⟩ := h.addr (by omega)
  have hg := (h.lt _ rfl).1
  have w1 : IntKind.i64.wrap ((n : Int) - 1) = (n : Int) - 1 := IntWalk.i64_in _ (by omega)
  have HL := Lib.hid hl
  have HO := Lib.hid h
  simp only [] at hg
  clear hl h
  go_enter Tryd.func78, Tryd.ntmps78
  go_wp2_with fail
  go_loopw [2, 3] (fun vi vj wr => ∃ i : Nat, 2 * i ≤ n + 1 ∧ vi = .int .i64 (i : Int) ∧ vj = .int .i64 ((n : Int) - 1 - (i : Int)) ∧ Hid (OwnL wr 3 B (some ⟨g, 0, none⟩) n c (revK l i)) ∧ Hid (w.grownBy wr (some g))) (fun vi _ _ => n - (intOf vi).toNat)
  case atStart => exact ⟨0, by omega, rfl, by go_num, HO, Lib.hid (World.grownBy.refl _ _)⟩
  case round =>
    obtain ⟨i, hi, rfl, rfl, hO, hb⟩ := hrel
    by_cases hlt : (i : Int) < (n : Int) - 1 - (i : Int)
    · obtain ⟨j, hj⟩ : ∃ j : Nat, (n : Int) - 1 - (i : Int) = (j : Int) := ⟨n - 1 - i, by omega⟩
      have HJ := Lib.hid hj
      rw [hj] at hlt ⊢
      have hjn : j < n := by omega
      have hO1 := hO.out
      have y1 := (hO1.gen.cell i 0 (by omega))
      have y2 := (hO1.gen.cell j 0 (by omega))
      obtain ⟨y11, y12⟩ := y1
      obtain ⟨y21, y22⟩ := y2
      have q1 : (i : Int) < (n : Int) := by omega
      have q2 : (j : Int) < (n : Int) := by omega
      have hne : i ≠ j := by omega
      have hn1 : 1 ≤ n := hn
      have hnj : n - 1 - i = j := by omega
      have hs := (hO1.set i ((revK l i).getD j 0) (by omega)).set j ((revK l i).getD i 0) (by omega)
      have hO2 : Hid (OwnL ((wr.setCell ⟨g, i, none⟩ (.int .i64 ((revK l i).getD j 0))).setCell ⟨g, j, none⟩ (.int .i64 ((revK l i).getD i 0))) 3 B (some ⟨g, 0, none⟩) n c (revK l (i + 1))) := Lib.hid (by rw [revK, HL.out, hnj]; exact hs)
      have hb2 : Hid (w.grownBy ((wr.setCell ⟨g, i, none⟩ (.int .i64 ((revK l i).getD j 0))).setCell ⟨g, j, none⟩ (.int .i64 ((revK l i).getD i 0))) (some g)) := Lib.hid (grown_trans hb.out (grown_trans (grown_setCell wr g i _) (grown_setCell _ g j _)))
      have w2 : IntKind.i64.wrap ((j : Int) - 1) = (j : Int) - 1 := IntWalk.i64_in _ (by omega)
      obtain ⟨u, hu⟩ : ∃ u, (revK l i).getD i 0 = u := ⟨_, rfl⟩
      obtain ⟨v, hv⟩ : ∃ v, (revK l i).getD j 0 = v := ⟨_, rfl⟩
      rw [hu] at y11 hO2 hb2
      rw [hv] at y21 hO2 hb2
      clear hu hv hO hO1 hs hj hn hnj hb
      go_wp2_with fail
      go_region
      all_goals
        go_wp2_with fail
        go_roundw
        case rel => exact ⟨i + 1, by have := HJ.out; omega, by go_num, by (congr 1; have := HJ.out; omega), Lib.hid hO2.out.drew, Lib.hid (grown_trans hb2.out (grown_drew _ _))⟩
        case measure => simp [intOf]; omega
    · have HR : Hid (OwnL wr 3 B (some ⟨g, 0, none⟩) n c l.reverse) := Lib.hid (by rw [← revK_rev l i (by rw [HL.out]; omega) (by rw [HL.out]; omega)]; exact hO.out)
      have hlt2 : decide ((i : Int) < (n : Int) - 1 - (i : Int)) = false := by simpa using hlt
      clear hO
      go_wp2
      go_end0
      exact ⟨rfl, HR.out, hb.out⟩
set_option maxHeartbeats 1000000 in
theorem Reverse_none (a : Option Addr) (c : Nat) (w : World) : Calls Tryd.prog 78 #[.slice a 0 c] w fun e w' => e = .returned (.tuple #[]) ∧ w = w' := by
  go_enter Tryd.func78, Tryd.ntmps78
  go_wp2
  go_loopw [2, 3] (fun vi vj wr => vi = .int .i64 0 ∧ vj = .int .i64 (-1) ∧ w = wr) (fun vi _ _ => 0)
  case atStart => exact ⟨rfl, rfl, rfl⟩
  case round =>
    obtain ⟨rfl, rfl, rfl⟩ := hrel
    go_wp2
    go_end0
    exact ⟨rfl, rfl⟩
theorem Reverse_any (B : Nat) (a : Option Addr) (n c : Nat) (l : List Int) (w : World) (h : OwnL w 3 B a n c l) (hB : B ≤ w.heap.size) : Calls Tryd.prog 78 #[.slice a n c] w fun e w' => e = .returned (.tuple #[]) ∧ OwnL w' 3 B a n c l.reverse ∧ w.grownBy w' (Value.slice a n c).ownBlock := by
  by_cases h0 : n = 0
  · subst h0
    obtain rfl : l = [] := List.eq_nil_of_length_eq_zero h.len
    exact (Reverse_none a c w).mono fun e w' ⟨he, hw⟩ => by subst hw; exact ⟨he, h, World.grownBy.refl _ _⟩
  · exact Reverse_grown B a n c l w h (by omega) hB
abbrev floV (p q x y : Nat) : Value := .agg #[.int .u8 (p : Int), .int .u8 (q : Int), .int .u32 (x : Int), .int .u32 (y : Int)]
abbrev floL (p q x y : Nat) : List Value := [.int .u8 (p : Int), .int .u8 (q : Int), .int .u32 (x : Int), .int .u32 (y : Int)]
/-- What made keeps. -/
structure MdS (w wr : World) (p q x y R C : Nat) : Prop where
  f : ArrV VV wr w.heap.size 58 (floL p q x y)
  r : ArrV VV wr (w.heap.size + 1) 24 [.int .i64 0, .int .i64 0, .slice none 0 0, .slice none 0 0]
  s : ArrV VV wr (w.heap.size + 1 + 1) 60 [.int .i64 0, .int .i64 0]
  pl : ArrV VV wr (w.heap.size + 1 + 1 + 1) 60 (plL R C)
  below : Below w.heap.size w wr
theorem MdS.to {w wr w' : World} {p q x y R C : Nat} (h : MdS w wr p q x y R C) (hb : Below wr.heap.size wr w') : MdS w w' p q x y R C := ⟨h.f.below hb, h.r.below hb, h.s.below hb, h.pl.below hb, h.below.trans (hb.mono h.below.size)⟩
theorem MdS.start (w : World) (p q x y R C : Nat) : MdS w ((((w.alloc (.cells (floL p q x y).toArray 58)).alloc (.cells #[.int .i64 0, .int .i64 0, .slice none 0 0, .slice none 0 0] 24)).alloc (.cells #[.int .i64 0, .int .i64 0] 60)).alloc (.cells (plL R C).toArray 60)).drew p q x y R C where
  f := ((((ArrV.new w _ _ _ _ rfl (by simp [VV])).alloc _).alloc _).alloc _).drew
  r := ((((ArrV.new (w.alloc _) _ _ _ _ (by simp) (by simp [VV]))).alloc _).alloc _).drew
  s := ((ArrV.new ((w.alloc _).alloc _) _ _ _ _ (by simp) (by simp [VV])).alloc _).drew
  pl := (ArrV.new (((w.alloc _).alloc _).alloc _) _ _ _ _ (by simp) (by simp [VV])).drew
  below := (((((Below.refl _ _).alloc (Nat.le_refl _) _).alloc (by simp) _).alloc (by simp; omega) _).alloc (by simp; omega) _).drew
theorem all_facts (N : Nat) (h : N ≤ 25) : ∃ V al : Nat, al = 2 ^ N - 1 ∧ al < 33554432 ∧ V ≤ 33554432 ∧ 0 < V ∧ (2 : Int) ^ N = (V : Int) ∧ IntKind.u32.wrap (V : Int) = (V : Int) ∧ (V : Int) % 4294967296 = (V : Int) ∧ IntKind.u32.wrap ((V : Int) - 1) = (al : Int) ∧ ((V : Int) - 1) % 4294967296 = (al : Int) := by
  obtain ⟨V, hV⟩ : ∃ V, 2 ^ N = V := ⟨_, rfl⟩
  have hV25 : V ≤ 33554432 := by rw [← hV]; exact Nat.le_trans (Nat.pow_le_pow_right (by omega) h) (by decide)
  have hV0 : 0 < V := by rw [← hV]; exact Nat.two_pow_pos _
  refine ⟨V, V - 1, by rw [hV], by omega, hV25, hV0, by rw [← hV, Int.natCast_pow]; rfl, by rw [wrap_u32']; omega, by omega, by rw [wrap_u32']; omega, by omega⟩
theorem OwnL.other {w : World} {e : TypeId} {B n c : Nat} {a : Option Addr} {l : List Int} (h : OwnL w e B a n c l) {p : Addr} (hp : p.block < B) (v : Value) : OwnL (w.setCell p v) e B a n c l := by
  obtain ⟨h1, h2⟩ := h
  refine ⟨h1, ?_⟩
  rcases h2 with h2 | ⟨g, cap, cur, hv, hg, hh, r⟩
  · exact .inl h2
  · exact .inr ⟨g, cap, cur, hv, hg, by rw [show (w.setCell p v).heap[g]? = w.heap[g]? by simp [World.setCell, Array.getElem?_modify, show p.block ≠ g by omega]]; exact hh, r⟩
theorem OwnL.sepOther {w : World} {e : TypeId} {B n c g i : Nat} {a : Option Addr} {l : List Int} (h : OwnL w e B a n c l) (hs : Sep a (some ⟨g, 0, none⟩)) (v : Value) : OwnL (w.setCell ⟨g, i, none⟩ v) e B a n c l :=
  h.grownS (grown_setCell w g i v) hs
/-- What made keeps behind the store's making. -/
structure MdE (w wr : World) (g p q x y R C : Nat) (aS : Option Addr) (nS cS : Nat) (aC : Option Addr) (nC cC : Nat) (LS LC : List Int) : Prop where
  md : MdS w wr p q x y R C
  blk : ArrV VV wr g 24 [.int .i64 (R : Int), .int .i64 (C : Int), .slice aS nS cS, .slice aC nC cC]
  oS : OwnL wr 3 (w.heap.size + 4) aS nS cS LS
  oC : OwnL wr 3 (w.heap.size + 4) aC nC cC LC
  sg : Sep aS (some ⟨g, 0, none⟩)
  sC : Sep aC (some ⟨g, 0, none⟩)
  sc : Sep aS aC
  hg : w.heap.size + 4 ≤ g
section
variable {w wr W0 w5 w6 w7 : World} {g p q x y R C : Nat} {aS : Option Addr} {nS cS : Nat} {aC : Option Addr} {nC cC : Nat} {LS LC : List Int}
abbrev zer24 : Obj := .cells #[.int .i64 0, .int .i64 0, .slice none 0 0, .slice none 0 0] 24
theorem MdE.e1 (h0 : MdS w W0 p q x y R C) (hG : GoodW W0 w6) (hS : OwnL w5 3 W0.drew.heap.size aS nS cS LS) (hC : OwnL w6 3 w5.heap.size aC nC cC LC) (hb : Below w5.heap.size w5 w6) (hg5 : W0.heap.size ≤ w5.heap.size) :
    MdE w (w6.alloc (.cells #[.int .i64 (R : Int), .int .i64 (C : Int), .slice aS nS cS, .slice aC nC cC] 24)) w6.heap.size p q x y R C aS nS cS aC nC cC LS LC := by
  have hw : w.heap.size + 4 ≤ W0.heap.size := h0.pl.lt
  have h6 := hb.size
  refine ⟨(h0.to hG).to ((Below.refl _ _).alloc (Nat.le_refl _) _), ArrV.new _ _ _ _ _ rfl (by simp [VV]), ((hS.below hb).alloc _).weaken hw, (hC.alloc _).weaken (by omega), fun a b ha hb2 => ?_, fun a b ha hb2 => ?_, fun a b ha hb2 => ?_, by omega⟩
  · have := (hS.lt a ha).2
    obtain rfl := Option.some.inj hb2
    show a.block ≠ w6.heap.size
    omega
  · have := (hC.lt a ha).2
    obtain rfl := Option.some.inj hb2
    show a.block ≠ w6.heap.size
    omega
  · have h1 := (hS.lt a ha).2
    have h2 := (hC.lt b hb2).1
    omega
theorem MdE.four (hmd : MdS w w6 p q x y R C) (hA : ArrV VV w6 g 24 [.int .i64 0, .int .i64 0, .slice none 0 0, .slice none 0 0]) (oS : OwnL w6 3 (w.heap.size + 4) aS nS cS LS) (oC : OwnL w6 3 (w.heap.size + 4) aC nC cC LC) (sg : Sep aS (some ⟨g, 0, none⟩)) (sC : Sep aC (some ⟨g, 0, none⟩)) (sc : Sep aS aC) (hg : w.heap.size + 4 ≤ g) :
    MdE w ((((w6.setCell ⟨g, 0, none⟩ (.int .i64 (R : Int))).setCell ⟨g, 1, none⟩ (.int .i64 (C : Int))).setCell ⟨g, 2, none⟩ (.slice aS nS cS)).setCell ⟨g, 3, none⟩ (.slice aC nC cC)) g p q x y R C aS nS cS aC nC cC LS LC := by
  have hne : ∀ k, k < w.heap.size + 4 → g ≠ k := fun k hk => by omega
  refine ⟨⟨?_, ?_, ?_, ?_, ?_⟩, ?_, ?_, ?_, sg, sC, sc, hg⟩
  · exact (((hmd.f.other (hne _ (by omega)) _).other (hne _ (by omega)) _).other (hne _ (by omega)) _).other (hne _ (by omega)) _
  · exact (((hmd.r.other (hne _ (by omega)) _).other (hne _ (by omega)) _).other (hne _ (by omega)) _).other (hne _ (by omega)) _
  · exact (((hmd.s.other (hne _ (by omega)) _).other (hne _ (by omega)) _).other (hne _ (by omega)) _).other (hne _ (by omega)) _
  · exact (((hmd.pl.other (hne _ (by omega)) _).other (hne _ (by omega)) _).other (hne _ (by omega)) _).other (hne _ (by omega)) _
  · exact (((hmd.below.setCell (p := ⟨g, 0, none⟩) (by simp only []; omega) _).setCell (p := ⟨g, 1, none⟩) (by simp only []; omega) _).setCell (p := ⟨g, 2, none⟩) (by simp only []; omega) _).setCell (p := ⟨g, 3, none⟩) (by simp only []; omega) _
  · exact (((hA.set 0 _).set 1 _).set 2 _).set 3 _
  · exact (((oS.sepOther sg _).sepOther sg _).sepOther sg _).sepOther sg _
  · exact (((oC.sepOther sC _).sepOther sC _).sepOther sC _).sepOther sC _
theorem MdE.e2 (h0 : MdS w W0 p q x y R C) (hG : GoodW W0 w6) (hS : OwnL w5 3 W0.drew.heap.size aS nS cS LS) (hC : OwnL w6 3 (w5.alloc zer24).heap.size aC nC cC LC) (hb : Below (w5.alloc zer24).heap.size (w5.alloc zer24) w6) (hg5 : W0.heap.size ≤ w5.heap.size)
    (hA : ArrV VV w6 w5.heap.size 24 [.int .i64 0, .int .i64 0, .slice none 0 0, .slice none 0 0]) :
    MdE w ((((w6.setCell ⟨w5.heap.size, 0, none⟩ (.int .i64 (R : Int))).setCell ⟨w5.heap.size, 1, none⟩ (.int .i64 (C : Int))).setCell ⟨w5.heap.size, 2, none⟩ (.slice aS nS cS)).setCell ⟨w5.heap.size, 3, none⟩ (.slice aC nC cC)) w5.heap.size p q x y R C aS nS cS aC nC cC LS LC := by
  have hw : w.heap.size + 4 ≤ W0.heap.size := h0.pl.lt
  have hz : (w5.alloc zer24).heap.size = w5.heap.size + 1 := by simp
  rw [hz] at hC
  refine MdE.four (h0.to hG) hA (((hS.alloc _).below hb).weaken hw) (hC.weaken (by omega)) (fun a b ha hb2 => ?_) (fun a b ha hb2 => ?_) (fun a b ha hb2 => ?_) (by omega)
  · have := (hS.lt a ha).2
    obtain rfl := Option.some.inj hb2
    show a.block ≠ w5.heap.size
    omega
  · have := (hC.lt a ha).1
    obtain rfl := Option.some.inj hb2
    show a.block ≠ w5.heap.size
    omega
  · have h1 := (hS.lt a ha).2
    have h2 := (hC.lt b hb2).1
    omega
theorem MdE.e3 (h0 : MdS w W0 p q x y R C) (hG : GoodW W0 w6) (hS : OwnL w5 3 (W0.drew.alloc zer24).heap.size aS nS cS LS) (hC : OwnL w6 3 w5.heap.size aC nC cC LC) (hb : Below w5.heap.size w5 w6) (hg5 : W0.heap.size < w5.heap.size)
    (hA : ArrV VV w6 W0.heap.size 24 [.int .i64 0, .int .i64 0, .slice none 0 0, .slice none 0 0]) :
    MdE w ((((w6.setCell ⟨W0.heap.size, 0, none⟩ (.int .i64 (R : Int))).setCell ⟨W0.heap.size, 1, none⟩ (.int .i64 (C : Int))).setCell ⟨W0.heap.size, 2, none⟩ (.slice aS nS cS)).setCell ⟨W0.heap.size, 3, none⟩ (.slice aC nC cC)) W0.heap.size p q x y R C aS nS cS aC nC cC LS LC := by
  have hw : w.heap.size + 4 ≤ W0.heap.size := h0.pl.lt
  have hz : (W0.drew.alloc zer24).heap.size = W0.heap.size + 1 := by rw [World.size_alloc]; rfl
  rw [hz] at hS
  refine MdE.four (h0.to hG) hA ((hS.below hb).weaken (by omega)) (hC.weaken (by omega)) (fun a b ha hb2 => ?_) (fun a b ha hb2 => ?_) (fun a b ha hb2 => ?_) (by omega)
  · have := (hS.lt a ha).1
    obtain rfl := Option.some.inj hb2
    show a.block ≠ W0.heap.size
    omega
  · have := (hC.lt a ha).1
    obtain rfl := Option.some.inj hb2
    show a.block ≠ W0.heap.size
    omega
  · have h1 := (hS.lt a ha).2
    have h2 := (hC.lt b hb2).1
    omega
theorem MdE.rev (h : MdE w wr g p q x y R C aS nS cS aC nC cC LS LC) (ho : OwnL w7 3 (w.heap.size + 4) aS nS cS LS.reverse) (hg : wr.grownBy w7 (Value.slice aS nS cS).ownBlock) : MdE w w7 g p q x y R C aS nS cS aC nC cC LS.reverse LC := by
  have hne : ∀ k, k < w.heap.size + 4 → some k ≠ (Value.slice aS nS cS).ownBlock := fun k hk e => by
    cases aS with
    | none => simp [Value.ownBlock] at e
    | some a =>
      simp [Value.ownBlock] at e
      have := (h.oS.lt a rfl).1
      omega
  refine ⟨⟨h.md.f.grown hg (hne _ (by omega)), h.md.r.grown hg (hne _ (by omega)), h.md.s.grown hg (hne _ (by omega)), h.md.pl.grown hg (hne _ (by omega)), h.md.below.grown hg h.md.below.size (fun k hk => ?_)⟩, h.blk.grown hg ?_, ho, OwnL.grown h.oC hg h.sc.symm, h.sg, h.sC, h.sc, h.hg⟩
  · cases aS with
    | none => simp [Value.ownBlock] at hk
    | some a =>
      simp [Value.ownBlock] at hk
      have := (h.oS.lt a rfl).1
      omega
  · cases aS with
    | none => simp [Value.ownBlock]
    | some a =>
      have := h.sg a _ rfl rfl
      simp [Value.ownBlock]
      exact fun e => this e.symm
end
end Go.Proofs.YtbhjphcomppjgaaDoor
namespace Go.Proofs.YtbhjphcomppjgaaDoor
open Go.RowKit Beetle09
/-- What made hands back. -/
def MadeP (p q x y M : Nat) (b : Bool) (w : World) (e : Ending) (w' : World) : Prop :=
  ∃ aS nS cS aC nC cC, e = .returned (.tuple #[stV (mkN p M : Nat) (mkN q M : Nat) aS aC nS cS nC cC, plV (mkN p M) (mkN q M), .int .u32 (mkS (mkN p M * mkN q M) x : Nat), .int .u32 (mkZ b (mkN p M * mkN q M) x y : Nat)]) ∧
    IsL w' aS nS cS (li (els 25 (mkS (mkN p M * mkN q M) x)).reverse) ∧ IsL w' aC nC cC (li (els 25 (mkZ b (mkN p M * mkN q M) x y))) ∧ Below w.heap.size w w'
theorem MdE.fin {w w7 : World} {g p q x y R C : Nat} {aS : Option Addr} {nS cS : Nat} {aC : Option Addr} {nC cC : Nat} {LS LC : List Int} (h : MdE w w7 g p q x y R C aS nS cS aC nC cC LS LC) :
    ArrV VV ((((((w7.setCell ⟨w.heap.size + 1, 0, none⟩ (.int .i64 (R : Int))).setCell ⟨w.heap.size + 1, 1, none⟩ (.int .i64 (C : Int))).setCell ⟨w.heap.size + 1, 2, none⟩ (.slice aS nS cS)).setCell ⟨w.heap.size + 1, 3, none⟩ (.slice aC nC cC)).setCell ⟨w.heap.size + 1 + 1, 0, none⟩ (.int .i64 (R : Int))).setCell ⟨w.heap.size + 1 + 1, 1, none⟩ (.int .i64 (C : Int))).drew (w.heap.size + 1) 24 [.int .i64 (R : Int), .int .i64 (C : Int), .slice aS nS cS, .slice aC nC cC] ∧
    ArrV VV ((((((w7.setCell ⟨w.heap.size + 1, 0, none⟩ (.int .i64 (R : Int))).setCell ⟨w.heap.size + 1, 1, none⟩ (.int .i64 (C : Int))).setCell ⟨w.heap.size + 1, 2, none⟩ (.slice aS nS cS)).setCell ⟨w.heap.size + 1, 3, none⟩ (.slice aC nC cC)).setCell ⟨w.heap.size + 1 + 1, 0, none⟩ (.int .i64 (R : Int))).setCell ⟨w.heap.size + 1 + 1, 1, none⟩ (.int .i64 (C : Int))).drew (w.heap.size + 1 + 1) 60 [.int .i64 (R : Int), .int .i64 (C : Int)] ∧
    IsL ((((((w7.setCell ⟨w.heap.size + 1, 0, none⟩ (.int .i64 (R : Int))).setCell ⟨w.heap.size + 1, 1, none⟩ (.int .i64 (C : Int))).setCell ⟨w.heap.size + 1, 2, none⟩ (.slice aS nS cS)).setCell ⟨w.heap.size + 1, 3, none⟩ (.slice aC nC cC)).setCell ⟨w.heap.size + 1 + 1, 0, none⟩ (.int .i64 (R : Int))).setCell ⟨w.heap.size + 1 + 1, 1, none⟩ (.int .i64 (C : Int))).drew aS nS cS LS ∧
    IsL ((((((w7.setCell ⟨w.heap.size + 1, 0, none⟩ (.int .i64 (R : Int))).setCell ⟨w.heap.size + 1, 1, none⟩ (.int .i64 (C : Int))).setCell ⟨w.heap.size + 1, 2, none⟩ (.slice aS nS cS)).setCell ⟨w.heap.size + 1, 3, none⟩ (.slice aC nC cC)).setCell ⟨w.heap.size + 1 + 1, 0, none⟩ (.int .i64 (R : Int))).setCell ⟨w.heap.size + 1 + 1, 1, none⟩ (.int .i64 (C : Int))).drew aC nC cC LC ∧
    Below w.heap.size w ((((((w7.setCell ⟨w.heap.size + 1, 0, none⟩ (.int .i64 (R : Int))).setCell ⟨w.heap.size + 1, 1, none⟩ (.int .i64 (C : Int))).setCell ⟨w.heap.size + 1, 2, none⟩ (.slice aS nS cS)).setCell ⟨w.heap.size + 1, 3, none⟩ (.slice aC nC cC)).setCell ⟨w.heap.size + 1 + 1, 0, none⟩ (.int .i64 (R : Int))).setCell ⟨w.heap.size + 1 + 1, 1, none⟩ (.int .i64 (C : Int))).drew := by
  have q1 : ∀ k : Nat, (⟨w.heap.size + 1, k, none⟩ : Addr).block < w.heap.size + 4 := fun k => by simp only []; omega
  have q2 : ∀ k : Nat, (⟨w.heap.size + 1 + 1, k, none⟩ : Addr).block < w.heap.size + 4 := fun k => by simp only []; omega
  have q3 : ∀ k : Nat, (⟨w.heap.size + 1 + 1, k, none⟩ : Addr).block ≠ w.heap.size + 1 := fun k => by simp only []; omega
  have q4 : ∀ k : Nat, (⟨w.heap.size + 1, k, none⟩ : Addr).block ≠ w.heap.size + 1 + 1 := fun k => by simp only []; omega
  have q5 : ∀ k : Nat, w.heap.size ≤ (⟨w.heap.size + 1, k, none⟩ : Addr).block := fun k => by simp only []; omega
  have q6 : ∀ k : Nat, w.heap.size ≤ (⟨w.heap.size + 1 + 1, k, none⟩ : Addr).block := fun k => by simp only []; omega
  refine ⟨?_, ?_, ?_, ?_, ?_⟩
  · exact ((((((h.md.r.set 0 _).set 1 _).set 2 _).set 3 _).other (q3 0) _).other (q3 1) _).drew
  · exact ((((((h.md.s.other (q4 0) _).other (q4 1) _).other (q4 2) _).other (q4 3) _).set 0 _).set 1 _).drew
  · exact ((((((h.oS.other (q1 0) _).other (q1 1) _).other (q1 2) _).other (q1 3) _).other (q2 0) _).other (q2 1) _).isL.drew
  · exact ((((((h.oC.other (q1 0) _).other (q1 1) _).other (q1 2) _).other (q1 3) _).other (q2 0) _).other (q2 1) _).isL.drew
  · exact ((((((h.md.below.setCell (q5 0) _).setCell (q5 1) _).setCell (q5 2) _).setCell (q5 3) _).setCell (q6 0) _).setCell (q6 1) _).drew
set_option maxHeartbeats 32000000 in
set_option maxRecDepth 100000 in
theorem made_any (p q x y M : Nat) (b : Bool) (w : World) (hp : p < 256) (hq : q < 256) (hx : x < 4294967296) (hy : y < 4294967296) (h1 : 1 ≤ M) (h5 : M ≤ 5) : Calls Tryd.prog 43 #[floV p q x y, .int .i64 (M : Int), .bool b] w (MadeP p q x y M b w) := by
  have f1 : (p : Int) % (M : Int) = ((p % M : Nat) : Int) := by simp
  have f2 : (q : Int) % (M : Int) = ((q % M : Nat) : Int) := by simp
  have hM1 : (0 : Int) < (M : Int) := by omega
  have hM2 : ¬ (M : Int) = 0 := by omega
  have hM3 : ((M : Int) == 0) = false := by simp; omega
  have hp2 := Nat.mod_lt p h1
  have hq2 := Nat.mod_lt q h1
  have HSD := Lib.hid (mk_sd (p := p) (q := q) h1 h5)
  have n25 := HSD.out.n25
  have hR5 := HSD.out.r5
  have hC5 := HSD.out.c5
  have HPO : Hid (∀ e w', (∃ aS nS cS aC nC cC, e = Ending.returned (.tuple #[stV (mkN p M : Nat) (mkN q M : Nat) aS aC nS cS nC cC, plV (mkN p M) (mkN q M), .int .u32 (mkS (mkN p M * mkN q M) x : Nat), .int .u32 (mkZ b (mkN p M * mkN q M) x y : Nat)]) ∧
    IsL w' aS nS cS (li (els 25 (mkS (mkN p M * mkN q M) x)).reverse) ∧ IsL w' aC nC cC (li (els 25 (mkZ b (mkN p M * mkN q M) x y))) ∧ Below w.heap.size w w') → MadeP p q x y M b w e w') := Lib.hid fun e w' h => h
  obtain ⟨PP, hPP⟩ : ∃ PP, MadeP p q x y M b w = PP := ⟨_, rfl⟩
  rw [hPP] at HPO ⊢
  obtain ⟨P, hP⟩ : ∃ P, p % M = P := ⟨_, rfl⟩
  obtain ⟨Q, hQ⟩ : ∃ Q, q % M = Q := ⟨_, rfl⟩
  obtain ⟨R, hR⟩ : ∃ R, mkN p M = R := ⟨_, rfl⟩
  obtain ⟨C, hC⟩ : ∃ C, mkN q M = C := ⟨_, rfl⟩
  have s1 : 1 + (P : Int) = (R : Int) := by rw [← hR, ← hP, mkN]; omega
  have s2 : 1 + (Q : Int) = (C : Int) := by rw [← hC, ← hQ, mkN]; omega
  rw [hR, hC] at HPO
  rw [hP] at f1 hp2
  rw [hQ] at f2 hq2
  rw [hR, hC] at n25 HSD
  rw [hR] at hR5
  rw [hC] at hC5
  have w1 : IntKind.i64.wrap (R : Int) = (R : Int) := IntWalk.i64_in _ (by omega)
  have w2 : IntKind.i64.wrap (C : Int) = (C : Int) := IntWalk.i64_in _ (by omega)
  have w3 : IntKind.i64.wrap (p : Int) = (p : Int) := IntWalk.i64_in _ (by omega)
  have w4 : IntKind.i64.wrap (q : Int) = (q : Int) := IntWalk.i64_in _ (by omega)
  have HT0 := Lib.hid (MdS.start w p q x y R C)
  clear hP hQ hR hC hp2 hq2 hPP
  go_enter Tryd.func43, Tryd.ntmps43
  go_wp2_with fail
  go_region
  clear f1 f2 s1 s2 w1 w2 w3 w4 hM1 hM2 hM3
  obtain ⟨W0, hW0⟩ : ∃ W, ((((w.alloc (.cells (floL p q x y).toArray 58)).alloc (.cells #[.int .i64 0, .int .i64 0, .slice none 0 0, .slice none 0 0] 24)).alloc (.cells #[.int .i64 0, .int .i64 0] 60)).alloc (.cells (plL R C).toArray 60)).drew = W := ⟨_, rfl⟩
  rw [hW0] at HT0
  simp only [plL, floL] at hW0
  rw [hW0]
  clear hW0
  obtain ⟨N, hN⟩ : ∃ N, R * C = N := ⟨_, rfl⟩
  have m1 : (R : Int) * (C : Int) = (N : Int) := by rw [← hN]; simp
  rw [hN] at n25 HPO
  obtain ⟨V, al, hal, hal2, hV1, hV0, g1, g2, g3, g4, g5⟩ := all_facts N n25
  have HAL := Lib.hid hal
  have hsl := lt25 (mkS_lt N x) n25
  have hzl := lt25 (mkZ_lt b N x y) n25
  obtain ⟨sk, hsk⟩ : ∃ sk, mkS N x = sk := ⟨_, rfl⟩
  have k1 : bits .and .u32 (x : Int) (al : Int) = (sk : Int) := by rw [u32_and_nat x al hx (by omega), HAL.out, ← hsk, mkS]
  have HSK := Lib.hid hsk
  rw [hsk] at hsl HPO
  obtain ⟨zk, hzk⟩ : ∃ zk, mkZ b N x y = zk := ⟨_, rfl⟩
  rw [hzk] at hzl HPO
  have HZK := Lib.hid hzk
  have z0 := val HT0.out.f 2 rfl
  have z1 := val HT0.out.f 3 rfl
  have z2 := val HT0.out.pl 0 rfl
  have z3 := val HT0.out.pl 1 rfl
  clear hN hal hsk hzk
  go_upto_if 39 with fail
  go_cut [13] (fun s13 wx => s13 = .int .u32 (zk : Int) ∧ wx = W0)
  case first =>
    cases b with
    | true =>
      obtain ⟨yk, hyk⟩ : ∃ yk, y &&& al = yk := ⟨_, rfl⟩
      have k2 : bits .and .u32 (y : Int) (al : Int) = (yk : Int) := by rw [u32_and_nat y al hy (by omega), hyk]
      have k3 : bits .andNot .u32 (yk : Int) (sk : Int) = (zk : Int) := by
        have : yk < 4294967296 := by rw [← hyk]; exact Nat.lt_of_le_of_lt Nat.and_le_left hy
        rw [u32_andNot_nat yk sk this (by omega), ← HZK.out, mkZ, if_pos rfl, HSK.out, ← hyk, HAL.out]
      clear hyk
      go_wp2_with fail
      go_meet
      exact ⟨rfl, rfl⟩
    | false =>
      obtain rfl : zk = 0 := HZK.out.symm
      go_wp2_with fail
      go_meet
      exact ⟨rfl, rfl⟩
  case rest =>
    obtain ⟨rfl, rfl⟩ := hcut
    have HHS : Hid (∀ w', Calls Tryd.prog 48 #[.int .u32 (sk : Int)] w' fun e w2 => ∃ a c, e = .returned (.slice a (pcN 25 sk) c) ∧ OwnL w2 3 w'.heap.size a (pcN 25 sk) c (li (els 25 sk)) ∧ Below w'.heap.size w' w2) := Lib.hid fun w' => bits_any sk w' (by omega)
    have HHC : Hid (∀ w', Calls Tryd.prog 48 #[.int .u32 (zk : Int)] w' fun e w2 => ∃ a c, e = .returned (.slice a (pcN 25 zk) c) ∧ OwnL w2 3 w'.heap.size a (pcN 25 zk) c (li (els 25 zk)) ∧ Below w'.heap.size w' w2) := Lib.hid fun w' => bits_any zk w' (by omega)
    have HRV : Hid (li (els 25 sk).reverse = (li (els 25 sk)).reverse) := Lib.hid (li_rev _)
    obtain ⟨LS, hLS⟩ : ∃ LS, li (els 25 sk) = LS := ⟨_, rfl⟩
    obtain ⟨nS, hnS⟩ : ∃ nS, pcN 25 sk = nS := ⟨_, rfl⟩
    obtain ⟨LC, hLC⟩ : ∃ LC, li (els 25 zk) = LC := ⟨_, rfl⟩
    obtain ⟨nC, hnC⟩ : ∃ nC, pcN 25 zk = nC := ⟨_, rfl⟩
    rw [hLS, hnS] at HHS
    rw [hLC, hnC] at HHC
    rw [hLS] at HRV
    rw [HRV.out, hLC] at HPO
    clear hLS hnS hLC hnC HRV
    obtain ⟨W0, rfl⟩ : ∃ W, W = wc := ⟨_, rfl⟩
    have HG0 : GoodW W0 W0.drew := (Below.refl _ _).drew
    have l0 : w.heap.size + 1 + 1 + 1 < W0.heap.size := World.block_lt_of_cell? _ _ z2
    go_upto_region 7 with fail
    go_cut [14] (fun s14 wx => ∃ g aS cS aC cC, s14 = .pointer (some ⟨g, 0, none⟩) ∧ Hid (MdE w wx g p q x y R C aS nS cS aC nC cC LS LC))
    case first =>
      go_region_held3 (fun w' => w'.cell? ⟨w.heap.size + 1 + 1 + 1, 0, none⟩ = some (.int .i64 (R : Int)) ∧ w'.cell? ⟨w.heap.size + 1 + 1 + 1, 1, none⟩ = some (.int .i64 (C : Int))) (first | go_keep | exact ⟨z2s, z3s⟩ | exact ⟨z2c, z3c⟩ | (refine ⟨?_, ?_⟩ <;> go_simp))
        (first
          | ((go_at_call 48; with_reducible refine (HHS.out _).mono ?_); (rintro e w5 ⟨aS, cS, rfl, hS, hbS⟩; have hG : GoodW W0 w5 := (by first | exact HG0.to hbS | exact GoodW.to (Below.alloc HG0 (Nat.le_refl _) _) hbS); have z2s := hG.cell z2; have z3s := hG.cell z3; have l5 : w.heap.size + 1 + 1 + 1 < w5.heap.size := World.block_lt_of_cell? _ _ z2s; try (have hA := (ArrV.new (f := VV) W0.drew #[.int .i64 0, .int .i64 0, .slice none 0 0, .slice none 0 0] 24 [.int .i64 0, .int .i64 0, .slice none 0 0, .slice none 0 0] W0.heap.size rfl rfl).below hbS; have a0 := val hA 0 rfl; have a1 := val hA 1 rfl; have a2 := val hA 2 rfl; have a3 := val hA 3 rfl; have a4 := hA.frozen 0; have a5 := hA.frozen 1; have a6 := hA.frozen 2; have a7 := hA.frozen 3)))
          | ((go_at_call 48; with_reducible refine (HHC.out _).mono ?_); (rintro e w6 ⟨aC, cC, rfl, hC, hbC⟩; have hGC : GoodW W0 w6 := (by first | exact hG.to hbC | exact GoodW.to (hG.to ((Below.refl _ _).alloc (Nat.le_refl _) _)) hbC); have z2c := hGC.cell z2; have z3c := hGC.cell z3; have l6 : w.heap.size + 1 + 1 + 1 < w6.heap.size := World.block_lt_of_cell? _ _ z2c; first | (have hA := hA.below hbC; have a0 := val hA 0 rfl; have a1 := val hA 1 rfl; have a2 := val hA 2 rfl; have a3 := val hA 3 rfl; have a4 := hA.frozen 0; have a5 := hA.frozen 1; have a6 := hA.frozen 2; have a7 := hA.frozen 3) | (have hA := (ArrV.new (f := VV) w5 #[.int .i64 0, .int .i64 0, .slice none 0 0, .slice none 0 0] 24 [.int .i64 0, .int .i64 0, .slice none 0 0, .slice none 0 0] w5.heap.size rfl rfl).below hbC; have a0 := val hA 0 rfl; have a1 := val hA 1 rfl; have a2 := val hA 2 rfl; have a3 := val hA 3 rfl; have a4 := hA.frozen 0; have a5 := hA.frozen 1; have a6 := hA.frozen 2; have a7 := hA.frozen 3) | skip)))
      all_goals
        go_wp2_with fail
        go_meet
        first
          | exact ⟨_, _, _, _, _, rfl, Lib.hid (MdE.e1 HT0.out hGC hS hC hbC (Below.size hG))⟩
          | exact ⟨_, _, _, _, _, rfl, Lib.hid (MdE.e2 HT0.out hGC hS hC hbC (Below.size hG) hA)⟩
          | exact ⟨_, _, _, _, _, rfl, Lib.hid (MdE.e3 HT0.out hGC hS hC hbC (Nat.lt_of_lt_of_le (show W0.heap.size < (W0.alloc zer24).drew.heap.size by rw [show (W0.alloc zer24).drew.heap.size = W0.heap.size + 1 from World.size_alloc _ _]; exact Nat.lt_succ_self _) (Below.size hbS)) hA)⟩
    case rest =>
      obtain ⟨g, aS, cS, aC, cC, rfl, hE⟩ := hcut
      clear z0 z1 z2 z3 HT0 HG0 l0 HHS HHC
      obtain ⟨W1, rfl⟩ : ∃ W, W = wc := ⟨_, rfl⟩
      have c2 := val hE.out.blk 2 rfl
      have hB : w.heap.size + 4 ≤ W1.heap.size := hE.out.md.pl.lt
      go_wp2_with fail
      refine (Reverse_any (w.heap.size + 4) aS nS cS LS W1 hE.out.oS hB).mono ?_
      rintro e w7 ⟨rfl, ho7, hg7⟩
      have HE7 := Lib.hid (hE.out.rev ho7 hg7)
      clear hE c2 hB ho7 hg7
      have c0 := val HE7.out.blk 0 rfl
      have c1 := val HE7.out.blk 1 rfl
      have c2 := val HE7.out.blk 2 rfl
      have c3 := val HE7.out.blk 3 rfl
      have d0 := val HE7.out.md.pl 0 rfl
      have d1 := val HE7.out.md.pl 1 rfl
      have r0 := val HE7.out.md.r 0 rfl
      have r1 := val HE7.out.md.r 1 rfl
      have r2 := val HE7.out.md.r 2 rfl
      have r3 := val HE7.out.md.r 3 rfl
      have r4 := HE7.out.md.r.frozen 0
      have r5 := HE7.out.md.r.frozen 1
      have r6 := HE7.out.md.r.frozen 2
      have r7 := HE7.out.md.r.frozen 3
      have t0 := val HE7.out.md.s 0 rfl
      have t1 := val HE7.out.md.s 1 rfl
      have t2 := HE7.out.md.s.frozen 0
      have t3 := HE7.out.md.s.frozen 1
      have hgl := HE7.out.hg
      have hE9 := Lib.hid HE7.out.fin
      go_wp2_with fail
      go_region
      all_goals
        go_wp2_with fail
        have HF := hE9.out
        clear hE9 r0 r1 r2 r3 r4 r5 r6 r7 t0 t1 t2 t3 c0 c1 c2 c3 d0 d1
        obtain ⟨W9, hW9⟩ : ∃ W, ((((((w7.setCell ⟨w.heap.size + 1, 0, none⟩ (.int .i64 (R : Int))).setCell ⟨w.heap.size + 1, 1, none⟩ (.int .i64 (C : Int))).setCell ⟨w.heap.size + 1, 2, none⟩ (.slice aS nS cS)).setCell ⟨w.heap.size + 1, 3, none⟩ (.slice aC nC cC)).setCell ⟨w.heap.size + 1 + 1, 0, none⟩ (.int .i64 (R : Int))).setCell ⟨w.heap.size + 1 + 1, 1, none⟩ (.int .i64 (C : Int))).drew = W := ⟨_, rfl⟩
        rw [hW9] at HF ⊢
        clear hW9
        obtain ⟨e1, e2, e3, e4, e5⟩ := HF
        have c0 := val e1 0 rfl
        have c1 := val e1 1 rfl
        have c2 := val e1 2 rfl
        have c3 := val e1 3 rfl
        have d0 := val e2 0 rfl
        have d1 := val e2 1 rfl
        refine bodyPost_ret (v := .tuple #[stV (R : Int) (C : Int) aS aC nS cS nC cC, plV R C, .int .u32 (sk : Int), .int .u32 (zk : Int)]) (by simp [results, Tryd.results43, go_sem, c0, c1, c2, c3, d0, d1]) rfl (HPO.out _ _ ⟨aS, nS, cS, aC, nC, cC, rfl, e3, e4, e5⟩)
end Go.Proofs.YtbhjphcomppjgaaDoor
namespace Go.Proofs.YtbhjphcomppjgaaDoor
open Go.RowKit Beetle09
theorem made5_any (p q x y : Nat) (b : Bool) (w : World) (hp : p < 256) (hq : q < 256) (hx : x < 4294967296) (hy : y < 4294967296) : Calls Tryd.prog 43 #[floV p q x y, .int .i64 5, .bool b] w (MadeP p q x y 5 b w) := made_any p q x y 5 b w hp hq hx hy (by decide) (by decide)
theorem made3_any (p q x y : Nat) (b : Bool) (w : World) (hp : p < 256) (hq : q < 256) (hx : x < 4294967296) (hy : y < 4294967296) : Calls Tryd.prog 43 #[floV p q x y, .int .i64 3, .bool b] w (MadeP p q x y 3 b w) := made_any p q x y 3 b w hp hq hx hy (by decide) (by decide)
/-- What a law keeps of its floor: the store in block g, the plan behind it. -/
structure LwS (w wr : World) (g R C : Nat) (aS : Option Addr) (nS cS : Nat) (aC : Option Addr) (nC cC : Nat) (S F : List Int) : Prop where
  st : ArrV VV wr g 24 [.int .i64 (R : Int), .int .i64 (C : Int), .slice aS nS cS, .slice aC nC cC]
  pl : ArrV VV wr (g + 1) 60 (plL R C)
  iS : IsL wr aS nS cS S
  iF : IsL wr aC nC cC F
  tab : Tab wr
  below : Below w.heap.size w wr
theorem LwS.to {w wr w' : World} {g R C : Nat} {aS : Option Addr} {nS cS : Nat} {aC : Option Addr} {nC cC : Nat} {S F : List Int} (h : LwS w wr g R C aS nS cS aC nC cC S F) (hb : Below wr.heap.size wr w') : LwS w w' g R C aS nS cS aC nC cC S F :=
  ⟨h.st.below hb, h.pl.below hb, h.iS.below hb, h.iF.below hb, h.tab.to hb, h.below.trans (hb.mono h.below.size)⟩
theorem LwS.start {w w1 : World} {R C : Nat} {aS : Option Addr} {nS cS : Nat} {aC : Option Addr} {nC cC : Nat} {S F : List Int} {o : Obj} (hS : IsL w1 aS nS cS S) (hF : IsL w1 aC nC cC F) (hT : Tab w) (hb : Below (w.alloc o).heap.size (w.alloc o) w1) :
    LwS w ((w1.alloc (.cells #[.int .i64 (R : Int), .int .i64 (C : Int), .slice aS nS cS, .slice aC nC cC] 24)).alloc (.cells #[.int .i64 (R : Int), .int .i64 (C : Int)] 60)) w1.heap.size R C aS nS cS aC nC cC S F := by
  have h0 : Below w.heap.size w w1 := ((Below.refl _ _).alloc (Nat.le_refl _) o).trans (hb.mono (by simp))
  refine ⟨(ArrV.new w1 _ _ _ _ rfl (by simp [VV])).alloc _, ArrV.new _ _ _ _ _ (by simp) (by simp [VV]), (hS.alloc _).alloc _, (hF.alloc _).alloc _, hT.to ?_, ?_⟩
  · exact (h0.alloc h0.size _).alloc (by simp; have := h0.size; omega) _
  · exact (h0.alloc h0.size _).alloc (by simp; have := h0.size; omega) _
theorem LwS.lt {w wr : World} {g R C : Nat} {aS : Option Addr} {nS cS : Nat} {aC : Option Addr} {nC cC : Nat} {S F : List Int} (h : LwS w wr g R C aS nS cS aC nC cC S F) : g + 1 < wr.heap.size := h.pl.lt
end Go.Proofs.YtbhjphcomppjgaaDoor
