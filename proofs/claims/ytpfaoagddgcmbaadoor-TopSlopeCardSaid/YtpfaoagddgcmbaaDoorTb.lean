/- Walks of chapter 3: orders by numbers. -/
import Derived.Test.YtpfaoagddgcmbaaDoorTa
import Derived.Test.YtpfaoagddgcmbaaDoorLib7
import Derived.Deep.RegionWith
import Derived.Deep.RegionLaw
import Derived.Shelf.RegionOpenPlain
namespace Grade03
/-- the code that numbers give -/
def cdF (n : Nat) (by_ : List Int) : List Int := (List.range n).map fun i => by_.getD i 0 % ((n - i : Nat) : Int)
theorem cdF_get {n i : Nat} (by_ : List Int) (hi : i < n) : (cdF n by_).getD i 0 = by_.getD i 0 % ((n - i : Nat) : Int) := by simp [cdF, List.getD, hi]
theorem cdF_ok {n : Nat} (by_ : List Int) (i : Nat) (hi : i < n) : okC n (cdF n by_) i := by
  unfold okC
  rw [cdF_get by_ hi]
  have h1 := Int.emod_nonneg (by_.getD i 0) (b := ((n - i : Nat) : Int)) (by omega)
  have h2 := Int.emod_lt_of_pos (by_.getD i 0) (b := ((n - i : Nat) : Int)) (by omega)
  omega
def dealL (n : Nat) (by_ : List Int) : List Int := fromK n (cdF n by_) n
theorem deal_ord (n : Nat) (by_ : List Int) : IsO (dealL n by_) ∧ (dealL n by_).length = n := from_ord fun j hj => cdF_ok by_ j hj
end Grade03
namespace Go.Proofs.YtpfaoagddgcmbaaDoor
open Go.RowKit Grade03
abbrev U8 : Int → Value := Value.int .u8
set_option maxHeartbeats 4000000 in
set_option maxRecDepth 100000 in
theorem dealt_any (n : Nat) (y0 y1 y2 y3 y4 y5 y6 : Int) (w : World) (hb : ∀ i, 0 ≤ ([y0, y1, y2, y3, y4, y5, y6] : List Int).getD i 0 ∧ ([y0, y1, y2, y3, y4, y5, y6] : List Int).getD i 0 < 256) (hn : n ≤ 7) :
    Calls Tryd.prog 10 #[.int .i64 (n : Int), .agg #[U8 y0, U8 y1, U8 y2, U8 y3, U8 y4, U8 y5, U8 y6]] w fun e w' => ∃ a' c', e = .returned (.slice a' n c') ∧ OwnL w' 3 w.heap.size a' n c' (dealL n [y0, y1, y2, y3, y4, y5, y6]) ∧ Below w.heap.size w w' := by
  have HB := Lib.hid hb
  obtain ⟨DL, hDL⟩ : ∃ DL, dealL n [y0, y1, y2, y3, y4, y5, y6] = DL := ⟨_, rfl⟩
  have HDL : Hid (DL = fromK n (cdF n [y0, y1, y2, y3, y4, y5, y6]) n) := Lib.hid (by rw [← hDL]; rfl)
  rw [hDL]
  clear hb hDL
  go_enter Tryd.func10, Tryd.ntmps10
  go_wp2_with fail
  have A0 : ArrV U8 (w.alloc (.cells #[U8 y0, U8 y1, U8 y2, U8 y3, U8 y4, U8 y5, U8 y6] 22)) w.heap.size 22 [y0, y1, y2, y3, y4, y5, y6] := ArrV.new w _ _ _ _ rfl rfl
  have b0 := (Below.refl w.heap.size w).alloc (Nat.le_refl _) (.cells #[U8 y0, U8 y1, U8 y2, U8 y3, U8 y4, U8 y5, U8 y6] 22)
  have b00 : w.heap.size + 1 ≤ (w.alloc (.cells #[U8 y0, U8 y1, U8 y2, U8 y3, U8 y4, U8 y5, U8 y6] 22)).heap.size := by simp
  generalize w.alloc (.cells #[U8 y0, U8 y1, U8 y2, U8 y3, U8 y4, U8 y5, U8 y6] 22) = W at *
  have HA0 := Lib.hid A0
  have HCG : Hid (∀ i, i < n → (cdF n [y0, y1, y2, y3, y4, y5, y6]).getD i 0 = ([y0, y1, y2, y3, y4, y5, y6] : List Int).getD i 0 % ((n - i : Nat) : Int)) := Lib.hid (fun i hi => cdF_get _ hi)
  have HCO : Hid (∀ j, j < n → okC n (cdF n [y0, y1, y2, y3, y4, y5, y6]) j) := Lib.hid (fun j hj => cdF_ok _ j hj)
  have HLN : Hid (([y0, y1, y2, y3, y4, y5, y6] : List Int).length = 7) := Lib.hid rfl
  clear A0
  generalize cdF n [y0, y1, y2, y3, y4, y5, y6] = l at *
  generalize ([y0, y1, y2, y3, y4, y5, y6] : List Int) = Y at *
  go_loopw [11, 5] (fun vx vl wr => ∃ (x : Nat) (a' : Option Addr) (c' : Nat), x ≤ n ∧ vx = .int .i64 (x : Int) ∧ vl = .slice a' x c' ∧ Hid (OwnL wr 3 (w.heap.size + 1) a' x c' ((List.range x).map fun y : Nat => (y : Int))) ∧ Below (w.heap.size + 1) W wr) (fun vx _ _ => n - (intOf vx).toNat)
  case atStart => exact ⟨0, none, 0, by omega, rfl, rfl, Lib.hid (OwnL.nilL _ _ _), Below.refl _ _⟩
  case round =>
    obtain ⟨x, a', c', hx, rfl, rfl, hO, hb⟩ := hrel
    have hsz := Nat.le_trans b00 hb.size
    by_cases hlt : x < n
    · have q0 : (x : Int) < (n : Int) := by omega
      have HN : Hid ((List.range (x + 1)).map (fun y : Nat => (y : Int)) = (List.range x).map (fun y : Nat => (y : Int)) ++ [(x : Int)]) := Lib.hid (by rw [List.range_succ, List.map_append]; rfl)
      have hO1 := hO.out
      clear hO
      go_wp2_with (at_builtin; refine wl_app_own Tryd.underlying23 elem3 (w.heap.size + 1) (.tmp 14) (.tmp 16) rfl rfl rfl rfl (hO1.alloc _) (isL_one _ _ _) (by simp; omega) (by omega) ?_)
      intro a2 c2 w3 ho3 hg3 hb3 _
      have hO3 : Hid (OwnL w3 3 (w.heap.size + 1) a2 (x + 1) c2 ((List.range (x + 1)).map fun y : Nat => (y : Int))) := Lib.hid (by rw [HN.out]; exact ho3)
      have hb4 := (hb.alloc hsz (.cells #[.int .i64 (x : Int)] 3)).trans hb3
      clear ho3 hg3 hb3 hO1
      go_wp2
      go_roundw
      case rel => first | exact ⟨x + 1, a2, c2, by omega, by go_num, rfl, hO3, hb4⟩ | ((repeat apply Exists.intro); exact ⟨⟨x + 1, a2, c2, by omega, by go_num, rfl, hO3, hb4⟩, rfl⟩)
      case measure => (simp [intOf] <;> omega)
    · obtain rfl : x = n := by omega
      have HO := hO.out
      rw [← lefL_nil x] at HO
      have HO1 := Lib.hid HO
      clear hO HO
      go_wp2_with fail
      go_loopw [20, 5, 6] (fun vi vl vo wr => ∃ (i r : Nat) (a1 : Option Addr) (c1 : Nat) (a2 : Option Addr) (c2 : Nat), r + i = x ∧ vi = .int .i64 (i : Int) ∧ vl = .slice a1 r c1 ∧ vo = .slice a2 i c2 ∧ Hid (OwnL wr 3 (w.heap.size + 1) a1 r c1 (lefL x (fromK x l i))) ∧ Hid (OwnL wr 3 (w.heap.size + 1) a2 i c2 (fromK x l i)) ∧ Sep a1 a2 ∧ Below (w.heap.size + 1) W wr) (fun vi _ _ _ => x - (intOf vi).toNat)
      case atStart => exact ⟨0, x, a', c', none, 0, by omega, rfl, rfl, rfl, HO1, Lib.hid (OwnL.nilL _ _ _), Sep.none_right _, hb⟩
      case round =>
        clear HO1 hb hsz hx
        obtain ⟨i, r, a1, c1, a2, c2, hir, rfl, rfl, rfl, hE, hO, hsep, hb⟩ := hrel
        have hsz := Nat.le_trans b00 hb.size
        by_cases hlt2 : i < x
        · have q0 : (i : Int) < (x : Int) := by omega
          have A1 : ArrV U8 wr w.heap.size 22 Y := (hb.block w.heap.size (Nat.lt_succ_self _)).trans HA0.out
          have m0 := A1.cell i 0 (by rw [HLN.out]; omega)
          have hb8 := HB.out i
          have hcg := HCG.out i hlt2
          have q7 : (i : Int) < 7 := by omega
          have q77 : i < 7 := by omega
          obtain ⟨v, hv⟩ : ∃ v, Y.getD i 0 = v := ⟨_, rfl⟩
          rw [hv] at m0 hb8 hcg
          obtain ⟨v0, v1⟩ := hb8
          rw [show x - i = r by omega] at hcg
          have hr0 : (0 : Int) < (r : Int) := by omega
          have h1 := Int.emod_nonneg v (b := (r : Int)) (by omega)
          have h2 := Int.emod_lt_of_pos v (b := (r : Int)) hr0
          obtain ⟨k, hk⟩ : ∃ k : Nat, v % (r : Int) = (k : Int) := ⟨(v % (r : Int)).toNat, by omega⟩
          rw [hk] at hcg h1 h2
          have HCK := Lib.hid hcg
          have hkr : k < r := by omega
          have q1 : (k : Int) < (r : Int) := h2
          have hE1 := hE.out
          have hO1 := hO.out
          obtain ⟨g, rfl⟩ := hE1.addr (by omega)
          obtain ⟨y2, _⟩ := hE1.gen.cell k 0 hkr
          have HLE : Hid ((lefL x (fromK x l i)).length = r) := Lib.hid hE1.len
          have HF : Hid (fromK x l (i + 1) = fromK x l i ++ [(lefL x (fromK x l i)).getD k 0]) := Lib.hid (by rw [fromK, HCK.out, Int.toNat_natCast])
          have HG : Hid (lefL x (fromK x l (i + 1)) = (lefL x (fromK x l i)).eraseIdx k) := Lib.hid (by rw [HF.out, lef_next (by rw [HLE.out]; exact hkr)])
          have w2 : IntKind.i64.wrap ((k : Int) + 1) = (k : Int) + 1 := IntWalk.i64_in _ (by omega)
          obtain ⟨z, hz⟩ : ∃ z, (lefL x (fromK x l i)).getD k 0 = z := ⟨_, rfl⟩
          rw [hz] at y2 HF
          clear hE hO hz hcg hv A1 h1 h2
          go_wp2_with (at_builtin; refine wl_app_own Tryd.underlying23 elem3 (w.heap.size + 1) (.tmp 30) (.tmp 35) rfl rfl rfl rfl (hO1.alloc _) (isL_one _ _ _) (by simp; omega) (by omega) ?_)
          intro a6 c6 w6 o6 g6 b6 v6
          have hE6 := (hE1.alloc (.cells #[.int .i64 z] 3)).grown g6 hsep
          have hS6 := (hsep.symm.via v6 (fun x hx => by have := (hE1.lt x hx).2; simp; omega)).symm
          have hb6 := (hb.alloc hsz (.cells #[.int .i64 z] 3)).trans b6
          have hsz6 := hb6.size
          have hle1 := hE1.isL.le
          have hcap1 := hE1.isL.cap
          clear g6 b6 v6 hE1 hO1 hb
          have n1 : (0 : Int) ≤ (k : Int) + 1 := by omega
          have n2 : ((k : Int) + 1).toNat = k + 1 := by omega
          have n3 : (k : Int) + 1 ≤ (r : Int) := by omega
          have n4 : (k : Int) ≤ (r : Int) := by omega
          have n5 : (k : Int) ≤ (c1 : Int) := by omega
          have n6 : (k : Int) + 1 ≤ (c1 : Int) := by omega
          go_wp2_with fail
          have hE6s := hE6.isL
          have hp1 : IsL w6 (some ⟨g, 0, none⟩) k c1 ((lefL x (fromK x l i)).take k) := hE6s.pre k c1 (by omega) (by omega) (by omega)
          have HLN2 := Lib.hid hE6.len
          have hsz6' : w.heap.size + 1 ≤ w6.heap.size := Nat.le_trans b00 hsz6
          have mixed : Tryd.prog.follows Departure.mixedOrders = true := by kernel_rfl
          have hP0 := (own_lit w6 3 w6.heap.size (Nat.le_refl _) [] #[] 0 rfl rfl (by decide)).drew
          have hP1 := (hp1.alloc (.cells #[] 3)).drew
          have hP2 : w6.heap.size ≤ (w6.alloc (.cells #[] 3)).drew.heap.size := by simp
          have hP3 : 0 + k ≤ 17592186044416 := by omega
          by_cases hcc : c1 = k + 1
          · subst hcc
            obtain rfl : r = k + 1 := by omega
            have n7 : (k : Int) ≤ (k : Int) + 1 := by omega
            have hp2 : IsL w6 (some ⟨g, 0, none⟩) 0 0 ((lefL x (fromK x l i)).drop (k + 1)) := by
              have := hE6s.cut (k + 1) (k + 1) (k + 1) (Nat.le_refl _) (Nat.le_refl _) (Nat.le_refl _) (Nat.le_refl _)
              rw [if_pos rfl, Nat.sub_self, List.take_of_length_le (by rw [HLN2.out]; exact Nat.le_refl _)] at this
              exact this
            go_region_law_o (first
              | (refine step_app_own Tryd.underlying23 elem3 w6.heap.size (.tmp 37) (.tmp 40) ?_ ?_ ?_ ?_ hP0 hP1 hP2 hP3 ?_; rfl; rfl; rfl; rfl; intro a7 c7 w7 o7 g7 b7 v7; have o7' : OwnL w7 3 w6.heap.size a7 k c7 ((lefL x (fromK x l i)).take k) := (by simpa using o7); have b7' : Below w6.heap.size w6 w7 := ((Below.refl _ w6).alloc (Nat.le_refl _) _).drew.trans b7; have hp2' := hp2.below b7'; have hP4 := b7'.size)
              | (refine step_app_own Tryd.underlying23 elem3 w6.heap.size (.tmp 41) (.tmp 45) ?_ ?_ ?_ ?_ o7' hp2' hP4 (by omega) ?_; rfl; rfl; rfl; rfl; intro a8 c8 w8 o8 g8 b8 v8))
            have b8' : Below w6.heap.size w6 w8 := b7'.trans b8
            have hb8 := hb6.trans (b8'.mono hsz6')
            have hlen : k + 0 = k + 1 - 1 := by omega
            have hE8 : Hid (OwnL w8 3 (w.heap.size + 1) a8 (k + 1 - 1) c8 (lefL x (fromK x l (i + 1)))) := Lib.hid (by
              rw [HG.out, List.eraseIdx_eq_take_drop_succ]
              have := o8.weaken hsz6'
              rw [hlen] at this
              exact this)
            have hO8 : Hid (OwnL w8 3 (w.heap.size + 1) a6 (i + 1) c6 (fromK x l (i + 1))) := Lib.hid (by rw [HF.out]; exact o6.below b8')
            have hS8 : Sep a8 a6 := fun x y hx hy => by
              have h1 := (o8.lt x hx).1
              have h2 := (o6.lt y hy).2
              omega
            first | rw [hlen] | skip
            clear o6 hE6 hb6 o7 o7' g7 b7 v7 b7' hp2 hp2' o8 g8 b8 v8 b8' hE6s hp1 hP0 hP1
            go_wp2
            go_roundw
            case rel => first | exact ⟨i + 1, k + 1 - 1, a8, c8, a6, c6, by omega, by go_num, rfl, rfl, hE8, hO8, hS8, hb8⟩ | ((repeat apply Exists.intro); exact ⟨⟨i + 1, k + 1 - 1, a8, c8, a6, c6, by omega, by go_num, rfl, rfl, hE8, hO8, hS8, hb8⟩, rfl⟩)
            case measure => (simp [intOf] <;> omega)
          · have hcb : (c1 == k + 1) = false := by simpa using hcc
            have hp2 : IsL w6 (some ⟨g, k + 1, none⟩) (r - (k + 1)) (c1 - (k + 1)) ((lefL x (fromK x l i)).drop (k + 1)) := by
              have := hE6s.cut (k + 1) r c1 (by omega) (Nat.le_refl _) (by omega) (Nat.le_refl _)
              rw [if_neg hcc, List.take_of_length_le (by rw [HLN2.out]; exact Nat.le_refl _)] at this
              simpa [add_lit0] using this
            go_region_law_o (first
              | (refine step_app_own Tryd.underlying23 elem3 w6.heap.size (.tmp 37) (.tmp 40) ?_ ?_ ?_ ?_ hP0 hP1 hP2 hP3 ?_; rfl; rfl; rfl; rfl; intro a7 c7 w7 o7 g7 b7 v7; have o7' : OwnL w7 3 w6.heap.size a7 k c7 ((lefL x (fromK x l i)).take k) := (by simpa using o7); have b7' : Below w6.heap.size w6 w7 := ((Below.refl _ w6).alloc (Nat.le_refl _) _).drew.trans b7; have hp2' := hp2.below b7'; have hP4 := b7'.size)
              | (refine step_app_own Tryd.underlying23 elem3 w6.heap.size (.tmp 41) (.tmp 45) ?_ ?_ ?_ ?_ o7' hp2' hP4 (by omega) ?_; rfl; rfl; rfl; rfl; intro a8 c8 w8 o8 g8 b8 v8))
            have b8' : Below w6.heap.size w6 w8 := b7'.trans b8
            have hb8 := hb6.trans (b8'.mono hsz6')
            have hlen : k + (r - (k + 1)) = r - 1 := by omega
            have hE8 : Hid (OwnL w8 3 (w.heap.size + 1) a8 (r - 1) c8 (lefL x (fromK x l (i + 1)))) := Lib.hid (by
              rw [HG.out, List.eraseIdx_eq_take_drop_succ]
              have := o8.weaken hsz6'
              rw [hlen] at this
              exact this)
            have hO8 : Hid (OwnL w8 3 (w.heap.size + 1) a6 (i + 1) c6 (fromK x l (i + 1))) := Lib.hid (by rw [HF.out]; exact o6.below b8')
            have hS8 : Sep a8 a6 := fun x y hx hy => by
              have h1 := (o8.lt x hx).1
              have h2 := (o6.lt y hy).2
              omega
            first | rw [hlen] | skip
            clear o6 hE6 hb6 o7 o7' g7 b7 v7 b7' hp2 hp2' o8 g8 b8 v8 b8' hE6s hp1 hP0 hP1
            go_wp2
            go_roundw
            case rel => first | exact ⟨i + 1, r - 1, a8, c8, a6, c6, by omega, by go_num, rfl, rfl, hE8, hO8, hS8, hb8⟩ | ((repeat apply Exists.intro); exact ⟨⟨i + 1, r - 1, a8, c8, a6, c6, by omega, by go_num, rfl, rfl, hE8, hO8, hS8, hb8⟩, rfl⟩)
            case measure => (simp [intOf] <;> omega)
        · obtain rfl : i = x := by omega
          go_wp2
          go_ret
          exact ⟨_, _, rfl, by rw [HDL.out]; exact hO.out.weaken (Nat.le_succ _), b0.trans (hb.mono (Nat.le_succ _))⟩
end Go.Proofs.YtpfaoagddgcmbaaDoor
