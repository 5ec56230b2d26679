/- Walks of chapter 3: GradeLines' closure. -/
import Derived.Test.YtmcckngodaeojaaXe
import Derived.Test.YtmcckngodaeojaaXc
import Derived.BigQuiet
import Derived.Deep.CutRange
namespace Grade03
theorem bI_add {p q r : Prop} [Decidable p] [Decidable q] [Decidable r] (h1 : p ↔ q ∨ r) (h2 : ¬ (q ∧ r)) : bI p = bI q + bI r := by
  unfold bI
  by_cases hq : q
  · have hr : ¬ r := fun hr => h2 ⟨hq, hr⟩
    rw [if_pos hq, if_neg hr, if_pos (h1.2 (.inl hq))]; rfl
  · by_cases hr : r
    · rw [if_neg hq, if_pos hr, if_pos (h1.2 (.inr hr))]; rfl
    · rw [if_neg hq, if_neg hr, if_neg (fun h => (h1.1 h).elim hq hr)]; rfl
theorem sm2_zero {f : Nat → Nat → Int} {n : Nat} (h0 : ∀ x, x < n → ∀ y, y < n → 0 ≤ f x y) (h : sm (fun x => sm (f x) n) n = 0) (x : Nat) (hx : x < n) (y : Nat) (hy : y < n) : f x y = 0 := by
  have h1 := sm_eq_of_le (f := fun _ => 0) (g := fun x => sm (f x) n) n (fun x hx => sm_nonneg _ (h0 x hx)) (by rw [sm_zero, h]) x hx
  exact (sm_eq_of_le (f := fun _ => 0) (g := f x) n (h0 x hx) (by rw [sm_zero]; exact h1) y hy).symm
def viaN (a b l : List Int) (n : Nat) : Int := sm (fun x => sm (fun y => bI (bef a x y ∧ bef b x y ∧ bef l y x)) n) n
theorem dist_via {n : Nat} {a b l : List Int} (ha : IsO a) (hb : IsO b) (hl : IsO l) (la : a.length = n) (lb : b.length = n) (ll : l.length = n) : dist a l + dist l b = dist a b + 2 * viaN a b l n := by
  have tot : ∀ {c : List Int}, IsO c → c.length = n → ∀ x y, x < n → y < n → x ≠ y → bef c x y ∨ bef c y x := fun hc hcl x y hx hy hne => bef_total hc (by omega) (by omega) hne
  have e1 : dist a l = viaN a b l n + sm (fun x => sm (fun y => bI (bef a x y ∧ bef l y x ∧ bef b y x)) n) n := by
    unfold dist viaN
    rw [la, ← sm_add]
    refine sm_congr _ fun x hx => ?_
    rw [← sm_add]
    refine sm_congr _ fun y hy => bI_add ⟨fun h => ?_, fun h => h.elim (fun h => ⟨h.1, h.2.2⟩) (fun h => ⟨h.1, h.2.1⟩)⟩ (fun h => bef_asymm h.1.2.1 h.2.2.2)
    have hne : x ≠ y := fun e => by subst e; exact bef_irrefl _ _ h.1
    rcases tot hb lb x y hx hy hne with hh | hh
    · exact .inl ⟨h.1, hh, h.2⟩
    · exact .inr ⟨h.1, h.2, hh⟩
  have e2 : dist a b = sm (fun x => sm (fun y => bI (bef a x y ∧ bef l y x ∧ bef b y x)) n) n + sm (fun x => sm (fun y => bI (bef a x y ∧ bef l x y ∧ bef b y x)) n) n := by
    unfold dist
    rw [la, ← sm_add]
    refine sm_congr _ fun x hx => ?_
    rw [← sm_add]
    refine sm_congr _ fun y hy => bI_add ⟨fun h => ?_, fun h => h.elim (fun h => ⟨h.1, h.2.2⟩) (fun h => ⟨h.1, h.2.2⟩)⟩ (fun h => bef_asymm h.1.2.1 h.2.2.1)
    have hne : x ≠ y := fun e => by subst e; exact bef_irrefl _ _ h.1
    rcases tot hl ll x y hx hy hne with hh | hh
    · exact .inr ⟨h.1, hh, h.2⟩
    · exact .inl ⟨h.1, hh, h.2⟩
  have e3 : dist l b = sm (fun x => sm (fun y => bI (bef a x y ∧ bef l x y ∧ bef b y x)) n) n + sm (fun x => sm (fun y => bI (bef l x y ∧ bef b y x ∧ bef a y x)) n) n := by
    unfold dist
    rw [ll, ← sm_add]
    refine sm_congr _ fun x hx => ?_
    rw [← sm_add]
    refine sm_congr _ fun y hy => bI_add ⟨fun h => ?_, fun h => h.elim (fun h => ⟨h.2.1, h.2.2⟩) (fun h => ⟨h.1, h.2.1⟩)⟩ (fun h => bef_asymm h.1.1 h.2.2.2)
    have hne : x ≠ y := fun e => by subst e; exact bef_irrefl _ _ h.1
    rcases tot ha la x y hx hy hne with hh | hh
    · exact .inl ⟨hh, h.1, h.2⟩
    · exact .inr ⟨h.1, h.2, hh⟩
  have e4 : sm (fun x => sm (fun y => bI (bef l x y ∧ bef b y x ∧ bef a y x)) n) n = viaN a b l n := by
    rw [sm_swap (fun x y => bI (bef l x y ∧ bef b y x ∧ bef a y x))]
    exact sm_congr _ fun x _ => sm_congr _ fun y _ => bI_congr ⟨fun h => ⟨h.2.2, h.2.1, h.1⟩, fun h => ⟨h.2.2, h.2.1, h.1⟩⟩
  rw [e4] at e3
  omega
theorem dist_lin {n : Nat} {a b l : List Int} (ha : IsO a) (hb : IsO b) (hl : IsO l) (la : a.length = n) (lb : b.length = n) (ll : l.length = n) : dist a l + dist l b = dist a b ↔ Lin n (btwR a b) l := by
  have h := dist_via ha hb hl la lb ll
  constructor
  · intro he x hx y hy hr
    have h0 : viaN a b l n = 0 := by omega
    have h1 := sm2_zero (f := fun x y => bI (bef a x y ∧ bef b x y ∧ bef l y x)) (fun _ _ _ _ => bI_nonneg _) h0 x hx y hy
    have hne : x ≠ y := fun e => by subst e; exact bef_irrefl _ _ hr.1
    rcases bef_total hl (x := x) (y := y) (by omega) (by omega) hne with hh | hh
    · exact hh
    · rw [bI, if_pos ⟨hr.1, hr.2, hh⟩] at h1; cases h1
  · intro hL
    have h0 : viaN a b l n = 0 := (sm_congr _ fun x hx => (sm_congr _ fun y hy => by rw [bI, if_neg (fun h => bef_asymm (hL x hx y hy ⟨h.1, h.2.1⟩) h.2.2)]).trans (sm_zero _)).trans (sm_zero _)
    omega
/-- the orders between, among the first i ones -/
def cntI (n : Nat) (a b : List Int) (i : Nat) : Nat := ((allO n n []).take i).countP fun l => decide (Lin n (btwR a b) l)
def fstI (n : Nat) (a b : List Int) (i : Nat) : Option (List Int) := ((allO n n []).take i).find? fun l => decide (Lin n (btwR a b) l)
theorem take_at {n i : Nat} {l : List Int} (h : (allO n n [])[i]? = some l) : (allO n n []).take (i + 1) = (allO n n []).take i ++ [l] := by
  rw [List.take_add_one, h]; rfl
theorem cntI_succ {n i : Nat} {a b l : List Int} (h : (allO n n [])[i]? = some l) : cntI n a b (i + 1) = cntI n a b i + if Lin n (btwR a b) l then 1 else 0 := by
  unfold cntI
  rw [take_at h, List.countP_append]
  congr 1
  by_cases hL : Lin n (btwR a b) l <;> simp [hL]
theorem fstI_succ {n i : Nat} {a b l : List Int} (h : (allO n n [])[i]? = some l) : fstI n a b (i + 1) = (fstI n a b i).or (if Lin n (btwR a b) l then some l else none) := by
  unfold fstI
  rw [take_at h, List.find?_append]
  congr 1
  by_cases hL : Lin n (btwR a b) l <;> simp [hL]
theorem cntI_le (n : Nat) (a b : List Int) (i : Nat) : cntI n a b i ≤ i := by
  unfold cntI
  exact Nat.le_trans (List.countP_le_length) (by rw [List.length_take]; omega)
theorem allO_lt {n i : Nat} {l : List Int} (hn : n ≤ 7) (h : (allO n n [])[i]? = some l) : i < 823543 := by
  have h0 := (List.getElem?_eq_some_iff.1 h).1
  have h1 := allO_len n n []
  have h2 : n ^ n ≤ 7 ^ n := Nat.pow_le_pow_left hn n
  have h3 : (7 : Nat) ^ n ≤ 7 ^ 7 := Nat.pow_le_pow_right (by omega) hn
  have h4 : (7 : Nat) ^ 7 = 823543 := by decide
  omega
theorem allO_at {n i : Nat} {l : List Int} (h : (allO n n [])[i]? = some l) : IsO l ∧ l.length = n := by
  obtain ⟨hi, hg⟩ := List.getElem?_eq_some_iff.1 h
  exact allO_mem.1 (by rw [← hg]; exact List.getElem_mem _)
end Grade03
namespace Go.Proofs.Ytmcckngodaeojaa
open Go.RowKit Grade03
theorem heap_new (w : World) (o : Obj) (k : Nat) (h : k = w.heap.size) : (w.alloc o).heap[k]? = some o := by
  subst h; show (w.heap.push o)[w.heap.size]? = _; simp
theorem heap_old (w : World) (o : Obj) (k : Nat) (h : k < w.heap.size) : (w.alloc o).heap[k]? = w.heap[k]? := by
  show (w.heap.push o)[k]? = _; rw [Array.getElem?_push, if_neg (by omega)]
/-- the first one found, or none -/
def FstV (w : World) (B : Nat) (v : Value) (o : Option (List Int)) : Prop :=
  (o = none ∧ v = .slice none 0 0) ∨ ∃ b f n c l, o = some l ∧ v = .slice (some ⟨b, f, none⟩) n c ∧ IsL w (some ⟨b, f, none⟩) n c l ∧ B ≤ b
theorem FstV.below {w w' : World} {B : Nat} {v : Value} {o : Option (List Int)} (h : FstV w B v o) (hb : Below w.heap.size w w') : FstV w' B v o := by
  rcases h with h | ⟨b, f, n, c, l, h1, h2, h3, h4⟩
  · exact .inl h
  · exact .inr ⟨b, f, n, c, l, h1, h2, h3.below hb, h4⟩
theorem FstV.above {w w' : World} {B : Nat} {v : Value} {o : Option (List Int)} (h : FstV w B v o) (hA : Above B w w') : FstV w' B v o := by
  rcases h with h | ⟨b, f, n, c, l, h1, h2, h3, h4⟩
  · exact .inl h
  · exact .inr ⟨b, f, n, c, l, h1, h2, h3.above hA (fun x hx => by cases hx; exact h4), h4⟩
/-- the blocks of GradeLines: both orders, the count, good, the first one -/
structure LinH (w0 : World) (g : Nat) (va vb : Value) (ct : Int) (v : Value) (w : World) : Prop where
  sz : g + 5 ≤ w.heap.size
  h0 : w.heap[g]? = some (.cells #[va] 22 (0, 0))
  h1 : w.heap[g + 1]? = some (.cells #[vb] 22 (0, 0))
  h2 : w.heap[g + 2]? = some (.cells #[.int .i64 ct] 3 (0, 0))
  h3 : w.heap[g + 3]? = some (.cells #[.bool true] 4 (0, 0))
  h4 : w.heap[g + 4]? = some (.cells #[v] 22 (0, 0))
  bel : Below g w0 w
namespace LinH
variable {w0 w w' : World} {g : Nat} {va vb v : Value} {ct : Int}
theorem new (h : LinH w0 g va vb ct v w) (hb : Below w.heap.size w w') : LinH w0 g va vb ct v w' where
  sz := Nat.le_trans h.sz hb.size
  h0 := (hb.block _ (by have := h.sz; omega)).trans h.h0
  h1 := (hb.block _ (by have := h.sz; omega)).trans h.h1
  h2 := (hb.block _ (by have := h.sz; omega)).trans h.h2
  h3 := (hb.block _ (by have := h.sz; omega)).trans h.h3
  h4 := (hb.block _ (by have := h.sz; omega)).trans h.h4
  bel := h.bel.trans (hb.mono (by have := h.sz; omega))
theorem k0 (h : LinH w0 g va vb ct v w) : w.cell? ⟨g, 0, none⟩ = some va := by rw [World.cell?]; simp [h.h0]
theorem k1 (h : LinH w0 g va vb ct v w) : w.cell? ⟨g + 1, 0, none⟩ = some vb := by rw [World.cell?]; simp [h.h1]
theorem k2 (h : LinH w0 g va vb ct v w) : w.cell? ⟨g + 2, 0, none⟩ = some (.int .i64 ct) := by rw [World.cell?]; simp [h.h2]
theorem k3 (h : LinH w0 g va vb ct v w) : w.cell? ⟨g + 3, 0, none⟩ = some (.bool true) := by rw [World.cell?]; simp [h.h3]
theorem k4 (h : LinH w0 g va vb ct v w) : w.cell? ⟨g + 4, 0, none⟩ = some v := by rw [World.cell?]; simp [h.h4]
theorem f2 (h : LinH w0 g va vb ct v w) : w.frozen? ⟨g + 2, 0, none⟩ = false := by simp [World.frozen?, h.h2]
theorem f3 (h : LinH w0 g va vb ct v w) : w.frozen? ⟨g + 3, 0, none⟩ = false := by simp [World.frozen?, h.h3]
theorem f4 (h : LinH w0 g va vb ct v w) : w.frozen? ⟨g + 4, 0, none⟩ = false := by simp [World.frozen?, h.h4]
theorem put3 (h : LinH w0 g va vb ct v w) : LinH w0 g va vb ct v (w.setCell ⟨g + 3, 0, none⟩ (.bool true)) where
  sz := by rw [setCell_size]; exact h.sz
  h0 := (setCell_other _ _ _ _ (by show g + 3 ≠ g; omega)).trans h.h0
  h1 := (setCell_other _ _ _ _ (by show g + 3 ≠ g + 1; omega)).trans h.h1
  h2 := (setCell_other _ _ _ _ (by show g + 3 ≠ g + 2; omega)).trans h.h2
  h3 := by have := setCell_own h.h3 0 (.bool true); simpa using this
  h4 := (setCell_other _ _ _ _ (by show g + 3 ≠ g + 4; omega)).trans h.h4
  bel := h.bel.setCell (p := ⟨g + 3, 0, none⟩) (by show g ≤ g + 3; omega) _
theorem put2 (h : LinH w0 g va vb ct v w) (x : Int) : LinH w0 g va vb x v (w.setCell ⟨g + 2, 0, none⟩ (.int .i64 x)) where
  sz := by rw [setCell_size]; exact h.sz
  h0 := (setCell_other _ _ _ _ (by show g + 2 ≠ g; omega)).trans h.h0
  h1 := (setCell_other _ _ _ _ (by show g + 2 ≠ g + 1; omega)).trans h.h1
  h2 := by have := setCell_own h.h2 0 (.int .i64 x); simpa using this
  h3 := (setCell_other _ _ _ _ (by show g + 2 ≠ g + 3; omega)).trans h.h3
  h4 := (setCell_other _ _ _ _ (by show g + 2 ≠ g + 4; omega)).trans h.h4
  bel := h.bel.setCell (p := ⟨g + 2, 0, none⟩) (by show g ≤ g + 2; omega) _
theorem put4 (h : LinH w0 g va vb ct v w) (x : Value) : LinH w0 g va vb ct x (w.setCell ⟨g + 4, 0, none⟩ x) where
  sz := by rw [setCell_size]; exact h.sz
  h0 := (setCell_other _ _ _ _ (by show g + 4 ≠ g; omega)).trans h.h0
  h1 := (setCell_other _ _ _ _ (by show g + 4 ≠ g + 1; omega)).trans h.h1
  h2 := (setCell_other _ _ _ _ (by show g + 4 ≠ g + 2; omega)).trans h.h2
  h3 := (setCell_other _ _ _ _ (by show g + 4 ≠ g + 3; omega)).trans h.h3
  h4 := by have := setCell_own h.h4 0 x; simpa using this
  bel := h.bel.setCell (p := ⟨g + 4, 0, none⟩) (by show g ≤ g + 4; omega) _
end LinH
def LinI (w0 : World) (g : Nat) (va vb : Value) (n : Nat) (D E : List Int) (i : Nat) (w : World) : Prop :=
  ∃ v, LinH w0 g va vb (cntI n D E i : Nat) v w ∧ FstV w (g + 5) v (fstI n D E i)
theorem LinI.new {w0 w w' : World} {g : Nat} {va vb : Value} {n i : Nat} {D E : List Int} (h : LinI w0 g va vb n D E i w) (hb : Below w.heap.size w w') : LinI w0 g va vb n D E i w' := by
  obtain ⟨v, h1, h2⟩ := h
  exact ⟨v, h1.new hb, h2.below hb⟩

set_option maxHeartbeats 8000000 in
set_option maxRecDepth 100000 in
theorem lines1 (w0 : World) (g : Nat) (hg : w0.heap.size = g) (a b : Option Addr) (n c d : Nat) (D E : List Int) (hD : IsO D) (hE : IsO E) (ha : IsL w0 a n c D) (hb : IsL w0 b n d E) (hn1 : 1 ≤ n) (hn : n ≤ 7)
    (i : Nat) (l : List Int) (w : World) (a1 : Option Addr) (m c1 : Nat) (hl : (allO n n [])[i]? = some l) (hI : LinI w0 g (.slice a n c) (.slice b n d) n D E i w) (h1 : IsL w a1 m c1 l) (hx : ∀ x, a1 = some x → g + 5 ≤ x.block) :
    Calls Try.prog 60 #[.slice a1 m c1, .pointer (some ⟨g + 3, 0, none⟩), .pointer (some ⟨g, 0, none⟩), .pointer (some ⟨g + 1, 0, none⟩), .pointer (some ⟨g + 4, 0, none⟩), .pointer (some ⟨g + 2, 0, none⟩)] w fun e w2 => e = .returned (.tuple #[]) ∧ LinI w0 g (.slice a n c) (.slice b n d) n D E (i + 1) w2 ∧ Above (g + 5) w w2 := by
  obtain ⟨hO, hll⟩ := allO_at hl
  obtain rfl : m = n := by rw [← h1.len, hll]
  obtain ⟨v, hH, hV⟩ := hI
  have hlD := ha.len
  have hlE := hb.len
  have hci := cntI_le m D E i
  have hib := allO_lt hn hl
  have hct := cntI_succ (a := D) (b := E) hl
  have hfs := fstI_succ (a := D) (b := E) hl
  obtain ⟨z1, z2, z3⟩ : (0 ≤ dist D l ∧ dist D l ≤ 49) ∧ (0 ≤ dist l E ∧ dist l E ≤ 49) ∧ (0 ≤ dist D E ∧ dist D E ≤ 49) := ⟨⟨dist_nonneg _ _, dist_le (by omega)⟩, ⟨dist_nonneg _ _, dist_le (by omega)⟩, ⟨dist_nonneg _ _, dist_le (by omega)⟩⟩
  have hiff := dist_lin hD hE hO hlD hlE hll
  obtain ⟨X, hX⟩ : ∃ X, dist D l = X := ⟨_, rfl⟩
  obtain ⟨Y, hY⟩ : ∃ X, dist l E = X := ⟨_, rfl⟩
  obtain ⟨Z, hZ⟩ : ∃ X, dist D E = X := ⟨_, rfl⟩
  rw [hX, hY, hZ] at hiff
  rw [hX] at z1
  rw [hY] at z2
  rw [hZ] at z3
  have wXY : IntKind.i64.wrap (X + Y) = X + Y := IntWalk.i64_in _ (by omega)
  have hA := ha.below (hg ▸ hH.bel)
  have hB := hb.below (hg ▸ hH.bel)
  have HFX : Hid (∀ k, Calls Try.prog 61 #[.slice a m c, .slice a1 m c1] (w.drewN k) fun e w' => e = .returned (.int .i64 X) ∧ w' = w.drewN k) := Lib.hid fun k => (far_any a a1 m c c1 D l _ (hA.drewN k) (h1.drewN k) hD hO hn).mono fun e w' h => ⟨by rw [h.1, hX], h.2.symm⟩
  have HFY : Hid (∀ k, Calls Try.prog 61 #[.slice a1 m c1, .slice b m d] (w.drewN k) fun e w' => e = .returned (.int .i64 Y) ∧ w' = w.drewN k) := Lib.hid fun k => (far_any a1 b m c1 d l E _ (h1.drewN k) (hB.drewN k) hO hE hn).mono fun e w' h => ⟨by rw [h.1, hY], h.2.symm⟩
  have HFZ : Hid (∀ k, Calls Try.prog 61 #[.slice a m c, .slice b m d] (w.drewN k) fun e w' => e = .returned (.int .i64 Z) ∧ w' = w.drewN k) := Lib.hid fun k => (far_any a b m c d D E _ (hA.drewN k) (hB.drewN k) hD hE hn).mono fun e w' h => ⟨by rw [h.1, hZ], h.2.symm⟩
  obtain ⟨C, hC⟩ : ∃ C, decide (Lin m (btwR D E) l) = C := ⟨_, rfl⟩
  have hCE : ((X + Y : Int) == Z) = C := by
    rw [← hC]
    by_cases h : X + Y = Z
    · rw [decide_eq_true (hiff.1 h)]; simpa using h
    · rw [decide_eq_false (fun h' => h (hiff.2 h'))]; simpa using h
  have hth : threeE D E l = 0 := by
    unfold threeE
    rw [if_neg (by rw [chk_ord hD hlD hn1 hn]; simp), if_neg (by rw [chk_ord hE hlE hn1 hn]; simp), if_neg (by rw [chk_ord hO hll hn1 hn]; simp), if_neg (by omega)]
  have hbt : btwE D E l = C := by
    unfold btwE
    rw [if_pos hth, hlD]
    exact hC
  have HTH := Lib.hid hth
  have HBT := Lib.hid hbt
  have HCT := Lib.hid hct
  have HFS := Lib.hid hfs
  have HCC := Lib.hid hC
  have HH := Lib.hid hH
  have HV := Lib.hid hV
  have HA := Lib.hid hA
  have HB := Lib.hid hB
  have H1 := Lib.hid h1
  obtain ⟨q, hq⟩ : ∃ q, cntI m D E i = q := ⟨_, rfl⟩
  have HQ := Lib.hid hq
  rw [hq] at hci
  have wq : IntKind.i64.wrap ((q : Int) + 1) = (q : Int) + 1 := IntWalk.i64_in _ (by omega)
  have s0 := hH.k0
  have s1 := hH.k1
  have s3 := hH.k3
  clear hct hfs hiff hX hY hZ hC hth hbt hH hV hA hB hD hE ha hb hO hll hlD hlE hl hq
  go_enter Try.func60, Try.ntmps60
  go_wp2_with fail
  go_quiet ((go_at_call 61; first | with_reducible exact Calls.quiet_of_same (HFX.out _) | with_reducible exact Calls.quiet_of_same (HFY.out _) | with_reducible exact Calls.quiet_of_same (HFZ.out _)))
  have hbN := belowN (Below.refl w.heap.size w) nq
  have HH1 := HH.out.new hbN
  have HV1 := HV.out.below hbN
  have hA1 := HA.out.below hbN
  have hB1 := HB.out.below hbN
  have hL1 := H1.out.below hbN
  have A1 := Above.of_below (B := g + 5) hbN
  obtain ⟨W, hW⟩ : ∃ W, w.drewN nq = W := ⟨_, rfl⟩
  rw [hW] at hbN HH1 HV1 hA1 hB1 hL1 A1 ⊢
  clear hW hbN HFX HFY HFZ HH HV HA HB s0 s1 s3
  have s0 := HH1.k0
  have s1 := HH1.k1
  go_wp2_with fail
  refine (Between_c hA1 hB1 hL1 HTH.out HBT.out).mono ?_
  rintro e w3 ⟨rfl, b3⟩
  have HH3 := HH1.new b3
  have HV3 := HV1.below b3
  have A3 := A1.more b3
  clear HH1 HV1 hA1 hB1 hL1 A1 b3 s0 s1
  have s3 := HH3.k3
  have t3 := HH3.f3
  have HH4 := HH3.put3
  have A4 := Above.setCell A3 (p := ⟨g + 3, 0, none⟩) (by show g + 3 < g + 5; omega) (.bool true)
  have HV4 := HV3.above (Above.setCell (Above.refl (g + 5) w3) (p := ⟨g + 3, 0, none⟩) (by show g + 3 < g + 5; omega) (.bool true))
  clear HH3 HV3 A3
  cases C with
  | false =>
    have HN : Hid (cntI m D E (i + 1) = cntI m D E i) := Lib.hid (by rw [HCT.out, if_neg (of_decide_eq_false HCC.out)]; rfl)
    have HM : Hid (fstI m D E (i + 1) = fstI m D E i) := Lib.hid (by rw [HFS.out, if_neg (of_decide_eq_false HCC.out)]; cases fstI m D E i <;> rfl)
    have HR : Hid (LinI w0 g (.slice a m c) (.slice b m d) m D E (i + 1) (w3.setCell ⟨g + 3, 0, none⟩ (.bool true))) := Lib.hid ⟨v, by rw [HN.out]; exact HH4, by rw [HM.out]; exact HV4⟩
    clear HH4 HV4
    go_wp2_with fail
    go_end0
    exact ⟨rfl, HR.out, A4⟩
  | true =>
    have HN : Hid (cntI m D E (i + 1) = q + 1) := Lib.hid (by rw [HCT.out, if_pos (of_decide_eq_true HCC.out), HQ.out])
    have HM : Hid (fstI m D E (i + 1) = (fstI m D E i).or (some l)) := Lib.hid (by rw [HFS.out, if_pos (of_decide_eq_true HCC.out)])
    rw [HQ.out] at HH4
    have hL4 := H1.out.above A4 hx
    have HCOUNT : Hid (∀ (v' : Value) (W5 : World), LinH w0 g (.slice a m c) (.slice b m d) (q : Int) v' W5 → FstV W5 (g + 5) v' (fstI m D E (i + 1)) → Above (g + 5) w W5 → LinI w0 g (.slice a m c) (.slice b m d) m D E (i + 1) (W5.setCell ⟨g + 2, 0, none⟩ (.int .i64 ((q : Int) + 1))) ∧ Above (g + 5) w (W5.setCell ⟨g + 2, 0, none⟩ (.int .i64 ((q : Int) + 1)))) := Lib.hid fun v' W5 h1 h2 h3 => ⟨⟨v', by rw [HN.out]; exact h1.put2 _, h2.above (Above.setCell (Above.refl (g + 5) W5) (p := ⟨g + 2, 0, none⟩) (by show g + 2 < g + 5; omega) _)⟩, Above.setCell h3 (p := ⟨g + 2, 0, none⟩) (by show g + 2 < g + 5; omega) _⟩
    go_upto_region 4 with (fail)
    obtain ⟨W4, hW4⟩ : ∃ W, w3.setCell ⟨g + 3, 0, none⟩ (.bool true) = W := ⟨_, rfl⟩
    try simp only [hW4]
    rw [hW4] at HH4 HV4 A4 hL4
    clear hW4 s3 t3
    have s4 := HH4.k4
    have t4 := HH4.f4
    have s2 := HH4.k2
    have t2 := HH4.f2
    rcases HV4 with ⟨ho, rfl⟩ | ⟨bb, ff, nn, cc, ll, ho, rfl, hLL, hbb⟩
    · obtain ⟨b5, o5, rfl, _, _⟩ := hL4.cells (by omega)
      have e5 := eq_nil
      have HH5 := HH4.put4 (.slice (some ⟨b5, o5, none⟩) m c1)
      have A45 := Above.setCell (Above.refl (g + 5) W4) (p := ⟨g + 4, 0, none⟩) (by show g + 4 < g + 5; omega) (.slice (some ⟨b5, o5, none⟩) m c1)
      have HV5 : FstV (W4.setCell ⟨g + 4, 0, none⟩ (.slice (some ⟨b5, o5, none⟩) m c1)) (g + 5) (.slice (some ⟨b5, o5, none⟩) m c1) (fstI m D E (i + 1)) := .inr ⟨b5, o5, m, c1, l, by rw [HM.out, ho]; rfl, rfl, hL4.above A45 hx, hx _ rfl⟩
      have A5 := A4.trans A45
      have HR := Lib.hid (HCOUNT.out _ _ HH5 HV5 A5)
      have s5 := HH5.k2
      have t5 := HH5.f2
      clear HH4 HH5 HV5 A5 A45 hL4 A4 HCOUNT s2 t2
      go_wp2_with fail
      go_end0
      exact ⟨rfl, HR.out.1, HR.out.2⟩
    · have e5 := neq_nil bb ff nn cc
      have HV5 : FstV W4 (g + 5) (.slice (some ⟨bb, ff, none⟩) nn cc) (fstI m D E (i + 1)) := .inr ⟨bb, ff, nn, cc, ll, by rw [HM.out, ho]; rfl, rfl, hLL, hbb⟩
      have HR := Lib.hid (HCOUNT.out _ _ HH4 HV5 A4)
      clear HH4 HV5 A4 HCOUNT hL4
      go_wp2_with fail
      go_end0
      exact ⟨rfl, HR.out.1, HR.out.2⟩
end Go.Proofs.Ytmcckngodaeojaa
