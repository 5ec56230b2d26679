/- Law of chapter 11: StoreLattice. -/
import Derived.Test.YtjedmiegcbdedaaXk
import Derived.Test.YtjedmiegcbdedaaWv
namespace Go.Proofs.Ytjedmiegcbdedaa
open Go.RowKit Store11

/-- a cell of a block that was there -/
def At (w : World) (p : Nat) (v : Value) : Prop := p < w.heap.size ∧ w.cell? ⟨p, 0, none⟩ = some v
theorem At.below {w w' : World} {p : Nat} {v : Value} (h : At w p v) (hb : Below w.heap.size w w') : At w' p v := ⟨Nat.lt_of_lt_of_le h.1 hb.size, (hb.cell (p := ⟨p, 0, none⟩) h.1).trans h.2⟩
theorem Check_c (a : Option Addr) (n c : Nat) (w : World) {l : List Int} {x : Int} (h : IsL w a n c l) (hx : chkL l = x) : Calls Try.prog 21 #[.slice a n c] w fun e w' => e = .returned (.int .i64 x) ∧ Below w.heap.size w w' := by
  subst hx; exact (Check_any a n c l w h).mono fun _ _ ⟨h1, h2⟩ => ⟨h1, h2 ▸ Below.refl _ _⟩
theorem At.new (w : World) (v : Value) (t : TypeId) (p : Nat) (hp : p = w.heap.size) : At (w.alloc (.cells #[v] t)) p v := by subst hp; exact ⟨by simp, by simp [go_sem]⟩
set_option maxHeartbeats 4000000 in
set_option maxRecDepth 100000 in
theorem StoreLattice_l (L : List Value) (hL : LabArg L) (w : World) : Calls Try.prog 11 #[.agg L.toArray] w fun e w' => e = .returned (.bool true) ∧ Below w.heap.size w w' := by
  obtain ⟨N, hN1, hN9, hmade⟩ := hL.2 6 6 (w.alloc (.cells L.toArray 56)) (by omega) (by omega) (by omega) (by omega)
  have HM := Lib.hid hmade
  have hrg := lab_range w L
  have hi56 := Lib.hid (info56 hL.1)
  clear hmade hL
  go_enter Try.func11, Try.ntmps11
  go_wp2_with (first
    | (refine wpList_load_mid rfl 56 (.tmp 1) rfl w.heap.size 0 rfl L _ hrg Try.underlying56 rfl hi56.out ?_)
    | (go_at_call 52; refine (HM.out).mono ?_))
  rintro e w1 ⟨a, c, b, d, D, E, rfl, h_D, h_E, k, hchk, hchk2, z3, z4⟩
  replace k := ((Below.refl _ w).alloc (Nat.le_refl _) (.cells L.toArray 56)).trans (k.mono (by simp))
  clear HM z3 z4 hrg hi56
  have hDl := h_D.len
  have hEl := h_E.len
  have hab := both_of hchk hchk2 (by omega)
  have hlat := latt hab
  obtain ⟨o1, o2, o3, o4⟩ := latt_own hab
  have hjl : joinL D E = joinR D E := by rw [joinL, if_pos hab]
  have hml : meetL D E = meetR D E := by rw [meetL, if_pos hab]
  have ho3 : joinL (meetR D E) D = D := by rw [joinL, if_pos o1, o3]
  have ho4 : meetL (joinR D E) E = E := by rw [meetL, if_pos o2, o4]
  have hfe := finerB_fin hab
  obtain ⟨J, hJ⟩ : ∃ J, joinR D E = J := ⟨_, rfl⟩
  obtain ⟨M, hM⟩ : ∃ M, meetR D E = M := ⟨_, rfl⟩
  rw [hJ] at hlat o2 ho4 hjl
  rw [hM] at hlat o1 ho3 hml
  have HLAT := Lib.hid hlat
  have HJL := Lib.hid hjl
  have HML := Lib.hid hml
  have HO1 := Lib.hid o1
  have HO2 := Lib.hid o2
  have HO3 := Lib.hid ho3
  have HO4 := Lib.hid ho4
  have HFE := Lib.hid hfe
  have HAB := Lib.hid hab
  have WD := Lib.hid (wf_chk hchk)
  have WE := Lib.hid (wf_chk hchk2)
  have WJ := Lib.hid (wf_chk hlat.jc)
  have WM := Lib.hid (wf_chk hlat.mc)
  have lD := Lib.hid hDl
  have HCD := Lib.hid hchk
  have lJ : Hid (J.length = N) := Lib.hid (by rw [hlat.jl, hDl])
  have lM : Hid (M.length = N) := Lib.hid (by rw [hlat.ml, hDl])
  have CJ := Lib.hid hlat.jc
  have CM := Lib.hid hlat.mc
  clear hJ hM hjl hml o1 o2 o3 o4 ho3 ho4 hlat hfe hab hDl hEl hchk hchk2
  go_wp2_with fail
  have b_ : Below w1.heap.size w1 (((w1.alloc (.cells #[.slice a N c] 22)).alloc (.cells #[.slice b N d] 22)).alloc (.cells #[.func (.func 54) #[] #[]] 29)) := (((Below.refl _ w1).alloc (Nat.le_refl _) _).alloc (by simp) _).alloc (by simp; omega) _
  have A1 : At (((w1.alloc (.cells #[.slice a N c] 22)).alloc (.cells #[.slice b N d] 22)).alloc (.cells #[.func (.func 54) #[] #[]] 29)) w1.heap.size (.slice a N c) := ((At.new w1 _ 22 _ rfl).below ((Below.refl _ _).alloc (Nat.le_refl _) _)).below ((Below.refl _ _).alloc (Nat.le_refl _) _)
  have A2 : At (((w1.alloc (.cells #[.slice a N c] 22)).alloc (.cells #[.slice b N d] 22)).alloc (.cells #[.func (.func 54) #[] #[]] 29)) (w1.heap.size + 1) (.slice b N d) := (At.new (w1.alloc _) _ 22 _ (by simp)).below ((Below.refl _ _).alloc (Nat.le_refl _) _)
  have A3 : At (((w1.alloc (.cells #[.slice a N c] 22)).alloc (.cells #[.slice b N d] 22)).alloc (.cells #[.func (.func 54) #[] #[]] 29)) (w1.heap.size + 1 + 1) (.func (.func 54) #[] #[]) := At.new ((w1.alloc _).alloc _) _ 29 _ (by simp)
  obtain ⟨W1, hW1⟩ : ∃ W1, (((w1.alloc (.cells #[.slice a N c] 22)).alloc (.cells #[.slice b N d] 22)).alloc (.cells #[.func (.func 54) #[] #[]] 29)) = W1 := ⟨_, rfl⟩
  rw [hW1] at b_ A1 A2 A3 ⊢
  clear hW1
  replace h_D := h_D.below b_
  replace h_E := h_E.below b_
  have kk := k.size
  replace k := k.trans (b_.mono kk)
  clear b_ kk
  obtain ⟨pa, hpa⟩ : ∃ p, w1.heap.size = p := ⟨_, rfl⟩
  simp only [hpa] at A1 A2 A3 ⊢
  clear hpa
  refine (Join_c _ _ _ _ _ _ _ h_D h_E HJL.out HAB.out WD.out).mono ?_
  rintro e w2 ⟨aj, nj, cj, rfl, h_J, b_⟩
  replace h_D := h_D.below b_
  replace h_E := h_E.below b_
  replace A1 := A1.below b_
  replace A2 := A2.below b_
  replace A3 := A3.below b_
  have kk := k.size
  replace k := k.trans (b_.mono kk)
  clear b_ kk
  obtain rfl : nj = N := by rw [← h_J.len, lJ.out]
  go_upto_region 4 with (fail)
  have b_ : Below w2.heap.size w2 (w2.alloc (.cells #[.slice aj nj cj] 22)) := (Below.refl _ w2).alloc (Nat.le_refl _) _
  have A4 := At.new w2 (.slice aj nj cj) 22 _ rfl
  obtain ⟨W2, hW2⟩ : ∃ W, w2.alloc (.cells #[.slice aj nj cj] 22) = W := ⟨_, rfl⟩
  simp only [hW2] at b_ A4 ⊢
  clear hW2
  replace h_D := h_D.below b_
  replace h_E := h_E.below b_
  replace h_J := h_J.below b_
  replace A1 := A1.below b_
  replace A2 := A2.below b_
  replace A3 := A3.below b_
  have kk := k.size
  replace k := k.trans (b_.mono kk)
  clear b_ kk
  obtain ⟨pj, hpj⟩ : ∃ p, w2.heap.size = p := ⟨_, rfl⟩
  simp only [hpj] at A4 ⊢
  clear hpj
  have zA1 := A1.2
  have zA2 := A2.2
  have zA3 := A3.2
  have zA4 := A4.2
  go_wp2_with fail
  refine (Meet_c _ _ _ _ _ _ _ h_D h_E HML.out HAB.out WD.out WE.out).mono ?_
  rintro e w3 ⟨am, nm, cm, rfl, h_M, b_⟩
  replace h_D := h_D.below b_
  replace h_E := h_E.below b_
  replace h_J := h_J.below b_
  replace A1 := A1.below b_
  replace A2 := A2.below b_
  replace A3 := A3.below b_
  replace A4 := A4.below b_
  have kk := k.size
  replace k := k.trans (b_.mono kk)
  clear b_ kk
  clear zA1 zA2 zA3 zA4
  obtain rfl : nm = nj := by rw [← h_M.len, lM.out]
  go_upto_region 5 with (fail)
  have b_ : Below w3.heap.size w3 (w3.alloc (.cells #[.slice am nm cm] 22)) := (Below.refl _ w3).alloc (Nat.le_refl _) _
  have A5 := At.new w3 (.slice am nm cm) 22 _ rfl
  obtain ⟨W3, hW3⟩ : ∃ W, w3.alloc (.cells #[.slice am nm cm] 22) = W := ⟨_, rfl⟩
  simp only [hW3] at b_ A5 ⊢
  clear hW3
  replace h_D := h_D.below b_
  replace h_E := h_E.below b_
  replace h_J := h_J.below b_
  replace A1 := A1.below b_
  replace A2 := A2.below b_
  replace A3 := A3.below b_
  replace A4 := A4.below b_
  replace h_M := h_M.below b_
  have kk := k.size
  replace k := k.trans (b_.mono kk)
  clear b_ kk
  obtain ⟨pm, hpm⟩ : ∃ p, w3.heap.size = p := ⟨_, rfl⟩
  simp only [hpm] at A5 ⊢
  clear hpm
  have zA1 := A1.2
  have zA2 := A2.2
  have zA3 := A3.2
  have zA4 := A4.2
  have zA5 := A5.2
  go_wp2_with fail
  refine (Finer_c _ _ _ _ _ _ _ h_D h_E HFE.out HAB.out WD.out WE.out).mono ?_
  rintro e w4 ⟨rfl, b_⟩
  replace h_D := h_D.below b_
  replace h_E := h_E.below b_
  replace h_J := h_J.below b_
  replace A1 := A1.below b_
  replace A2 := A2.below b_
  replace A3 := A3.below b_
  replace A4 := A4.below b_
  replace h_M := h_M.below b_
  replace A5 := A5.below b_
  have kk := k.size
  replace k := k.trans (b_.mono kk)
  clear b_ kk
  clear zA1 zA2 zA3 zA4 zA5
  have zA1 := A1.2
  have zA2 := A2.2
  have zA3 := A3.2
  have zA4 := A4.2
  have zA5 := A5.2
  go_wp2_with fail
  refine (Check_c _ _ _ _ h_J CJ.out).mono ?_
  rintro e w5 ⟨rfl, b_⟩
  replace h_D := h_D.below b_
  replace h_E := h_E.below b_
  replace h_J := h_J.below b_
  replace A1 := A1.below b_
  replace A2 := A2.below b_
  replace A3 := A3.below b_
  replace A4 := A4.below b_
  replace h_M := h_M.below b_
  replace A5 := A5.below b_
  have kk := k.size
  replace k := k.trans (b_.mono kk)
  clear b_ kk
  clear zA1 zA2 zA3 zA4 zA5
  have zA1 := A1.2
  have zA2 := A2.2
  have zA3 := A3.2
  have zA4 := A4.2
  have zA5 := A5.2
  go_wp2_with fail
  refine (Check_c _ _ _ _ h_M CM.out).mono ?_
  rintro e w6 ⟨rfl, b_⟩
  replace h_D := h_D.below b_
  replace h_E := h_E.below b_
  replace h_J := h_J.below b_
  replace A1 := A1.below b_
  replace A2 := A2.below b_
  replace A3 := A3.below b_
  replace A4 := A4.below b_
  replace h_M := h_M.below b_
  replace A5 := A5.below b_
  have kk := k.size
  replace k := k.trans (b_.mono kk)
  clear b_ kk
  clear zA1 zA2 zA3 zA4 zA5
  obtain ⟨is, his⟩ : ∃ v, finB D E = v := ⟨_, rfl⟩
  have HIS := Lib.hid his
  rw [his]
  clear his
  have e1 : (is != is) = false := by simp
  have zA1 := A1.2
  have zA2 := A2.2
  have zA3 := A3.2
  have zA4 := A4.2
  have zA5 := A5.2
  go_wp2_with fail
  refine (fin_c _ _ _ _ _ _ _ _ h_D h_E HIS.out).mono ?_
  rintro e w7 ⟨rfl, b_⟩
  replace h_D := h_D.below b_
  replace h_E := h_E.below b_
  replace h_J := h_J.below b_
  replace A1 := A1.below b_
  replace A2 := A2.below b_
  replace A3 := A3.below b_
  replace A4 := A4.below b_
  replace h_M := h_M.below b_
  replace A5 := A5.below b_
  have kk := k.size
  replace k := k.trans (b_.mono kk)
  clear b_ kk
  clear zA1 zA2 zA3 zA4 zA5
  have zA1 := A1.2
  have zA2 := A2.2
  have zA3 := A3.2
  have zA4 := A4.2
  have zA5 := A5.2
  go_wp2_with fail
  refine (fin_c _ _ _ _ _ _ _ _ h_D h_J HLAT.out.aj).mono ?_
  rintro e w8 ⟨rfl, b_⟩
  replace h_D := h_D.below b_
  replace h_E := h_E.below b_
  replace h_J := h_J.below b_
  replace A1 := A1.below b_
  replace A2 := A2.below b_
  replace A3 := A3.below b_
  replace A4 := A4.below b_
  replace h_M := h_M.below b_
  replace A5 := A5.below b_
  have kk := k.size
  replace k := k.trans (b_.mono kk)
  clear b_ kk
  clear zA1 zA2 zA3 zA4 zA5
  have zA1 := A1.2
  have zA2 := A2.2
  have zA3 := A3.2
  have zA4 := A4.2
  have zA5 := A5.2
  go_wp2_with fail
  refine (fin_c _ _ _ _ _ _ _ _ h_E h_J HLAT.out.bj).mono ?_
  rintro e w9 ⟨rfl, b_⟩
  replace h_D := h_D.below b_
  replace h_E := h_E.below b_
  replace h_J := h_J.below b_
  replace A1 := A1.below b_
  replace A2 := A2.below b_
  replace A3 := A3.below b_
  replace A4 := A4.below b_
  replace h_M := h_M.below b_
  replace A5 := A5.below b_
  have kk := k.size
  replace k := k.trans (b_.mono kk)
  clear b_ kk
  clear zA1 zA2 zA3 zA4 zA5
  have zA1 := A1.2
  have zA2 := A2.2
  have zA3 := A3.2
  have zA4 := A4.2
  have zA5 := A5.2
  go_wp2_with fail
  refine (fin_c _ _ _ _ _ _ _ _ h_M h_D HLAT.out.ma).mono ?_
  rintro e w10 ⟨rfl, b_⟩
  replace h_D := h_D.below b_
  replace h_E := h_E.below b_
  replace h_J := h_J.below b_
  replace A1 := A1.below b_
  replace A2 := A2.below b_
  replace A3 := A3.below b_
  replace A4 := A4.below b_
  replace h_M := h_M.below b_
  replace A5 := A5.below b_
  have kk := k.size
  replace k := k.trans (b_.mono kk)
  clear b_ kk
  clear zA1 zA2 zA3 zA4 zA5
  have zA1 := A1.2
  have zA2 := A2.2
  have zA3 := A3.2
  have zA4 := A4.2
  have zA5 := A5.2
  go_wp2_with fail
  refine (fin_c _ _ _ _ _ _ _ _ h_M h_E HLAT.out.mb).mono ?_
  rintro e w11 ⟨rfl, b_⟩
  replace h_D := h_D.below b_
  replace h_E := h_E.below b_
  replace h_J := h_J.below b_
  replace A1 := A1.below b_
  replace A2 := A2.below b_
  replace A3 := A3.below b_
  replace A4 := A4.below b_
  replace h_M := h_M.below b_
  replace A5 := A5.below b_
  have kk := k.size
  replace k := k.trans (b_.mono kk)
  clear b_ kk
  clear zA1 zA2 zA3 zA4 zA5
  have zA1 := A1.2
  have zA2 := A2.2
  have zA3 := A3.2
  have zA4 := A4.2
  have zA5 := A5.2
  go_upto_region 11 with (fail)
  have b_ : Below w11.heap.size w11 (w11.alloc (.cells #[.bool true] 4)) := (Below.refl _ w11).alloc (Nat.le_refl _) _
  have A6 := At.new w11 (.bool true) 4 _ rfl
  obtain ⟨W, hW⟩ : ∃ W, w11.alloc (.cells #[.bool true] 4) = W := ⟨_, rfl⟩
  simp only [hW] at b_ A6 ⊢
  clear hW
  clear zA1 zA2 zA3 zA4 zA5
  replace h_D := h_D.below b_
  replace h_E := h_E.below b_
  replace h_J := h_J.below b_
  replace A1 := A1.below b_
  replace A2 := A2.below b_
  replace A3 := A3.below b_
  replace A4 := A4.below b_
  replace h_M := h_M.below b_
  replace A5 := A5.below b_
  have kk := k.size
  replace k := k.trans (b_.mono kk)
  clear b_ kk
  obtain ⟨pg, hpg⟩ : ∃ p, w11.heap.size = p := ⟨_, rfl⟩
  simp only [hpg] at A6 ⊢
  clear hpg
  have HI : LatI W nm pa (pa + 1) (pa + 1 + 1) pj pm ⟨a, c⟩ ⟨b, d⟩ ⟨aj, cj⟩ ⟨am, cm⟩ D E J M := ⟨A1.1, A2.1, A3.1, A4.1, A5.1, A1.2, A2.2, A3.2, A4.2, A5.2, h_D, h_E, h_J, h_M⟩
  have zA1 := A1.2
  have zA2 := A2.2
  have zA3 := A3.2
  have zA4 := A4.2
  have zA5 := A5.2
  have zA6 := A6.2
  go_wp2_with fail
  refine (all_any nm W.heap.size 55 #[.pointer (some ⟨pa + 1 + 1, 0, none⟩), .pointer (some ⟨pa, 0, none⟩), .pointer (some ⟨pa + 1, 0, none⟩), .pointer (some ⟨pj, 0, none⟩), .pointer (some ⟨pm, 0, none⟩), .pointer (some ⟨pg, 0, none⟩)]
    (fun i w' => Below W.heap.size W w') (by omega) (fun args w => rfl)
    (Lib.hid fun i w1 w2 h hb => h.trans hb)
    (Lib.hid fun i l w1 al m cl hl hI h hx hs => by
      have hlen := allL_len hl
      obtain rfl : m = nm := by rw [← h.len, hlen]
      refine (lat_any m pa (pa + 1) (pa + 1 + 1) pj pm pg ⟨a, c⟩ ⟨b, d⟩ ⟨aj, cj⟩ ⟨am, cm⟩ D E J M l al cl w1 (HI.below hI) h (HLAT.out.up l (by rw [hlen, lD.out])) (HLAT.out.down l (by rw [hlen, lD.out]))).mono ?_
      rintro e w2 ⟨rfl, hb⟩
      exact ⟨rfl, hI.trans (hb.mono hs), Above.of_below hb⟩)
    W (Nat.le_refl _) (Below.refl _ _)).mono ?_
  rintro e w12 ⟨rfl, b_, _⟩
  replace h_D := h_D.below b_
  replace h_E := h_E.below b_
  replace h_J := h_J.below b_
  replace A1 := A1.below b_
  replace A2 := A2.below b_
  replace A3 := A3.below b_
  replace A4 := A4.below b_
  replace h_M := h_M.below b_
  replace A5 := A5.below b_
  replace A6 := A6.below b_
  have kk := k.size
  replace k := k.trans (b_.mono kk)
  clear b_ kk HI
  clear zA1 zA2 zA3 zA4 zA5 zA6
  cases is with
  | false =>
    have zA1 := A1.2
    have zA2 := A2.2
    have zA3 := A3.2
    have zA4 := A4.2
    have zA5 := A5.2
    have zA6 := A6.2
    go_wp2_with fail
    refine (Join_c _ _ _ _ _ _ _ h_M h_D HO3.out HO1.out WM.out).mono ?_
    rintro e w20 ⟨ax, nx, cx, rfl, h_X, b_⟩
    replace h_D := h_D.below b_
    replace h_E := h_E.below b_
    replace h_J := h_J.below b_
    replace A1 := A1.below b_
    replace A2 := A2.below b_
    replace A3 := A3.below b_
    replace A4 := A4.below b_
    replace h_M := h_M.below b_
    replace A5 := A5.below b_
    replace A6 := A6.below b_
    have kk := k.size
    replace k := k.trans (b_.mono kk)
    clear b_ kk
    clear zA1 zA2 zA3 zA4 zA5 zA6
    have zA1 := A1.2
    have zA2 := A2.2
    have zA3 := A3.2
    have zA4 := A4.2
    have zA5 := A5.2
    have zA6 := A6.2
    go_wp2_with fail
    refine (Meet_c _ _ _ _ _ _ _ h_J h_E HO4.out HO2.out WJ.out WE.out).mono ?_
    rintro e w21 ⟨ay, ny, cy, rfl, h_Y, b_⟩
    replace h_D := h_D.below b_
    replace h_E := h_E.below b_
    replace h_J := h_J.below b_
    replace A1 := A1.below b_
    replace A2 := A2.below b_
    replace A3 := A3.below b_
    replace A4 := A4.below b_
    replace h_M := h_M.below b_
    replace A5 := A5.below b_
    replace A6 := A6.below b_
    replace h_X := h_X.below b_
    have kk := k.size
    replace k := k.trans (b_.mono kk)
    clear b_ kk
    clear zA1 zA2 zA3 zA4 zA5 zA6
    have zA1 := A1.2
    have zA2 := A2.2
    have zA3 := A3.2
    have zA4 := A4.2
    have zA5 := A5.2
    have zA6 := A6.2
    go_wp2_with fail
    refine (same_c h_X h_D).mono ?_
    rintro e w22 ⟨rfl, b_⟩
    replace h_D := h_D.below b_
    replace h_E := h_E.below b_
    replace h_J := h_J.below b_
    replace A1 := A1.below b_
    replace A2 := A2.below b_
    replace A3 := A3.below b_
    replace A4 := A4.below b_
    replace h_M := h_M.below b_
    replace A5 := A5.below b_
    replace A6 := A6.below b_
    replace h_X := h_X.below b_
    replace h_Y := h_Y.below b_
    have kk := k.size
    replace k := k.trans (b_.mono kk)
    clear b_ kk
    clear zA1 zA2 zA3 zA4 zA5 zA6
    have zA1 := A1.2
    have zA2 := A2.2
    have zA3 := A3.2
    have zA4 := A4.2
    have zA5 := A5.2
    have zA6 := A6.2
    go_wp2_with fail
    refine (same_c h_Y h_E).mono ?_
    rintro e w23 ⟨rfl, b_⟩
    replace h_D := h_D.below b_
    replace h_E := h_E.below b_
    replace h_J := h_J.below b_
    replace A1 := A1.below b_
    replace A2 := A2.below b_
    replace A3 := A3.below b_
    replace A4 := A4.below b_
    replace h_M := h_M.below b_
    replace A5 := A5.below b_
    replace A6 := A6.below b_
    replace h_X := h_X.below b_
    replace h_Y := h_Y.below b_
    have kk := k.size
    replace k := k.trans (b_.mono kk)
    clear b_ kk
    clear zA1 zA2 zA3 zA4 zA5 zA6
    have zA1 := A1.2
    have zA2 := A2.2
    have zA3 := A3.2
    have zA4 := A4.2
    have zA5 := A5.2
    have zA6 := A6.2
    go_wp2_with fail
    refine (works_any _).mono ?_
    rintro e w24 ⟨rfl, b_⟩
    replace h_D := h_D.below b_
    replace h_E := h_E.below b_
    replace h_J := h_J.below b_
    replace A1 := A1.below b_
    replace A2 := A2.below b_
    replace A3 := A3.below b_
    replace A4 := A4.below b_
    replace h_M := h_M.below b_
    replace A5 := A5.below b_
    replace A6 := A6.below b_
    replace h_X := h_X.below b_
    replace h_Y := h_Y.below b_
    have kk := k.size
    replace k := k.trans (b_.mono kk)
    clear b_ kk
    clear zA1 zA2 zA3 zA4 zA5 zA6
    go_wp2
    go_ret
    exact ⟨rfl, k⟩
  | true =>
    obtain rfl := HLAT.out.isj HIS.out
    obtain rfl := HLAT.out.ism HIS.out
    have zA1 := A1.2
    have zA2 := A2.2
    have zA3 := A3.2
    have zA4 := A4.2
    have zA5 := A5.2
    have zA6 := A6.2
    go_wp2_with fail
    refine (same_c h_J h_E).mono ?_
    rintro e w30 ⟨rfl, b_⟩
    replace h_D := h_D.below b_
    replace h_E := h_E.below b_
    replace h_J := h_J.below b_
    replace A1 := A1.below b_
    replace A2 := A2.below b_
    replace A3 := A3.below b_
    replace A4 := A4.below b_
    replace h_M := h_M.below b_
    replace A5 := A5.below b_
    replace A6 := A6.below b_
    have kk := k.size
    replace k := k.trans (b_.mono kk)
    clear b_ kk
    clear zA1 zA2 zA3 zA4 zA5 zA6
    have zA1 := A1.2
    have zA2 := A2.2
    have zA3 := A3.2
    have zA4 := A4.2
    have zA5 := A5.2
    have zA6 := A6.2
    go_wp2_with fail
    refine (same_c h_M h_D).mono ?_
    rintro e w31 ⟨rfl, b_⟩
    replace h_D := h_D.below b_
    replace h_E := h_E.below b_
    replace h_J := h_J.below b_
    replace A1 := A1.below b_
    replace A2 := A2.below b_
    replace A3 := A3.below b_
    replace A4 := A4.below b_
    replace h_M := h_M.below b_
    replace A5 := A5.below b_
    replace A6 := A6.below b_
    have kk := k.size
    replace k := k.trans (b_.mono kk)
    clear b_ kk
    clear zA1 zA2 zA3 zA4 zA5 zA6
    have zA1 := A1.2
    have zA2 := A2.2
    have zA3 := A3.2
    have zA4 := A4.2
    have zA5 := A5.2
    have zA6 := A6.2
    go_wp2_with fail
    refine (Join_c _ _ _ _ _ _ _ h_M h_D HO3.out HO1.out WM.out).mono ?_
    rintro e w20 ⟨ax, nx, cx, rfl, h_X, b_⟩
    replace h_D := h_D.below b_
    replace h_E := h_E.below b_
    replace h_J := h_J.below b_
    replace A1 := A1.below b_
    replace A2 := A2.below b_
    replace A3 := A3.below b_
    replace A4 := A4.below b_
    replace h_M := h_M.below b_
    replace A5 := A5.below b_
    replace A6 := A6.below b_
    have kk := k.size
    replace k := k.trans (b_.mono kk)
    clear b_ kk
    clear zA1 zA2 zA3 zA4 zA5 zA6
    have zA1 := A1.2
    have zA2 := A2.2
    have zA3 := A3.2
    have zA4 := A4.2
    have zA5 := A5.2
    have zA6 := A6.2
    go_wp2_with fail
    refine (Meet_c _ _ _ _ _ _ _ h_J h_E HO4.out HO2.out WJ.out WE.out).mono ?_
    rintro e w21 ⟨ay, ny, cy, rfl, h_Y, b_⟩
    replace h_D := h_D.below b_
    replace h_E := h_E.below b_
    replace h_J := h_J.below b_
    replace A1 := A1.below b_
    replace A2 := A2.below b_
    replace A3 := A3.below b_
    replace A4 := A4.below b_
    replace h_M := h_M.below b_
    replace A5 := A5.below b_
    replace A6 := A6.below b_
    replace h_X := h_X.below b_
    have kk := k.size
    replace k := k.trans (b_.mono kk)
    clear b_ kk
    clear zA1 zA2 zA3 zA4 zA5 zA6
    have zA1 := A1.2
    have zA2 := A2.2
    have zA3 := A3.2
    have zA4 := A4.2
    have zA5 := A5.2
    have zA6 := A6.2
    go_wp2_with fail
    refine (same_c h_X h_D).mono ?_
    rintro e w22 ⟨rfl, b_⟩
    replace h_D := h_D.below b_
    replace h_E := h_E.below b_
    replace h_J := h_J.below b_
    replace A1 := A1.below b_
    replace A2 := A2.below b_
    replace A3 := A3.below b_
    replace A4 := A4.below b_
    replace h_M := h_M.below b_
    replace A5 := A5.below b_
    replace A6 := A6.below b_
    replace h_X := h_X.below b_
    replace h_Y := h_Y.below b_
    have kk := k.size
    replace k := k.trans (b_.mono kk)
    clear b_ kk
    clear zA1 zA2 zA3 zA4 zA5 zA6
    have zA1 := A1.2
    have zA2 := A2.2
    have zA3 := A3.2
    have zA4 := A4.2
    have zA5 := A5.2
    have zA6 := A6.2
    go_wp2_with fail
    refine (same_c h_Y h_E).mono ?_
    rintro e w23 ⟨rfl, b_⟩
    replace h_D := h_D.below b_
    replace h_E := h_E.below b_
    replace h_J := h_J.below b_
    replace A1 := A1.below b_
    replace A2 := A2.below b_
    replace A3 := A3.below b_
    replace A4 := A4.below b_
    replace h_M := h_M.below b_
    replace A5 := A5.below b_
    replace A6 := A6.below b_
    replace h_X := h_X.below b_
    replace h_Y := h_Y.below b_
    have kk := k.size
    replace k := k.trans (b_.mono kk)
    clear b_ kk
    clear zA1 zA2 zA3 zA4 zA5 zA6
    have zA1 := A1.2
    have zA2 := A2.2
    have zA3 := A3.2
    have zA4 := A4.2
    have zA5 := A5.2
    have zA6 := A6.2
    go_wp2_with fail
    refine (works_any _).mono ?_
    rintro e w24 ⟨rfl, b_⟩
    replace h_D := h_D.below b_
    replace h_E := h_E.below b_
    replace h_J := h_J.below b_
    replace A1 := A1.below b_
    replace A2 := A2.below b_
    replace A3 := A3.below b_
    replace A4 := A4.below b_
    replace h_M := h_M.below b_
    replace A5 := A5.below b_
    replace A6 := A6.below b_
    replace h_X := h_X.below b_
    replace h_Y := h_Y.below b_
    have kk := k.size
    replace k := k.trans (b_.mono kk)
    clear b_ kk
    clear zA1 zA2 zA3 zA4 zA5 zA6
    go_wp2
    go_ret
    exact ⟨rfl, k⟩
end Go.Proofs.Ytjedmiegcbdedaa
