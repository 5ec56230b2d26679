/- Walks of chapter 11: StoreLattice's closure. -/
import Derived.Test.YtjedmiegcbdedaaXj
import Derived.Test.YtjedmiegcbdedaaXd
namespace Go.Proofs.Ytjedmiegcbdedaa
open Go.RowKit Store11

theorem fin_c {v : Bool} (a b : Option Addr) (n c d : Nat) (A B : List Int) (w : World) (h_A : IsL w a n c A) (h_B : IsL w b n d B) (hv : finB A B = v) :
    Calls Try.prog 54 #[.slice a n c, .slice b n d] w fun e w' => e = .returned (.bool v) ∧ Below w.heap.size w w' := by
  subst hv; exact fin_any a b n c d A B w h_A h_B
/-- a slice: where it lies -/
structure SV where
  a : Option Addr
  c : Nat
/-- the law's variables: the blocks pa, pb, pf, pj, pm hold the two divisions, finer, Join and Meet -/
structure LatI (w : World) (N pa pb pf pj pm : Nat) (sa sb sj sm : SV) (D E J M : List Int) : Prop where
  la : pa < w.heap.size
  lb : pb < w.heap.size
  lf : pf < w.heap.size
  lj : pj < w.heap.size
  lm : pm < w.heap.size
  ca : w.cell? ⟨pa, 0, none⟩ = some (.slice sa.a N sa.c)
  cb : w.cell? ⟨pb, 0, none⟩ = some (.slice sb.a N sb.c)
  cf : w.cell? ⟨pf, 0, none⟩ = some (.func (.func 54) #[] #[])
  cj : w.cell? ⟨pj, 0, none⟩ = some (.slice sj.a N sj.c)
  cm : w.cell? ⟨pm, 0, none⟩ = some (.slice sm.a N sm.c)
  hD : IsL w sa.a N sa.c D
  hE : IsL w sb.a N sb.c E
  hJ : IsL w sj.a N sj.c J
  hM : IsL w sm.a N sm.c M
theorem LatI.below {w w' : World} {N pa pb pf pj pm : Nat} {sa sb sj sm : SV} {D E J M : List Int} (h : LatI w N pa pb pf pj pm sa sb sj sm D E J M) (hb : Below w.heap.size w w') : LatI w' N pa pb pf pj pm sa sb sj sm D E J M where
  la := Nat.lt_of_lt_of_le h.la hb.size
  lb := Nat.lt_of_lt_of_le h.lb hb.size
  lf := Nat.lt_of_lt_of_le h.lf hb.size
  lj := Nat.lt_of_lt_of_le h.lj hb.size
  lm := Nat.lt_of_lt_of_le h.lm hb.size
  ca := (hb.cell (p := ⟨pa, 0, none⟩) h.la).trans h.ca
  cb := (hb.cell (p := ⟨pb, 0, none⟩) h.lb).trans h.cb
  cf := (hb.cell (p := ⟨pf, 0, none⟩) h.lf).trans h.cf
  cj := (hb.cell (p := ⟨pj, 0, none⟩) h.lj).trans h.cj
  cm := (hb.cell (p := ⟨pm, 0, none⟩) h.lm).trans h.cm
  hD := h.hD.below hb
  hE := h.hE.below hb
  hJ := h.hJ.below hb
  hM := h.hM.below hb

set_option maxHeartbeats 4000000 in
set_option maxRecDepth 100000 in
theorem lat_any (N pa pb pf pj pm pg : Nat) (sa sb sj sm : SV) (D E J M l : List Int) (al : Option Addr) (cl : Nat) (w : World) (hI : LatI w N pa pb pf pj pm sa sb sj sm D E J M) (hl : IsL w al N cl l)
    (h3 : finB D l = true → finB E l = true → finB J l = true) (h6 : finB l D = true → finB l E = true → finB l M = true) :
    Calls Try.prog 55 #[.slice al N cl, .pointer (some ⟨pf, 0, none⟩), .pointer (some ⟨pa, 0, none⟩), .pointer (some ⟨pb, 0, none⟩), .pointer (some ⟨pj, 0, none⟩), .pointer (some ⟨pm, 0, none⟩), .pointer (some ⟨pg, 0, none⟩)] w fun e w' => e = .returned (.tuple #[]) ∧ Below w.heap.size w w' := by
  have H3 := Lib.hid h3
  have H6 := Lib.hid h6
  have HI := Lib.hid hI
  have k := Below.refl w.heap.size w
  have c1 := hI.ca
  have c2 := hI.cb
  have c3 := hI.cf
  have c4 := hI.cj
  have c5 := hI.cm
  clear h3 h6 hI
  go_enter Try.func55, Try.ntmps55
  cases ha1 : finB D l with
  | false =>
    have HA1 := Lib.hid ha1
    clear ha1
    go_wp2_with fail
    refine (fin_c _ _ _ _ _ _ _ _ HI.out.hD hl HA1.out).mono ?_
    rintro e w2 ⟨rfl, b_⟩
    replace hl := hl.below b_
    replace HI := Lib.hid (HI.out.below b_)
    replace k := k.trans (b_.mono k.size)
    clear b_ c1 c2 c3 c4 c5
    have c1 := HI.out.ca
    have c2 := HI.out.cb
    have c3 := HI.out.cf
    have c4 := HI.out.cj
    have c5 := HI.out.cm
    cases hb1 : finB l D with
    | false =>
      have HB1 := Lib.hid hb1
      clear hb1
      go_wp2_with fail
      refine (fin_c _ _ _ _ _ _ _ _ hl HI.out.hD HB1.out).mono ?_
      rintro e w2 ⟨rfl, b_⟩
      replace hl := hl.below b_
      replace HI := Lib.hid (HI.out.below b_)
      replace k := k.trans (b_.mono k.size)
      clear b_ c1 c2 c3 c4 c5
      have c1 := HI.out.ca
      have c2 := HI.out.cb
      have c3 := HI.out.cf
      have c4 := HI.out.cj
      have c5 := HI.out.cm
      go_wp2
      go_end0
      exact ⟨rfl, k⟩
    | true =>
      have HB1 := Lib.hid hb1
      clear hb1
      go_wp2_with fail
      refine (fin_c _ _ _ _ _ _ _ _ hl HI.out.hD HB1.out).mono ?_
      rintro e w2 ⟨rfl, b_⟩
      replace hl := hl.below b_
      replace HI := Lib.hid (HI.out.below b_)
      replace k := k.trans (b_.mono k.size)
      clear b_ c1 c2 c3 c4 c5
      have c1 := HI.out.ca
      have c2 := HI.out.cb
      have c3 := HI.out.cf
      have c4 := HI.out.cj
      have c5 := HI.out.cm
      cases hb2 : finB l E with
      | false =>
        have HB2 := Lib.hid hb2
        clear hb2
        go_wp2_with fail
        refine (fin_c _ _ _ _ _ _ _ _ hl HI.out.hE HB2.out).mono ?_
        rintro e w2 ⟨rfl, b_⟩
        replace hl := hl.below b_
        replace HI := Lib.hid (HI.out.below b_)
        replace k := k.trans (b_.mono k.size)
        clear b_ c1 c2 c3 c4 c5
        have c1 := HI.out.ca
        have c2 := HI.out.cb
        have c3 := HI.out.cf
        have c4 := HI.out.cj
        have c5 := HI.out.cm
        go_wp2
        go_end0
        exact ⟨rfl, k⟩
      | true =>
        have HB2 := Lib.hid hb2
        clear hb2
        go_wp2_with fail
        refine (fin_c _ _ _ _ _ _ _ _ hl HI.out.hE HB2.out).mono ?_
        rintro e w2 ⟨rfl, b_⟩
        replace hl := hl.below b_
        replace HI := Lib.hid (HI.out.below b_)
        replace k := k.trans (b_.mono k.size)
        clear b_ c1 c2 c3 c4 c5
        have c1 := HI.out.ca
        have c2 := HI.out.cb
        have c3 := HI.out.cf
        have c4 := HI.out.cj
        have c5 := HI.out.cm
        go_wp2_with fail
        refine (fin_c _ _ _ _ _ _ _ _ hl HI.out.hM (H6.out HB1.out HB2.out)).mono ?_
        rintro e w2 ⟨rfl, b_⟩
        replace hl := hl.below b_
        replace HI := Lib.hid (HI.out.below b_)
        replace k := k.trans (b_.mono k.size)
        clear b_ c1 c2 c3 c4 c5
        have c1 := HI.out.ca
        have c2 := HI.out.cb
        have c3 := HI.out.cf
        have c4 := HI.out.cj
        have c5 := HI.out.cm
        go_wp2
        go_end0
        exact ⟨rfl, k⟩
  | true =>
    have HA1 := Lib.hid ha1
    clear ha1
    go_wp2_with fail
    refine (fin_c _ _ _ _ _ _ _ _ HI.out.hD hl HA1.out).mono ?_
    rintro e w2 ⟨rfl, b_⟩
    replace hl := hl.below b_
    replace HI := Lib.hid (HI.out.below b_)
    replace k := k.trans (b_.mono k.size)
    clear b_ c1 c2 c3 c4 c5
    have c1 := HI.out.ca
    have c2 := HI.out.cb
    have c3 := HI.out.cf
    have c4 := HI.out.cj
    have c5 := HI.out.cm
    cases ha2 : finB E l with
    | false =>
      have HA2 := Lib.hid ha2
      clear ha2
      go_wp2_with fail
      refine (fin_c _ _ _ _ _ _ _ _ HI.out.hE hl HA2.out).mono ?_
      rintro e w2 ⟨rfl, b_⟩
      replace hl := hl.below b_
      replace HI := Lib.hid (HI.out.below b_)
      replace k := k.trans (b_.mono k.size)
      clear b_ c1 c2 c3 c4 c5
      have c1 := HI.out.ca
      have c2 := HI.out.cb
      have c3 := HI.out.cf
      have c4 := HI.out.cj
      have c5 := HI.out.cm
      cases hb1 : finB l D with
      | false =>
        have HB1 := Lib.hid hb1
        clear hb1
        go_wp2_with fail
        refine (fin_c _ _ _ _ _ _ _ _ hl HI.out.hD HB1.out).mono ?_
        rintro e w2 ⟨rfl, b_⟩
        replace hl := hl.below b_
        replace HI := Lib.hid (HI.out.below b_)
        replace k := k.trans (b_.mono k.size)
        clear b_ c1 c2 c3 c4 c5
        have c1 := HI.out.ca
        have c2 := HI.out.cb
        have c3 := HI.out.cf
        have c4 := HI.out.cj
        have c5 := HI.out.cm
        go_wp2
        go_end0
        exact ⟨rfl, k⟩
      | true =>
        have HB1 := Lib.hid hb1
        clear hb1
        go_wp2_with fail
        refine (fin_c _ _ _ _ _ _ _ _ hl HI.out.hD HB1.out).mono ?_
        rintro e w2 ⟨rfl, b_⟩
        replace hl := hl.below b_
        replace HI := Lib.hid (HI.out.below b_)
        replace k := k.trans (b_.mono k.size)
        clear b_ c1 c2 c3 c4 c5
        have c1 := HI.out.ca
        have c2 := HI.out.cb
        have c3 := HI.out.cf
        have c4 := HI.out.cj
        have c5 := HI.out.cm
        cases hb2 : finB l E with
        | false =>
          have HB2 := Lib.hid hb2
          clear hb2
          go_wp2_with fail
          refine (fin_c _ _ _ _ _ _ _ _ hl HI.out.hE HB2.out).mono ?_
          rintro e w2 ⟨rfl, b_⟩
          replace hl := hl.below b_
          replace HI := Lib.hid (HI.out.below b_)
          replace k := k.trans (b_.mono k.size)
          clear b_ c1 c2 c3 c4 c5
          have c1 := HI.out.ca
          have c2 := HI.out.cb
          have c3 := HI.out.cf
          have c4 := HI.out.cj
          have c5 := HI.out.cm
          go_wp2
          go_end0
          exact ⟨rfl, k⟩
        | true =>
          have HB2 := Lib.hid hb2
          clear hb2
          go_wp2_with fail
          refine (fin_c _ _ _ _ _ _ _ _ hl HI.out.hE HB2.out).mono ?_
          rintro e w2 ⟨rfl, b_⟩
          replace hl := hl.below b_
          replace HI := Lib.hid (HI.out.below b_)
          replace k := k.trans (b_.mono k.size)
          clear b_ c1 c2 c3 c4 c5
          have c1 := HI.out.ca
          have c2 := HI.out.cb
          have c3 := HI.out.cf
          have c4 := HI.out.cj
          have c5 := HI.out.cm
          go_wp2_with fail
          refine (fin_c _ _ _ _ _ _ _ _ hl HI.out.hM (H6.out HB1.out HB2.out)).mono ?_
          rintro e w2 ⟨rfl, b_⟩
          replace hl := hl.below b_
          replace HI := Lib.hid (HI.out.below b_)
          replace k := k.trans (b_.mono k.size)
          clear b_ c1 c2 c3 c4 c5
          have c1 := HI.out.ca
          have c2 := HI.out.cb
          have c3 := HI.out.cf
          have c4 := HI.out.cj
          have c5 := HI.out.cm
          go_wp2
          go_end0
          exact ⟨rfl, k⟩
    | true =>
      have HA2 := Lib.hid ha2
      clear ha2
      go_wp2_with fail
      refine (fin_c _ _ _ _ _ _ _ _ HI.out.hE hl HA2.out).mono ?_
      rintro e w2 ⟨rfl, b_⟩
      replace hl := hl.below b_
      replace HI := Lib.hid (HI.out.below b_)
      replace k := k.trans (b_.mono k.size)
      clear b_ c1 c2 c3 c4 c5
      have c1 := HI.out.ca
      have c2 := HI.out.cb
      have c3 := HI.out.cf
      have c4 := HI.out.cj
      have c5 := HI.out.cm
      go_wp2_with fail
      refine (fin_c _ _ _ _ _ _ _ _ HI.out.hJ hl (H3.out HA1.out HA2.out)).mono ?_
      rintro e w2 ⟨rfl, b_⟩
      replace hl := hl.below b_
      replace HI := Lib.hid (HI.out.below b_)
      replace k := k.trans (b_.mono k.size)
      clear b_ c1 c2 c3 c4 c5
      have c1 := HI.out.ca
      have c2 := HI.out.cb
      have c3 := HI.out.cf
      have c4 := HI.out.cj
      have c5 := HI.out.cm
      cases hb1 : finB l D with
      | false =>
        have HB1 := Lib.hid hb1
        clear hb1
        go_wp2_with fail
        refine (fin_c _ _ _ _ _ _ _ _ hl HI.out.hD HB1.out).mono ?_
        rintro e w2 ⟨rfl, b_⟩
        replace hl := hl.below b_
        replace HI := Lib.hid (HI.out.below b_)
        replace k := k.trans (b_.mono k.size)
        clear b_ c1 c2 c3 c4 c5
        have c1 := HI.out.ca
        have c2 := HI.out.cb
        have c3 := HI.out.cf
        have c4 := HI.out.cj
        have c5 := HI.out.cm
        go_wp2
        go_end0
        exact ⟨rfl, k⟩
      | true =>
        have HB1 := Lib.hid hb1
        clear hb1
        go_wp2_with fail
        refine (fin_c _ _ _ _ _ _ _ _ hl HI.out.hD HB1.out).mono ?_
        rintro e w2 ⟨rfl, b_⟩
        replace hl := hl.below b_
        replace HI := Lib.hid (HI.out.below b_)
        replace k := k.trans (b_.mono k.size)
        clear b_ c1 c2 c3 c4 c5
        have c1 := HI.out.ca
        have c2 := HI.out.cb
        have c3 := HI.out.cf
        have c4 := HI.out.cj
        have c5 := HI.out.cm
        cases hb2 : finB l E with
        | false =>
          have HB2 := Lib.hid hb2
          clear hb2
          go_wp2_with fail
          refine (fin_c _ _ _ _ _ _ _ _ hl HI.out.hE HB2.out).mono ?_
          rintro e w2 ⟨rfl, b_⟩
          replace hl := hl.below b_
          replace HI := Lib.hid (HI.out.below b_)
          replace k := k.trans (b_.mono k.size)
          clear b_ c1 c2 c3 c4 c5
          have c1 := HI.out.ca
          have c2 := HI.out.cb
          have c3 := HI.out.cf
          have c4 := HI.out.cj
          have c5 := HI.out.cm
          go_wp2
          go_end0
          exact ⟨rfl, k⟩
        | true =>
          have HB2 := Lib.hid hb2
          clear hb2
          go_wp2_with fail
          refine (fin_c _ _ _ _ _ _ _ _ hl HI.out.hE HB2.out).mono ?_
          rintro e w2 ⟨rfl, b_⟩
          replace hl := hl.below b_
          replace HI := Lib.hid (HI.out.below b_)
          replace k := k.trans (b_.mono k.size)
          clear b_ c1 c2 c3 c4 c5
          have c1 := HI.out.ca
          have c2 := HI.out.cb
          have c3 := HI.out.cf
          have c4 := HI.out.cj
          have c5 := HI.out.cm
          go_wp2_with fail
          refine (fin_c _ _ _ _ _ _ _ _ hl HI.out.hM (H6.out HB1.out HB2.out)).mono ?_
          rintro e w2 ⟨rfl, b_⟩
          replace hl := hl.below b_
          replace HI := Lib.hid (HI.out.below b_)
          replace k := k.trans (b_.mono k.size)
          clear b_ c1 c2 c3 c4 c5
          have c1 := HI.out.ca
          have c2 := HI.out.cb
          have c3 := HI.out.cf
          have c4 := HI.out.cj
          have c5 := HI.out.cm
          go_wp2
          go_end0
          exact ⟨rfl, k⟩
end Go.Proofs.Ytjedmiegcbdedaa
