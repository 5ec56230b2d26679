/- Walks of chapter 9: the first set that is good. -/
import Derived.Test.YtbhjphcomppjgaaDoorWl
namespace Beetle09
theorem els_del {s x : Nat} {r : List Nat} (hs : s < 2 ^ 25) (h : els 25 s = x :: r) : els 25 (del s x) = r := by
  have hx : x < 25 ∧ s.testBit x = true := mem_els.1 (by rw [h]; simp)
  have h1 : els 25 (del s x) = (els 25 s).filter fun i => decide (x ≠ i) := by
    unfold els
    rw [List.filter_filter]
    refine List.filter_congr fun i _ => ?_
    rw [del_bit hs hx.1, Bool.and_comm]
  have hnd := els_nodup 25 s
  rw [h] at hnd h1
  have hn := List.nodup_cons.1 hnd
  rw [h1, List.filter_cons, if_neg (by simp)]
  refine List.filter_eq_self.2 fun i hi => decide_eq_true fun e => hn.1 (e ▸ hi)
theorem setL_snoc (b : List Nat) (n : Nat) : setL (b ++ [n]) = setL b ||| 2 ^ n := by
  rw [setL_app]; congr 1; simp [setL]
theorem setL_25 {b : List Nat} (h : ∀ i ∈ b, i < 25) : setL b < 2 ^ 25 := setL_lt h
end Beetle09
namespace Go.Proofs.YtbhjphcomppjgaaDoor
open Go.RowKit Beetle09

abbrev dP (P : Nat → Nat → Bool) : List Nat → Nat → Bool := fun l m => P (setL l) m
abbrev dG (G : Nat → Bool) : List Nat → Bool := fun l => G (setL l)
/-- What choose returns. -/
def ChP (P : Nat → Nat → Bool) (Gd : Nat → Bool) (L : List Nat) (m : Nat) (b : List Nat) (w : World) : Ending → World → Prop := fun e w' => Below w.heap.size w w' ∧
  ((∃ l, dfs (dP P) (dG Gd) L m b = some l ∧ e = .returned (.tuple #[.int .u32 ((setL l : Nat) : Int), .bool true])) ∨ (dfs (dP P) (dG Gd) L m b = none ∧ ∃ s : Nat, s < 4294967296 ∧ e = .returned (.tuple #[.int .u32 (s : Int), .bool false])))
theorem dfs_cons_no {p : List Nat → Nat → Bool} {g : List Nat → Bool} {n m : Nat} {r b : List Nat} (h : p (b ++ [n]) m = false) : dfs p g (n :: r) (m + 1) b = dfs p g r (m + 1) b := by rw [dfs, if_neg (by rw [h]; simp)]
theorem dfs_cons_yes {p : List Nat → Nat → Bool} {g : List Nat → Bool} {n m : Nat} {r b l : List Nat} (h : p (b ++ [n]) m = true) (h2 : dfs p g r m (b ++ [n]) = some l) : dfs p g (n :: r) (m + 1) b = some l := by rw [dfs, if_pos h, h2]; rfl
theorem dfs_cons_none {p : List Nat → Nat → Bool} {g : List Nat → Bool} {n m : Nat} {r b : List Nat} (h : p (b ++ [n]) m = true) (h2 : dfs p g r m (b ++ [n]) = none) : dfs p g (n :: r) (m + 1) b = dfs p g r (m + 1) b := by rw [dfs, if_pos h, h2]; rfl

set_option maxHeartbeats 8000000 in
set_option maxRecDepth 100000 in
theorem choose_any (M G : Nat) (cM cG : Array Value) (P : Nat → Nat → Bool) (Gd : Nat → Bool) (wb : World) (K : Nat) (hK : K ≤ 25)
    (hcM : ∀ (args : Array Value) (w : World), (callFunc M args).run Tryd.prog w = .ok (.enter M args) w)
    (hcG : ∀ (args : Array Value) (w : World), (callFunc G args).run Tryd.prog w = .ok (.enter G args) w) (hT : Tab wb)
    (HM : Hid (∀ (q mm : Nat) w', q < 2 ^ K → mm ≤ 5 → GoodW wb w' → Calls Tryd.prog M (#[.int .u32 (q : Int), .int .i64 (mm : Int)] ++ cM) w' fun e w2 => e = .returned (.bool (P q mm)) ∧ Below w'.heap.size w' w2))
    (HG : Hid (∀ (q : Nat) w', q < 2 ^ K → GoodW wb w' → Calls Tryd.prog G (#[.int .u32 (q : Int)] ++ cG) w' fun e w2 => e = .returned (.bool (Gd q)) ∧ Below w'.heap.size w' w2)) :
    ∀ (m : Nat) (b : List Nat) (fr : Nat) (w : World), m ≤ 5 → (∀ i ∈ b, i < K) → fr < 2 ^ K → GoodW wb w →
      Calls Tryd.prog 67 #[.int .u32 ((setL b : Nat) : Int), .int .u32 (fr : Int), .int .i64 (m : Int), .func (.func M) #[] cM, .func (.func G) #[] cG] w (ChP P Gd (els 25 fr) m b w) := by
  intro m
  induction m with
  | zero =>
    intro b fr w hm hb hfr hw
    have HC := Lib.hid (HG.out (setL b) w (setL_lt hb) hw)
    have HD : Hid (dfs (dP P) (dG Gd) (els 25 fr) 0 b = if Gd (setL b) then some b else none) := Lib.hid (dfs_zero _ _ _ _)
    have HS := Lib.hid (lt25 (setL_lt hb) hK)
    obtain ⟨q, hq⟩ : ∃ q, setL b = q := ⟨_, rfl⟩
    have HQ := Lib.hid hq
    rw [hq] at HC HD HS ⊢
    obtain ⟨B, hB⟩ : ∃ B, Gd q = B := ⟨_, rfl⟩
    rw [hB] at HC HD
    have e1 : (((0 : Nat) : Int) == 0) = true := by decide
    have HT := Lib.hid hT
    clear hb hq hB hT hw
    go_enter Tryd.func67, Tryd.ntmps67
    go_wp2_with fail
    refine HC.out.mono ?_
    rintro e w2 ⟨rfl, hg⟩
    go_wp2_with fail
    go_ret2
    cases B with
    | true => exact ⟨hg, Or.inl ⟨b, by rw [HD.out, if_pos rfl], by rw [HQ.out]; rfl⟩⟩
    | false => exact ⟨hg, Or.inr ⟨by rw [HD.out, if_neg (by simp)], q, Nat.lt_of_lt_of_le HS.out (by decide), rfl⟩⟩
  | succ m ih =>
    intro b fr w hm hb hfr hw
    have HIH := Lib.hid ih
    have HBB := Lib.hid hb
    have HT := Lib.hid hT
    have HL60 := Lib.hid (list_of fr w (hT.to hw) (lt25 hfr hK))
    have HLL := Lib.hid (els_len 25 fr)
    have HLT : Hid (∀ i, i < (els 25 fr).length → (els 25 fr).getD i 0 < K) := Lib.hid fun i hi => by
      have : (els 25 fr).getD i 0 ∈ els 25 fr := by rw [List.getD, List.getElem?_eq_getElem hi]; exact List.getElem_mem hi
      exact bit_lt hfr (mem_els.1 this).2
    have hp25 := pcN_le 25 fr
    obtain ⟨Q, hQ⟩ : ∃ Q, pcN 25 fr = Q := ⟨_, rfl⟩
    rw [hQ] at HL60 HLL hp25
    have HF0 : Hid (fr < 2 ^ K) := Lib.hid hfr
    obtain ⟨L, hL⟩ : ∃ L, els 25 fr = L := ⟨_, rfl⟩
    rw [hL] at HL60 HLL HLT ⊢
    have HFL := Lib.hid hL
    have HS := Lib.hid (lt25 (setL_lt hb) hK)
    obtain ⟨q, hq⟩ : ∃ q, setL b = q := ⟨_, rfl⟩
    have HQ := Lib.hid hq
    rw [hq] at HS ⊢
    have HW := Lib.hid hw
    have e1 : (((m + 1 : Nat) : Int) == 0) = false := by rw [beq_eq_false_iff_ne]; omega
    have e1' : ((m : Int) + 1 == 0) = false := by rw [beq_eq_false_iff_ne]; omega
    clear ih hb hfr hw hQ hL hq hT
    go_enter Tryd.func67, Tryd.ntmps67
    go_wp2_with fail
    refine HL60.out.mono ?_
    rintro e w1 ⟨aL, cL, rfl, hOL, b1⟩
    have hcap := hOL.isL.cap
    have hle := hOL.isL.le
    have HOL := Lib.hid hOL.isL
    have HW1 := Lib.hid (HW.out.to b1)
    have hsz1 := b1.size
    clear hOL HL60
    go_wp2_with fail
    go_loopw [26, 1] (fun vi vf wr => ∃ (i f2 : Nat), i ≤ Q ∧ vi = .int .i64 (i : Int) ∧ vf = .int .u32 (f2 : Int) ∧ Hid (els 25 f2 = L.drop i ∧ f2 < 2 ^ K) ∧ Hid (dfs (dP P) (dG Gd) L (m + 1) b = dfs (dP P) (dG Gd) (L.drop i) (m + 1) b) ∧ Below w1.heap.size w1 wr ∧ Hid (GoodW wb wr)) (fun vi _ _ => Q - (intOf vi).toNat)
    case atStart => exact ⟨0, fr, by omega, rfl, rfl, Lib.hid ⟨by rw [List.drop_zero]; exact HFL.out, HF0.out⟩, Lib.hid (by rw [List.drop_zero]), Below.refl _ _, HW1⟩
    case round =>
      clear HW1
      obtain ⟨i, f2, hi, rfl, rfl, hF, hD, hb, hW⟩ := hrel
      by_cases hlt : i < Q
      · have q0 : (i : Int) < (Q : Int) := by omega
        obtain ⟨bb, oo, rfl, _, hc⟩ := (HOL.out.below hb).cells (by omega)
        have y1 := hc i hlt
        rw [li_get] at y1
        have hvK := HLT.out i (by rw [HLL.out]; exact hlt)
        have hdr : L.drop i = L.getD i 0 :: L.drop (i + 1) := by
          rw [List.drop_eq_getElem_cons (by rw [HLL.out]; exact hlt)]; simp [List.getD, show i < L.length by rw [HLL.out]; exact hlt]
        obtain ⟨v, hv⟩ : ∃ v, L.getD i 0 = v := ⟨_, rfl⟩
        rw [hv] at y1 hvK hdr
        have hv25 : v < 25 := by omega
        have HDR := Lib.hid hdr
        obtain ⟨V, hV, hV1, f3, f4, f5⟩ := pow_facts v hv25
        have hfK := hF.out.2
        have hf25 := lt25 hfK hK
        have hf32 : f2 < 4294967296 := Nat.lt_of_lt_of_le hf25 (by decide)
        obtain ⟨d, hd⟩ : ∃ d, del f2 v = d := ⟨_, rfl⟩
        have f6 : bits .andNot .u32 (f2 : Int) (V : Int) = (d : Int) := by rw [u32_andNot_nat f2 V hf32 (by omega), ← hd, del, hV]
        have HF2 : Hid (els 25 d = L.drop (i + 1) ∧ d < 2 ^ K) := Lib.hid ⟨by rw [← hd]; exact els_del hf25 (by rw [hF.out.1, HDR.out]), by rw [← hd]; exact del_lt hfK⟩
        obtain ⟨x, hx⟩ : ∃ x, q ||| V = x := ⟨_, rfl⟩
        have hq32 : q < 4294967296 := Nat.lt_of_lt_of_le HS.out (by decide)
        have f7 : bits .or .u32 (q : Int) (V : Int) = (x : Int) := by rw [u32_or_nat q V hq32 (by omega), hx]
        have HX : Hid (setL (b ++ [v]) = x) := Lib.hid (by rw [setL_snoc, HQ.out, ← hx, hV])
        have HB2 : Hid (∀ i ∈ b ++ [v], i < K) := Lib.hid fun i hi => by
          rcases List.mem_append.1 hi with hi | hi
          · exact HBB.out i hi
          · rw [List.mem_singleton.1 hi]; exact hvK
        have HX25 : Hid (x < 2 ^ K) := Lib.hid (by rw [← HX.out]; exact setL_lt HB2.out)
        have HCM := Lib.hid (HM.out x m wr HX25.out (by omega) hW.out)
        obtain ⟨B, hB⟩ : ∃ B, P x m = B := ⟨_, rfl⟩
        rw [hB] at HCM
        have HPB : Hid (dP P (b ++ [v]) m = B) := Lib.hid (by show P (setL (b ++ [v])) m = B; rw [HX.out]; exact hB)
        clear hc hv hdr hV hd hx hf25 hfK hB hF
        cases B with
        | false =>
          have HD2 : Hid (dfs (dP P) (dG Gd) L (m + 1) b = dfs (dP P) (dG Gd) (L.drop (i + 1)) (m + 1) b) := Lib.hid (by rw [hD.out, HDR.out, dfs_cons_no HPB.out])
          go_wp2_with fail
          refine HCM.out.mono ?_
          rintro e w2 ⟨rfl, hg⟩
          have hb2 : Below w1.heap.size w1 w2 := hb.trans (hg.mono hb.size)
          have HG2 := Lib.hid (hW.out.to hg)
          clear hg
          go_wp2_with fail
          go_roundw
          case rel => first | exact ⟨i + 1, d, by omega, by go_num, rfl, HF2, HD2, hb2, HG2⟩ | ((repeat apply Exists.intro); exact ⟨⟨i + 1, d, by omega, by go_num, rfl, HF2, HD2, hb2, HG2⟩, rfl⟩)
          case measure => (simp [intOf] <;> omega)
        | true =>
          go_wp2_with fail
          refine HCM.out.mono ?_
          rintro e w2 ⟨rfl, hg⟩
          have hb2 : Below w1.heap.size w1 w2 := hb.trans (hg.mono hb.size)
          have hw2 := hW.out.to hg
          have HCR := HIH.out (b ++ [v]) d w2 (by omega) HB2.out HF2.out.2 hw2
          rw [HX.out, HF2.out.1] at HCR
          have HCR2 := Lib.hid HCR
          have HW2 := Lib.hid hw2
          have hsz2 := hb2.size
          clear HCR hg hw2 hb HCM
          go_wp2_with fail
          refine HCR2.out.mono ?_
          rintro e w3 ⟨b3, hor⟩
          have hb3 := hb2.trans (b3.mono hsz2)
          have HW3 := Lib.hid (HW2.out.to b3)
          clear HCR2
          rcases hor with ⟨l, hl, rfl⟩ | ⟨hl, s2, hs2, rfl⟩
          · have HD2 : Hid (dfs (dP P) (dG Gd) L (m + 1) b = some l) := Lib.hid (by rw [hD.out, HDR.out, dfs_cons_yes HPB.out hl])
            clear hl
            obtain ⟨y, hy⟩ : ∃ y, setL l = y := ⟨_, rfl⟩
            have HY := Lib.hid hy
            rw [hy]
            clear hy
            go_wp2_with fail
            go_ret2
            exact ⟨b1.trans (hb3.mono hsz1), Or.inl ⟨l, HD2.out, by rw [HY.out]; rfl⟩⟩
          · have HD2 : Hid (dfs (dP P) (dG Gd) L (m + 1) b = dfs (dP P) (dG Gd) (L.drop (i + 1)) (m + 1) b) := Lib.hid (by rw [hD.out, HDR.out, dfs_cons_none HPB.out hl])
            clear hl
            go_wp2_with fail
            go_roundw
            case rel => first | exact ⟨i + 1, d, by omega, by go_num, rfl, HF2, HD2, hb3, HW3⟩ | ((repeat apply Exists.intro); exact ⟨⟨i + 1, d, by omega, by go_num, rfl, HF2, HD2, hb3, HW3⟩, rfl⟩)
            case measure => (simp [intOf] <;> omega)
      · obtain rfl : Q = i := by omega
        have HN : Hid (dfs (dP P) (dG Gd) L (m + 1) b = none) := Lib.hid (by rw [hD.out, List.drop_of_length_le (by rw [HLL.out]; exact Nat.le_refl _)]; rfl)
        go_wp2_with fail
        go_ret2
        exact ⟨b1.trans (hb.mono hsz1), Or.inr ⟨HN.out, 0, by decide, rfl⟩⟩
end Go.Proofs.YtbhjphcomppjgaaDoor
