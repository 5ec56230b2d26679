/- Walks of chapter 3: GradeFoata's closure. -/
import Derived.Test.YtmcckngodaeojaaXg
import Derived.Test.YtmcckngodaeojaaLib6
import Derived.Test.YtmcckngodaeojaaPj
import Derived.BigQuiet
namespace Go.Proofs.Ytmcckngodaeojaa
open Go.RowKit Grade03
abbrev VW : Value → Value := fun v => v
abbrev IW : Int → Value := fun v => .int .i64 v
theorem cellV {w : World} {g : Nat} {t : TypeId} {l : List Value} (h : ArrV VW w g t l) (i : Nat) {v : Value} (hv : l[i]? = some v) : w.cell? ⟨g, i, none⟩ = some v := by
  obtain ⟨hi, e⟩ := List.getElem?_eq_some_iff.1 hv
  have := h.cell i v hi
  rw [this]
  simp [List.getD, hv]
theorem ArrV.block {α : Type} {f : α → Value} {w w' : World} {g : Nat} {t : TypeId} {l : List α} (h : ArrV f w g t l) (hb : w'.heap[g]? = w.heap[g]?) : ArrV f w' g t l := hb.trans h
noncomputable abbrev encS : KeyEnc Try.prog 9 ByteArray := encStr Try.underlying9
/-- the blocks of GradeFoata: how many, both counts, the names met (a map, and its box), good -/
structure FoS (w0 : World) (g n N : Nat) (A T : List Int) (sz : Nat) (f : ByteArray → Bool) (w : World) : Prop where
  s6 : g + 6 ≤ w.heap.size
  hn : ArrV VW w g 3 [.int .i64 (n : Int)]
  ha : ArrV IW w (g + 1) 60 A
  ht : ArrV IW w (g + 2) 60 T
  hm : MapB encS 4 w (g + 3) N sz f
  hx : ArrV VW w (g + 4) 61 [.map (some (g + 3))]
  hg : ArrV VW w (g + 5) 4 [.bool true]
  bel : Below g w0 w
namespace FoS
variable {w0 w w' : World} {g n N sz : Nat} {A T : List Int} {f : ByteArray → Bool}
theorem new (h : FoS w0 g n N A T sz f w) (hb : Below w.heap.size w w') : FoS w0 g n N A T sz f w' :=
  ⟨Nat.le_trans h.s6 hb.size, h.hn.below hb, h.ha.below hb, h.ht.below hb, h.hm.below hb, h.hx.below hb, h.hg.below hb, h.bel.trans (hb.mono (by have := h.s6; omega))⟩
theorem putg (h : FoS w0 g n N A T sz f w) : FoS w0 g n N A T sz f (w.setCell ⟨g + 5, 0, none⟩ (.bool true)) :=
  ⟨by rw [setCell_size]; exact h.s6, h.hn.other (by show g + 5 ≠ g; omega) _, h.ha.other (by show g + 5 ≠ g + 1; omega) _, h.ht.other (by show g + 5 ≠ g + 2; omega) _, h.hm.setCell (by show g + 3 ≠ g + 5; omega) _, h.hx.other (by show g + 5 ≠ g + 4; omega) _, h.hg.set 0 (.bool true), h.bel.setCell (p := ⟨g + 5, 0, none⟩) (by show g ≤ g + 5; omega) _⟩
theorem puta (h : FoS w0 g n N A T sz f w) (i : Nat) (x : Int) : FoS w0 g n N (A.set i x) T sz f (w.setCell ⟨g + 1, i, none⟩ (.int .i64 x)) :=
  ⟨by rw [setCell_size]; exact h.s6, h.hn.other (by show g + 1 ≠ g; omega) _, h.ha.set i x, h.ht.other (by show g + 1 ≠ g + 2; omega) _, h.hm.setCell (by show g + 3 ≠ g + 1; omega) _, h.hx.other (by show g + 1 ≠ g + 4; omega) _, h.hg.other (by show g + 1 ≠ g + 5; omega) _, h.bel.setCell (p := ⟨g + 1, i, none⟩) (by show g ≤ g + 1; omega) _⟩
theorem putt (h : FoS w0 g n N A T sz f w) (i : Nat) (x : Int) : FoS w0 g n N A (T.set i x) sz f (w.setCell ⟨g + 2, i, none⟩ (.int .i64 x)) :=
  ⟨by rw [setCell_size]; exact h.s6, h.hn.other (by show g + 2 ≠ g; omega) _, h.ha.other (by show g + 2 ≠ g + 1; omega) _, h.ht.set i x, h.hm.setCell (by show g + 3 ≠ g + 2; omega) _, h.hx.other (by show g + 2 ≠ g + 4; omega) _, h.hg.other (by show g + 2 ≠ g + 5; omega) _, h.bel.setCell (p := ⟨g + 2, i, none⟩) (by show g ≤ g + 2; omega) _⟩
theorem putm {N' sz' : Nat} {f' : ByteArray → Bool} (h : FoS w0 g n N A T sz f w) (hg : w.grownBy w' (some (g + 3))) (hM : MapB encS 4 w' (g + 3) N' sz' f') : FoS w0 g n N' A T sz' f' w' := by
  have hs := h.s6
  have k : ∀ b, b < g + 6 → b ≠ g + 3 → w'.heap[b]? = w.heap[b]? := fun b hb hne => hg.block b (by omega) (by simpa using hne)
  exact ⟨Nat.le_trans h.s6 hg.size, h.hn.block (k _ (by omega) (by omega)), h.ha.block (k _ (by omega) (by omega)), h.ht.block (k _ (by omega) (by omega)), hM, h.hx.block (k _ (by omega) (by omega)), h.hg.block (k _ (by omega) (by omega)), h.bel.grown hg (by omega) (fun q hq => by cases hq; omega)⟩
end FoS
theorem above_grown {w w' : World} {B b : Nat} (hg : w.grownBy w' (some b)) (hb : b < B) : Above B w w' := ⟨hg.size, fun k hk hk2 => hg.block k hk2 (by simp; omega)⟩
/-- what is known when so many orders have come -/
def nmS (l : List Int) : ByteArray := nameB (shiftL l)
def seenF (L : List (List Int)) (s : ByteArray) : Bool := L.any fun l => decide (s = nmS l)
def FoI (w0 : World) (g n i : Nat) (w : World) : Prop := FoS w0 g n i (hisL majL ((allO n n []).take i)) (hisL invG ((allO n n []).take i)) i (seenF ((allO n n []).take i)) w
theorem small_of {l : List Int} {n : Nat} (h : IsO l) (hl : l.length = n) (hn : n ≤ 7) : ∀ x ∈ l, 0 ≤ x ∧ x ≤ 25 := fun x hx => by
  obtain ⟨i, hi, rfl⟩ := List.mem_iff_getElem.1 hx
  have := h.lo i hi
  simp only [List.getD, List.getElem?_eq_getElem hi, Option.getD_some] at this
  omega
theorem seen_not {n i : Nat} {l : List Int} (hn : n ≤ 7) (h : (allO n n [])[i]? = some l) : seenF ((allO n n []).take i) (nmS l) = false := by
  unfold seenF
  rw [Bool.eq_false_iff]
  intro hany
  obtain ⟨l', hm, he⟩ := List.any_eq_true.1 hany
  rw [decide_eq_true_eq] at he
  replace he := he.symm
  obtain ⟨j, hj, e⟩ := List.mem_iff_getElem.1 hm
  rw [List.length_take] at hj
  rw [List.getElem_take] at e
  have hj2 : (allO n n [])[j]? = some l' := by rw [List.getElem?_eq_getElem (by omega), e]
  obtain ⟨o1, l1⟩ := allO_at h
  obtain ⟨o2, l2⟩ := allO_at hj2
  obtain ⟨s1, t1⟩ := shift_ord o1
  obtain ⟨s2, t2⟩ := shift_ord o2
  have hs := shift_inj (nameB_inj (small_of s2 (t2.trans l2) hn) (small_of s1 (t1.trans l1) hn) he)
  subst hs
  obtain ⟨hi, ei⟩ := List.getElem?_eq_some_iff.1 h
  have := (List.pairwise_iff_getElem.1 (allO_nodup (n := n) n [])) j i (by omega) hi (by omega)
  rw [e, ei] at this
  exact this rfl
theorem seen_snoc (L : List (List Int)) (l : List Int) : seenF (L ++ [l]) = fun y => decide (y = nmS l) || seenF L y := by
  funext y
  unfold seenF
  rw [List.any_append, Bool.or_comm]
  simp
theorem majK_bd (l : List Int) : ∀ k, k ≤ 6 → 0 ≤ majK l k ∧ majK l k ≤ 7 * k
  | 0, _ => by simp [majK]
  | k + 1, h => by
    have := majK_bd l k (by omega)
    simp only [majK]
    split <;> omega
theorem at_isG {w : World} {bb oo n c i : Nat} {l : List Int} (h : IsL w (some ⟨bb, oo, none⟩) n c l) (hi : i < n) : w.cell? ⟨bb, oo + i, none⟩ = some (.int .i64 (l.getD i 0)) := by
  obtain ⟨b9, o9, e9, _, hc⟩ := h.cells (by omega)
  obtain ⟨rfl, rfl⟩ : b9 = bb ∧ o9 = oo := by simpa [eq_comm] using e9
  exact hc i hi
theorem isG_addr {w : World} {a : Option Addr} {n c : Nat} {l : List Int} (h : IsL w a n c l) (hn : 0 < n) : ∃ b o, a = some ⟨b, o, none⟩ := by
  obtain ⟨b, o, h, _⟩ := h.cells hn
  exact ⟨b, o, h⟩
set_option maxHeartbeats 16000000 in
set_option maxRecDepth 100000 in
theorem foa1 (w0 : World) (g n : Nat) (hn1 : 1 ≤ n) (hn6 : n ≤ 6) (i : Nat) (l : List Int) (w : World) (a : Option Addr) (m c : Nat) (hl : (allO n n [])[i]? = some l) (hI : FoI w0 g n i w) (h1 : IsL w a m c l) (hx : ∀ x, a = some x → g + 6 ≤ x.block) :
    Calls Try.prog 59 #[.slice a m c, .pointer (some ⟨g + 5, 0, none⟩), .pointer (some ⟨g, 0, none⟩), .pointer (some ⟨g + 4, 0, none⟩), .pointer (some ⟨g + 1, 0, none⟩), .pointer (some ⟨g + 2, 0, none⟩)] w fun e w2 => e = .returned (.tuple #[]) ∧ FoI w0 g n (i + 1) w2 ∧ Above (g + 6) w w2 := by
  obtain ⟨hO, hll⟩ := allO_at hl
  obtain rfl : m = n := by rw [← h1.len, hll]
  have hib := allO_lt (by omega) hl
  have htk := take_at hl
  obtain ⟨hsO, hsl⟩ := shift_ord hO
  have hsl2 := hsl.trans hll
  have hck1 := chk_ord hO hll hn1 (by omega)
  have hck2 := chk_ord hsO hsl2 hn1 (by omega)
  have HCK1 := Lib.hid hck1
  have HCK2 := Lib.hid hck2
  have HBK : Hid (backR (shiftL l) = l) := Lib.hid (by rw [backR_ok hck2, back_shift])
  have HSH : Hid (shiftR l = shiftL l) := Lib.hid (shiftR_ok hck1)
  obtain ⟨⟨hm0, hm15⟩, ht0, ht15⟩ := maj_bd (by omega) hO hll
  obtain ⟨mj, hmj⟩ : ∃ mj : Nat, majL l = (mj : Int) := ⟨(majL l).toNat, by omega⟩
  obtain ⟨tj, htj⟩ : ∃ tj : Nat, invG l = (tj : Int) := ⟨(invG l).toNat, by omega⟩
  have hmj15 : mj ≤ 15 := by omega
  have htj15 : tj ≤ 15 := by omega
  have HMJ : Hid (majE l = (mj : Int)) := Lib.hid (by unfold majE; rw [if_pos hck1]; exact hmj)
  have HFO : Hid (∀ s, TurnS (shiftL l) s → pc s = (mj : Int)) := Lib.hid fun s hs => by
    rw [hs.size (by omega), trn_inv hsO, foata (by omega) hO hll, hmj]
  have HTO : Hid (∀ s, TurnS l s → pc s = (tj : Int)) := Lib.hid fun s hs => by
    rw [hs.size (by omega), trn_inv hO, htj]
  have HSLO : Hid (∀ k, k < m → ∃ v : Nat, (shiftL l).getD k 0 = (v : Int) ∧ v < 6) := Lib.hid fun k hk => by
    have := hsO.lo k (by omega)
    exact ⟨((shiftL l).getD k 0).toNat, by omega, by omega⟩
  have HSM := Lib.hid (small_of hsO hsl2 (by omega : m ≤ 7))
  have HNEW := Lib.hid (seen_not (by omega : m ≤ 7) hl)
  have HSNO := Lib.hid (seen_snoc ((allO m m []).take i) l)
  have HAN := Lib.hid (hisL_snoc majL ((allO m m []).take i) l mj hmj (by omega))
  have HTN := Lib.hid (hisL_snoc invG ((allO m m []).take i) l tj htj (by omega))
  have HALN := Lib.hid (hisL_len majL ((allO m m []).take i))
  have HTLN := Lib.hid (hisL_len invG ((allO m m []).take i))
  have hAv := hisL_get majL ((allO m m []).take i) mj (by omega)
  have hTv := hisL_get invG ((allO m m []).take i) tj (by omega)
  have hAc : (((allO m m []).take i).countP fun l => majL l == (mj : Int)) ≤ i := Nat.le_trans List.countP_le_length (by rw [List.length_take]; omega)
  have hTc : (((allO m m []).take i).countP fun l => invG l == (tj : Int)) ≤ i := Nat.le_trans List.countP_le_length (by rw [List.length_take]; omega)
  obtain ⟨av, hav⟩ : ∃ v : Nat, (((allO m m []).take i).countP fun l => majL l == (mj : Int)) = v := ⟨_, rfl⟩
  obtain ⟨tv, htv⟩ : ∃ v : Nat, (((allO m m []).take i).countP fun l => invG l == (tj : Int)) = v := ⟨_, rfl⟩
  rw [hav] at hAv hAc
  rw [htv] at hTv hTc
  have HAV := Lib.hid hAv
  have HTV := Lib.hid hTv
  have hF : FoS w0 g m i (hisL majL ((allO m m []).take i)) (hisL invG ((allO m m []).take i)) i (seenF ((allO m m []).take i)) w := hI
  have HEND : Hid (∀ W, FoS w0 g m (i + 1) (hisL majL ((allO m m []).take i ++ [l])) (hisL invG ((allO m m []).take i ++ [l])) (i + 1) (seenF ((allO m m []).take i ++ [l])) W → FoI w0 g m (i + 1) W) := Lib.hid fun W h => by
    unfold FoI; rw [htk]; exact h
  obtain ⟨A, hA⟩ : ∃ A, hisL majL ((allO m m []).take i) = A := ⟨_, rfl⟩
  obtain ⟨T, hT⟩ : ∃ T, hisL invG ((allO m m []).take i) = T := ⟨_, rfl⟩
  obtain ⟨f, hf⟩ : ∃ f, seenF ((allO m m []).take i) = f := ⟨_, rfl⟩
  rw [hA] at HAN HALN HAV hF
  rw [hT] at HTN HTLN HTV hF
  rw [hf] at HNEW HSNO hF
  have HF := Lib.hid hF
  have HH1 := Lib.hid h1
  have HX := Lib.hid hx
  have HO := Lib.hid hO
  have HSO := Lib.hid hsO
  have HLL := Lib.hid hll
  have HSLL := Lib.hid hsl2
  have HMK : Hid (majK l (m - 1) = (mj : Int)) := Lib.hid (by rw [← hmj, majL, hll])
  have HM0 : Hid (majK l 0 = 0) := Lib.hid rfl
  have y0 := cellV hF.hg 0 rfl
  have hcap := h1.cap
  have hle := h1.le
  clear hl hI h1 hx hO hll htk hsO hsl hsl2 hck1 hck2 hm0 hm15 ht0 ht15 hmj htj hAv hTv hav htv hF hA hT hf
  go_enter Try.func59, Try.ntmps59
  go_wp2_with fail
  clear y0
  go_loopw [8, 7] (fun vi vo wr => ∃ k : Nat, k + 1 ≤ m ∧ vi = .int .i64 ((k : Int) + 1) ∧ vo = .int .i64 (majK l k) ∧ Below w.heap.size w wr) (fun vi _ _ => m - (intOf vi).toNat)
  case atStart => exact ⟨0, by omega, rfl, rfl, Below.refl _ _⟩
  case round =>
    obtain ⟨k, hk, rfl, rfl, hb⟩ := hrel
    have hF := HF.out.new hb
    have y1 := cellV hF.hn 0 rfl
    obtain ⟨hb0, hb1⟩ := majK_bd l k (by omega)
    by_cases hkn : k + 1 < m
    · have q1 : (k : Int) + 1 < (m : Int) := by omega
      have HR : Hid (majK l (k + 1) = if l.getD (k + 1) 0 < l.getD k 0 then majK l k + ((k : Int) + 1) else majK l k) := Lib.hid rfl
      obtain ⟨bb, oo, rfl⟩ := isG_addr HH1.out (by omega)
      have hw := HH1.out.below hb
      have x1 := at_isG hw (show k < m by omega)
      have x2 := at_isG hw hkn
      obtain ⟨va, hva⟩ : ∃ v, l.getD k 0 = v := ⟨_, rfl⟩
      obtain ⟨vb, hvb⟩ : ∃ v, l.getD (k + 1) 0 = v := ⟨_, rfl⟩
      rw [hva] at x1 HR
      rw [hvb] at x2 HR
      obtain ⟨mk, hmk⟩ : ∃ v, majK l k = v := ⟨_, rfl⟩
      rw [hmk] at HR hb0 hb1 ⊢
      have e3 : (k : Int) < (m : Int) := by omega
      have e5 : ((k : Int) + 1).toNat = k + 1 := by omega
      have e6 : IntKind.i64.wrap (k : Int) = (k : Int) := IntWalk.i64_in _ (by omega)
      clear hva hvb hmk hw hF
      by_cases hlt : vb < va
      · have q2 : decide (vb < va) = true := decide_eq_true hlt
        have HR2 : Hid (majK l (k + 1) = mk + ((k : Int) + 1)) := Lib.hid (by rw [HR.out, if_pos hlt])
        clear hlt HR
        go_wp2_with fail
        go_quiet (fail)
        go_wp2
        go_roundw
        case rel => first | exact ⟨k + 1, by omega, by go_num, by rw [HR2.out], belowN hb _⟩ | ((repeat apply Exists.intro); exact ⟨⟨k + 1, by omega, by go_num, by rw [HR2.out], belowN hb _⟩, rfl⟩)
        case measure => (simp [intOf] <;> omega)
      · have q2 : decide (vb < va) = false := decide_eq_false hlt
        have HR2 : Hid (majK l (k + 1) = mk) := Lib.hid (by rw [HR.out, if_neg hlt])
        clear hlt HR
        go_wp2_with fail
        go_quiet (fail)
        go_wp2
        go_roundw
        case rel => first | exact ⟨k + 1, by omega, by go_num, by rw [HR2.out], belowN hb _⟩ | ((repeat apply Exists.intro); exact ⟨⟨k + 1, by omega, by go_num, by rw [HR2.out], belowN hb _⟩, rfl⟩)
        case measure => (simp [intOf] <;> omega)
    · obtain rfl : m = k + 1 := by omega
      have hmk : majK l k = (mj : Int) := HMK.out
      rw [hmk]
      have hw1 := HH1.out.below hb
      clear hmk hb0 hb1 hF
      go_wp2_with fail
      refine (Major_c hw1 HCK1.out HMJ.out).mono ?_
      rintro e w1 ⟨rfl, b1⟩
      have hb2 := hb.trans (b1.mono hb.size)
      have hw2 := HH1.out.below hb2
      clear b1 hb hw1
      go_wp2_with fail
      refine (Shift_c hw2 HCK1.out HSH.out).mono ?_
      rintro e w2 ⟨aS, ns, cs, rfl, hS2, b2⟩
      obtain rfl : ns = k + 1 := by rw [← hS2.len]; exact HSLL.out
      have hb3 := hb2.trans (b2.mono hb2.size)
      have t1 : ((mj : Int) != (mj : Int)) = false := by simp
      have HS2 := Lib.hid hS2
      clear b2 hb2 hw2
      go_wp2_with fail
      refine (Check_c hS2 HCK2.out).mono ?_
      rintro e w3 ⟨rfl, b3⟩
      have hb4 := hb3.trans (b3.mono hb3.size)
      have hS3 := HS2.out.below b3
      have y2 := cellV (HF.out.new hb4).hn 0 rfl
      clear b3 hb3 hS2
      go_wp2_with fail
      refine (turned_set _ _ _ _ _ hS3 HSO.out (by omega)).mono ?_
      rintro e w4 ⟨s, rfl, hs, rfl⟩
      have HPS := Lib.hid (HFO.out s hs)
      have HSL := Lib.hid hs.lt
      clear hs
      go_wp2_with fail
      refine (size_any s _ HSL.out).mono ?_
      rintro e w5 ⟨rfl, rfl⟩
      rw [HPS.out]
      clear HPS HSL
      go_wp2_with fail
      refine (Back_c hS3 HCK2.out HBK.out).mono ?_
      rintro e w6 ⟨ab, nb, cb, rfl, hB6, b6⟩
      obtain rfl : nb = k + 1 := by rw [← hB6.len]; exact HLL.out
      have hb6 := hb4.trans (b6.mono hb4.size)
      have HS6 := Lib.hid (hS3.below b6)
      have HB6 := Lib.hid hB6
      have hcs := hS3.cap
      have hls := hS3.le
      clear hS3 hB6 b6 hb4 y2
      go_wp2_with fail
      go_loopw [84, 15] (fun vi vs wr => ∃ (q : Nat) (s0 : ByteArray), q ≤ k + 1 ∧ vi = .int .i64 (q : Int) ∧ vs = .string s0 ∧ s0.size ≤ 10 ∧ Hid (s0 = nameB ((shiftL l).take q)) ∧ w6 = wr) (fun vi _ _ => k + 1 - (intOf vi).toNat)
      case atStart => exact ⟨0, _, by omega, rfl, rfl, by decide, Lib.hid rfl, rfl⟩
      case round =>
        obtain ⟨q, s0, hq, rfl, rfl, hs0, hS0, rfl⟩ := hrel
        by_cases hqk : q < k + 1
        · have q3 : (q : Int) < (k : Int) + 1 := by omega
          obtain ⟨v, hv, hv6⟩ := HSLO.out q hqk
          obtain ⟨bs, os, rfl⟩ := isG_addr HS6.out (by omega)
          have x1 := at_isG HS6.out hqk
          rw [hv] at x1
          have hS1 : Hid (s0 ++ Utf8.encode (97 + (v : Int)) = nameB ((shiftL l).take (q + 1))) := Lib.hid (by
            have hql : q < (shiftL l).length := by have := HSLL.out; omega
            rw [List.take_succ_eq_append_getElem hql, nameB_snoc, ← hS0.out, show (shiftL l)[q] = (v : Int) by rw [← hv]; simp [List.getD, hql]])
          have hsz1 : Hid ((s0 ++ Utf8.encode (97 + (v : Int))).size ≤ 10) := Lib.hid (by
            rw [hS1.out, nameB_size _ (fun x hx => HSM.out x (List.mem_of_mem_take hx)), List.length_take]; omega)
          have q5 : ¬ 25 < v := by omega
          have w5 : IntKind.i64.wrap (97 + (v : Int)) = 97 + (v : Int) := IntWalk.i64_in _ (by omega)
          have w6' : IntKind.i32.wrap (97 + (v : Int)) = 97 + (v : Int) := IntWalk.i32_in _ (by omega)
          clear hv
          obtain ⟨E, hE⟩ : ∃ E, Utf8.encode (97 + (v : Int)) = E := ⟨_, rfl⟩
          rw [hE] at hS1 hsz1
          have hcv : ∀ W : World, (convert 21 9 (.int .i32 (97 + (v : Int)))).run Try.prog W = .ok (.string E) W := fun W => by
            rw [run_convert_int_string W 21 9 .i32 (97 + (v : Int)) (by rfl) (by rfl), hE]
          have hE4 : E.size ≤ 4 := by
            rw [← hE, enc_small (by omega) (by omega)]
            show 1 ≤ 4
            omega
          clear hE
          go_wp2_with fail
          go_roundw
          case rel => first | exact ⟨q + 1, _, by omega, by go_num, rfl, hsz1.out, hS1, by first | trivial | rfl⟩ | ((repeat apply Exists.intro); exact ⟨⟨q + 1, _, by omega, by go_num, rfl, hsz1.out, hS1, by first | trivial | rfl⟩, rfl⟩)
          case measure => (simp [intOf] <;> omega)
        · obtain rfl : q = k + 1 := by omega
          have hS9 : s0 = nmS l := by
            rw [hS0.out, List.take_of_length_le (by rw [HSLL.out]; exact Nat.le_refl _)]; rfl
          subst hS9
          have hw6 := HH1.out.below hb6
          clear hqk hS0 hs0
          go_wp2_with fail
          refine (same_c HB6.out hw6).mono ?_
          rintro e w7 ⟨rfl, b7⟩
          have hb7 := hb6.trans (b7.mono hb6.size)
          have hF7 := HF.out.new hb7
          have z4 := cellV hF7.hx 0 rfl
          have z5 := cellV hF7.hg 0 rfl
          have z6 := hF7.hg.frozen 0
          have hok : (nmS l).size ≤ maxLen := by
            unfold nmS
            rw [nameB_size _ HSM.out, HSLL.out]
            unfold maxLen; omega
          have hlk : (Instr.lookup 61 (.map (some (g + 3))) (.string (nmS l)) false).run Try.prog w7 = .ok (.bool false) w7 := by
            have := MapB.run Try.underlying61 Try.underlying4 (by rfl) hF7.hm (nmS l) hok
            rw [HNEW.out] at this
            exact this
          have hF8 := Lib.hid hF7.putg
          have A8 := Lib.hid (Above.setCell (Above.of_below hb7) (B := g + 6) (p := ⟨g + 5, 0, none⟩) (by show g + 5 < g + 6; omega) (.bool true))
          have HOK := Lib.hid hok
          obtain ⟨nm, hnm⟩ : ∃ nm, nmS l = nm := ⟨_, rfl⟩
          rw [hnm] at hlk HOK HNEW HSNO ⊢
          clear b7 hb6 hw6 hb7 hF7 hok hnm
          go_upto_region 19 with (fail)
          obtain ⟨W8, hW8⟩ : ∃ W, w7.setCell ⟨g + 5, 0, none⟩ (.bool true) = W := ⟨_, rfl⟩
          try simp only [hW8]
          rw [hW8] at hF8 A8
          clear hW8 z4 z5 z6 hlk
          have z4 := cellV hF8.out.hx 0 rfl
          go_wp2_with (refine wl_putB_new (E := encS) rfl (.tmp 110) (.tmp 111) (.const (.bool true)) rfl Try.underlying61 Try.underlying4 hF8.out.hm (by unfold maxLen; omega) rfl nm HOK.out HNEW.out rfl rfl ?_)
          intro w9 hM9 hg9
          have hF9 := hF8.out.putm hg9 hM9
          have A9 := A8.out.trans (above_grown hg9 (by omega : g + 3 < g + 6))
          have c1 := hF9.ha.cell mj 0 (by rw [HALN.out]; omega)
          rw [HAV.out] at c1
          have c2 := hF9.ha.frozen mj
          have hF10 := Lib.hid (hF9.puta mj ((av : Int) + 1))
          have A10 := Lib.hid (Above.setCell A9 (p := ⟨g + 1, mj, none⟩) (by show g + 1 < g + 6; omega) (.int .i64 ((av : Int) + 1)))
          have q6 : (mj : Int) < 16 := by omega
          clear hM9 hg9 hF9 A9 hF8 A8 z4
          go_upto_region 21 with (fail)
          obtain ⟨W10, hW10⟩ : ∃ W, w9.setCell ⟨g + 1, mj, none⟩ (.int .i64 ((av : Int) + 1)) = W := ⟨_, rfl⟩
          try simp only [hW10]
          rw [hW10] at hF10 A10
          clear hW10 c1 c2
          have hw10 := HH1.out.above A10.out HX.out
          have c1 := hF10.out.ht.cell tj 0 (by rw [HTLN.out]; omega)
          rw [HTV.out] at c1
          have c2 := hF10.out.ht.frozen tj
          have hF11 := Lib.hid (hF10.out.putt tj ((tv : Int) + 1))
          have A11 := Lib.hid (Above.setCell A10.out (p := ⟨g + 2, tj, none⟩) (by show g + 2 < g + 6; omega) (.int .i64 ((tv : Int) + 1)))
          have HFIN : Hid (FoI w0 g (k + 1) (i + 1) (W10.setCell ⟨g + 2, tj, none⟩ (.int .i64 ((tv : Int) + 1)))) := Lib.hid (HEND.out _ (by
            rw [HAN.out, HTN.out, HSNO.out, HAV.out, HTV.out]; exact hF11.out))
          have q7 : (tj : Int) < 16 := by omega
          clear hF10 A10 hF11
          go_wp2_with fail
          refine (turned_set _ _ _ _ _ hw10 HO.out (by omega)).mono ?_
          rintro e w11 ⟨t, rfl, ht2, rfl⟩
          have HPT := Lib.hid (HTO.out t ht2)
          have HTL := Lib.hid ht2.lt
          clear ht2 hw10
          go_wp2_with fail
          refine (size_any t _ HTL.out).mono ?_
          rintro e w12 ⟨rfl, rfl⟩
          rw [HPT.out]
          go_wp2_with fail
          go_end0
          exact ⟨rfl, HFIN.out, A11.out⟩
end Go.Proofs.Ytmcckngodaeojaa
