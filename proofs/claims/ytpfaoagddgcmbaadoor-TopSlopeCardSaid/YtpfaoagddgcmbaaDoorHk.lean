/- Walks of chapter 2: the first plan. -/
import Derived.Test.YtpfaoagddgcmbaaDoorHj
namespace Heap02
abbrev dupH (t : Int) : Hp := (t, t)
/-- the heaps while they are fixed: so many are fixed, one is being tried -/
def nowL (O : List Int) (L : List Hp) (z : Hp) : List Hp := O.map dupH ++ z :: L.drop (O.length + 1)
theorem now_start {O : List Int} {L : List Hp} (h : O.length < L.length) : O.map dupH ++ L.drop O.length = nowL O L (L.getD O.length (0, 0)) := by
  unfold nowL
  rw [List.drop_eq_getElem_cons h]; simp [List.getD, h]
theorem now_set (O : List Int) (L : List Hp) (z z' : Hp) : (nowL O L z).set O.length z' = nowL O L z' := by
  unfold nowL
  rw [List.set_append_right _ _ (by simp)]; simp
theorem now_next (O : List Int) (L : List Hp) (t : Int) : nowL O L (t, t) = (O ++ [t]).map dupH ++ L.drop (O ++ [t]).length := by
  unfold nowL; simp
theorem now_sml {O : List Int} {L : List Hp} {z : Hp} (hO : ∀ t ∈ O, 0 ≤ t ∧ t ≤ 23) (hL : ∀ x ∈ L, 0 ≤ x.1 ∧ x.1 ≤ x.2 ∧ x.2 ≤ 23) (hz : 0 ≤ z.1 ∧ z.1 ≤ 23 ∧ 0 ≤ z.2 ∧ z.2 ≤ 23) : ∀ x ∈ nowL O L z, 0 ≤ x.1 ∧ x.1 ≤ 100 ∧ 0 ≤ x.2 ∧ x.2 ≤ 100 := by
  intro x hx
  rcases List.mem_append.1 hx with hx | hx
  · obtain ⟨t, ht, rfl⟩ := List.mem_map.1 hx
    have := hO t ht
    show 0 ≤ t ∧ t ≤ 100 ∧ 0 ≤ t ∧ t ≤ 100
    omega
  · rcases List.mem_cons.1 hx with rfl | hx
    · omega
    · have := hL x (List.mem_of_mem_drop hx); omega
end Heap02
namespace Go.Proofs.YtpfaoagddgcmbaaDoor
open Go.RowKit Heap02
/-- a plan: different hours, each within its heap's -/
structure PlanO (L : List Hp) (O : List Int) : Prop where
  nd : O.Nodup
  bd : ∀ i, i < L.length → (L.getD i (0, 0)).1 ≤ O.getD i 0 ∧ O.getD i 0 ≤ (L.getD i (0, 0)).2
set_option maxHeartbeats 8000000 in
set_option maxRecDepth 100000 in
theorem Plan_any (a : Option Addr) (n c : Nat) (L : List Hp) (w : World) (h : IsH w a n c L) (hn : 1 ≤ n) (h10 : n ≤ 10) (hK : OkH L) (hF : Feas 0 L) :
    Calls Tryd.prog 12 #[.slice a n c, .int .i64 1] w fun e w' => ∃ a' c' O, e = .returned (.tuple #[.slice a' n c', .int .i64 0]) ∧ OwnL w' 3 w.heap.size a' n c' O ∧ Below w.heap.size w w' ∧ PlanO L O := by
  have hle := h.le
  have hcap := h.cap
  have hl := h.len
  have HL := Lib.hid hl
  have HH := Lib.hid h
  have HK := Lib.hid hK
  have HF := Lib.hid hF
  have HHA := Lib.hid (handed_any a n c L w h h10 hK)
  clear h hK hF hl
  go_enter Tryd.func12, Tryd.ntmps12
  go_wp2_with fail
  refine HHA.out.mono ?_
  rintro e w1 ⟨rfl, b1⟩
  have h1 := HH.out.below b1
  clear HHA
  go_wp2_with fail
  refine (possible_any a n c L w1 h1 hn (by omega) HK.out.sml true ⟨fun _ => HF.out, fun _ => rfl⟩).mono ?_
  rintro e w2 ⟨rfl, b2⟩
  have k2 := b1.trans (b2.mono b1.size)
  have h2 := HH.out.below k2
  clear h1 b1 b2
  go_wp2_with fail
  refine (CloneH_any a n c L w2 h2 hn (by omega)).mono ?_
  rintro e w3 ⟨nb, nc, rfl, hO, b3⟩
  have k3 := k2.trans (b3.mono k2.size)
  have HO : Hid (OwnP w3 27 w.heap.size (some ⟨nb, 0, none⟩) n nc (([] : List Int).map dupH ++ L.drop ([] : List Int).length)) := Lib.hid (by simpa using hO.weakenP k2.size)
  have HF0 : Hid (Feas 0 (([] : List Int).map dupH ++ L.drop ([] : List Int).length)) := Lib.hid (by simpa using HF.out)
  clear h2 b3 k2 hO HF
  go_wp2_with fail
  go_loopw [28, 8] (fun vk vo wr => ∃ (k : Nat) (O : List Int) (a1 : Option Addr) (c1 : Nat), k ≤ n ∧ vk = .int .i64 (k : Int) ∧ vo = .slice a1 k c1 ∧ Hid (OwnL wr 3 w.heap.size a1 k c1 O) ∧ Hid (OwnP wr 27 w.heap.size (some ⟨nb, 0, none⟩) n nc (O.map dupH ++ L.drop O.length)) ∧ Sep (some ⟨nb, 0, none⟩) a1 ∧ Hid (Feas 0 (O.map dupH ++ L.drop O.length)) ∧ Hid (∀ i, i < k → (L.getD i (0, 0)).1 ≤ O.getD i 0 ∧ O.getD i 0 ≤ (L.getD i (0, 0)).2) ∧ Below w.heap.size w wr) (fun vk _ _ => n - (intOf vk).toNat)
  case atStart => exact ⟨0, [], none, 0, by omega, rfl, rfl, Lib.hid (OwnL.nilL _ _ _), HO, Sep.none_right _, HF0, Lib.hid (fun i hi => by omega), k3⟩
  case round =>
    clear HO HF0 k3
    obtain ⟨k, O, a1, c1, hk, rfl, rfl, hO, hN, hsep, hF, hbd, hb⟩ := hrel
    by_cases hlt : k < n
    · have q1 : (k : Int) < (n : Int) := by omega
      have hOl : O.length = k := hO.out.len
      have hns := now_start (O := O) (L := L) (by rw [hOl, HL.out]; exact hlt)
      rw [hOl] at hns
      obtain ⟨g1, g2, g3⟩ := HK.out.get k (by rw [HL.out]; exact hlt)
      have hkk := HH.out.below hb
      obtain ⟨hb', rfl, _, hc⟩ := hkk.cells (by omega)
      obtain ⟨c1', c2'⟩ := hc k hlt
      obtain ⟨⟨x, y⟩, hx⟩ : ∃ x, L.getD k (0, 0) = x := ⟨_, rfl⟩
      rw [hx] at c1' c2' g1 g2 g3 hns
      simp only [] at c1' c2' g1 g2 g3
      have hFx := hF.out
      rw [hOl, hns] at hFx
      obtain ⟨t, t1, t2, t3, hFt⟩ := Feas.fix hFx
      have hN2 := hN.out
      rw [hOl, hns] at hN2
      have hbO : Hid (∀ u ∈ O, 0 ≤ u ∧ u ≤ 23) := Lib.hid (fun u hu => by
        obtain ⟨i, hi, rfl⟩ := List.mem_iff_getElem.1 hu
        have h1 := hbd.out i (by omega)
        rw [List.getD, List.getD, List.getElem?_eq_getElem hi] at h1
        have h2 := HK.out.get i (by rw [HL.out]; omega)
        simp only [Option.getD_some, List.getD] at h1 h2
        omega)
      have hN3 : Hid (OwnP (wr.alloc (.cells #[.int .i64 x, .int .i64 y] 27)) 27 w.heap.size (some ⟨nb, 0, none⟩) n nc (nowL O L (x, y))) := Lib.hid (hN2.alloc _)
      have hO3 : Hid (OwnL (wr.alloc (.cells #[.int .i64 x, .int .i64 y] 27)) 3 w.heap.size a1 k c1 O) := Lib.hid (hO.out.alloc _)
      have hA3 : Hid (ArrV VT (wr.alloc (.cells #[.int .i64 x, .int .i64 y] 27)) wr.heap.size 27 [.int .i64 x, .int .i64 y]) := Lib.hid (ArrV.new (f := VT) wr _ _ _ _ rfl rfl)
      have hb3 : Below w.heap.size w (wr.alloc (.cells #[.int .i64 x, .int .i64 y] 27)) := hb.alloc hb.size _
      have HX := Lib.hid hx
      have HFT := Lib.hid hFt
      have HOL := Lib.hid hOl
      have ht : ∃ T : Nat, t = (T : Int) := ⟨t.toNat, by omega⟩
      obtain ⟨T, rfl⟩ := ht
      have hxn : ∃ X : Nat, x = (X : Int) := ⟨x.toNat, by omega⟩
      obtain ⟨X, rfl⟩ := hxn
      have HNB : Hid (wr.heap.size ≠ nb) := Lib.hid (by have := (hN.out.ltP _ rfl).2; simp only [] at this; omega)
      clear hc hkk hN hN2 hFx hns hOl hx hFt hO hb hF
      go_wp2_with fail
      obtain ⟨gx, hgx⟩ : ∃ g, wr.heap.size = g := ⟨_, rfl⟩
      rw [hgx] at HNB
      have hA3 : Hid (ArrV VT (wr.alloc (.cells #[.int .i64 (X : Int), .int .i64 y] 27)) gx 27 [.int .i64 (X : Int), .int .i64 y]) := Lib.hid (by rw [← hgx]; exact hA3.out)
      simp only [hgx]
      clear hgx
      go_loopw [11, 8] (fun vh vo wr => ∃ (hr : Nat) (z : Hp), hr ≤ T ∧ vh = .int .i64 (hr : Int) ∧ vo = .slice a1 k c1 ∧ (X : Int) ≤ (hr : Int) ∧ Hid (OwnP wr 27 w.heap.size (some ⟨nb, 0, none⟩) n nc (nowL O L z)) ∧ Hid (OwnL wr 3 w.heap.size a1 k c1 O) ∧ Hid (ArrV VT wr gx 27 [.int .i64 (X : Int), .int .i64 y]) ∧ Below w.heap.size w wr) (fun vh _ _ => 24 - (intOf vh).toNat)
      case atStart => exact ⟨X, (X, y), by omega, rfl, rfl, by omega, hN3, hO3, hA3, hb3⟩
      case round =>
        clear hN3 hO3 hA3 hb3 c1' c2'
        obtain ⟨hr, z, hrT, rfl, rfl, hXr, hN, hO, hA, hb⟩ := hrel
        have y1 := cellT hA.out 1 rfl
        have q2 : (hr : Int) ≤ y := by omega
        have q3 : ((hr : Int) : Int) ≤ 23 := by omega
        have f1 := hN.out.frozenP (k * 2)
        have f2 := hN.out.frozenP (k * 2 + 1)
        obtain ⟨d1, d2⟩ := hN.out.cell k hlt
        have hsw := hb.size
        have hnw := (hN.out.ltP _ rfl)
        simp only [] at hnw
        have hlk : k = O.length := HOL.out.symm
        have HS4 : Hid (OwnP ((wr.setCell ⟨nb, k * 2, none⟩ (.int .i64 (hr : Int))).setCell ⟨nb, k * 2 + 1, none⟩ (.int .i64 (hr : Int))) 27 w.heap.size (some ⟨nb, 0, none⟩) n nc (nowL O L ((hr : Int), (hr : Int)))) := Lib.hid (by
          have := hN.out.set k ((hr : Int), (hr : Int)) hlt
          rw [show (nowL O L z).set k ((hr : Int), (hr : Int)) = nowL O L ((hr : Int), (hr : Int)) by rw [hlk]; exact now_set O L z _] at this
          exact this)
        have hg4 : wr.grownBy ((wr.setCell ⟨nb, k * 2, none⟩ (.int .i64 (hr : Int))).setCell ⟨nb, k * 2 + 1, none⟩ (.int .i64 (hr : Int))) (some nb) := grown_trans (grown_setCell wr nb _ _) (grown_setCell _ nb _ _)
        have HO4 : Hid (OwnL ((wr.setCell ⟨nb, k * 2, none⟩ (.int .i64 (hr : Int))).setCell ⟨nb, k * 2 + 1, none⟩ (.int .i64 (hr : Int))) 3 w.heap.size a1 k c1 O) := Lib.hid (hO.out.grownS hg4 hsep.symm)
        have hAne : gx ≠ nb := HNB.out
        have HA4 : Hid (ArrV VT ((wr.setCell ⟨nb, k * 2, none⟩ (.int .i64 (hr : Int))).setCell ⟨nb, k * 2 + 1, none⟩ (.int .i64 (hr : Int))) gx 27 [.int .i64 (X : Int), .int .i64 y]) := Lib.hid (hA.out.grown hg4 (by simpa using hAne))
        have hb4 := hb.grown hg4 hsw (fun q hq => by cases hq; exact hnw.1)
        have HSM : Hid (SmlH (nowL O L ((hr : Int), (hr : Int)))) := Lib.hid (now_sml hbO.out HK.out ⟨by omega, by omega, by omega, by omega⟩)
        clear hN hO hA hb hg4 hlk hnw hsw
        by_cases hf : Feas 0 (nowL O L ((hr : Int), (hr : Int)))
        · have HFF := Lib.hid hf
          clear hf
          go_wp2_with fail
          generalize ((wr.setCell ⟨nb, k * 2, none⟩ (.int .i64 (hr : Int))).setCell ⟨nb, k * 2 + 1, none⟩ (.int .i64 (hr : Int))) = w5 at *
          refine (possible_any _ n nc _ w5 HS4.out.isH hn (by omega) HSM.out true ⟨fun _ => HFF.out, fun _ => rfl⟩).mono ?_
          rintro e w6 ⟨rfl, b6⟩
          have hO6 := HO4.out.below b6
          have hN6 := HS4.out.below b6
          have hb6 := hb4.trans (b6.mono hb4.size)
          have hsz6 := hb6.size
          have hn6 := (hN6.ltP _ rfl).2
          simp only [] at hn6
          clear HO4 HS4 HA4 hb4 b6 y1 f1 f2 d1 d2
          have G1 : w.heap.size ≤ (w6.alloc (.cells #[.int .i64 (hr : Int)] 3)).heap.size := by simp; omega
          have G2 : k + 1 ≤ 17592186044416 := by omega
          have G3 := hO6.alloc (.cells #[.int .i64 (hr : Int)] 3)
          have G4 := isL_one w6 (hr : Int) 3
          go_wp2_with (at_builtin; refine wl_app_own Tryd.underlying23 elem3 w.heap.size (.tmp 50) (.tmp 52) rfl rfl rfl rfl G3 G4 G1 G2 ?_)
          intro a7 c7 w7 o7 g7 b7 v7
          have hN7 := (hN6.alloc (.cells #[.int .i64 (hr : Int)] 3)).grownP g7 hsep
          have hS7 : Sep (some ⟨nb, 0, none⟩) a7 := (hsep.symm.via v7 (fun x hx => by cases hx; simp; omega)).symm
          have hb7 := (hb6.alloc hsz6 (.cells #[.int .i64 (hr : Int)] 3)).trans b7
          have HN7 : Hid (OwnP w7 27 w.heap.size (some ⟨nb, 0, none⟩) n nc ((O ++ [(hr : Int)]).map dupH ++ L.drop (O ++ [(hr : Int)]).length)) := Lib.hid (by rw [← now_next]; exact hN7)
          have HF7 : Hid (Feas 0 ((O ++ [(hr : Int)]).map dupH ++ L.drop (O ++ [(hr : Int)]).length)) := Lib.hid (by rw [← now_next]; exact HFF.out)
          have HO7 := Lib.hid o7
          have HB7 : Hid (∀ i, i < k + 1 → (L.getD i (0, 0)).1 ≤ (O ++ [(hr : Int)]).getD i 0 ∧ (O ++ [(hr : Int)]).getD i 0 ≤ (L.getD i (0, 0)).2) := Lib.hid (fun i hi => by
            by_cases e : i = k
            · subst e
              have : (O ++ [(hr : Int)]).getD i 0 = (hr : Int) := by rw [← HOL.out]; simp [List.getD]
              rw [this, HX.out]
              exact ⟨hXr, q2⟩
            · have : (O ++ [(hr : Int)]).getD i 0 = O.getD i 0 := by
                rw [List.getD, List.getD, List.getElem?_append_left (by rw [HOL.out]; omega)]
              rw [this]
              exact hbd.out i (by omega))
          clear hN6 hN7 hO6 o7 g7 b7 v7 hb6 hbd hsep
          go_wp2_with fail
          exact ⟨⟨k + 1, O ++ [(hr : Int)], a7, c7, by omega, by go_num, rfl, HO7, HN7, hS7, HF7, HB7, hb7⟩, by simp [intOf]; omega⟩
        · have hne : hr ≠ T := fun e => hf (by rw [e]; exact HFT.out)
          have HFF := Lib.hid hf
          clear hf
          go_wp2_with fail
          generalize ((wr.setCell ⟨nb, k * 2, none⟩ (.int .i64 (hr : Int))).setCell ⟨nb, k * 2 + 1, none⟩ (.int .i64 (hr : Int))) = w5 at *
          refine (possible_any _ n nc _ w5 HS4.out.isH hn (by omega) HSM.out false ⟨fun h => Bool.noConfusion h, fun h => absurd h HFF.out⟩).mono ?_
          rintro e w6 ⟨rfl, b6⟩
          have HO6 := Lib.hid (HO4.out.below b6)
          have HN6 := Lib.hid (HS4.out.below b6)
          have HA6 := Lib.hid (HA4.out.below b6)
          have hb6 := hb4.trans (b6.mono hb4.size)
          have w9 : IntKind.i64.wrap ((hr : Int) + 1) = (hr : Int) + 1 := IntWalk.i64_in _ (by omega)
          clear HO4 HS4 HA4 hb4 b6 y1 f1 f2 d1 d2
          go_wp2_with fail
          go_roundw
          case rel => first | exact ⟨hr + 1, ((hr : Int), (hr : Int)), by omega, by go_num, rfl, by omega, HN6, HO6, HA6, hb6⟩ | ((repeat apply Exists.intro); exact ⟨⟨hr + 1, ((hr : Int), (hr : Int)), by omega, by go_num, rfl, by omega, HN6, HO6, HA6, hb6⟩, rfl⟩)
          case measure => (simp [intOf] <;> omega)
    · obtain rfl : k = n := by omega
      have hOl : O.length = k := hO.out.len
      have HP : Hid (PlanO L O) := Lib.hid ⟨by
        have h1 := hF.out
        rw [List.drop_of_length_le (by rw [HL.out]; omega), List.append_nil] at h1
        exact Feas.fixed h1, fun i hi => hbd.out i (by rw [HL.out] at hi; exact hi)⟩
      clear hN hF hbd hOl
      go_wp2_with fail
      go_ret2
      exact ⟨a1, c1, O, rfl, hO.out, hb, HP.out⟩
end Go.Proofs.YtpfaoagddgcmbaaDoor
