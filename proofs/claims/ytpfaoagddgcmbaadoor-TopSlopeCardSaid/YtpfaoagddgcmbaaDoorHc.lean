/- Walks of chapter 2: sorting heaps. -/
import Derived.Test.YtpfaoagddgcmbaaDoorHb
import Derived.Test.YtpfaoagddgcmbaaDoorHs
import Derived.Deep.RegionHeld3
import Derived.Deep.RegionWith
import Derived.BigQuiet
import Derived.Shelf.RegionOpenPlain
namespace Go.Proofs.YtpfaoagddgcmbaaDoor
open Go.RowKit Heap02

set_option maxHeartbeats 2000000 in
theorem cmp_any (x1 x2 y1 y2 : Int) (w : World) (hx : 0 ≤ x2 ∧ x2 ≤ 100) (hy : 0 ≤ y2 ∧ y2 ≤ 100) : Calls Tryd.prog 96 #[.agg #[.int .i64 x1, .int .i64 x2], .agg #[.int .i64 y1, .int .i64 y2]] w fun e w' => e = .returned (.int .i64 (x2 - y2)) ∧ Below w.heap.size w w' := by
  have w1 : IntKind.i64.wrap (x2 - y2) = x2 - y2 := IntWalk.i64_in _ (by omega)
  have hb : Below w.heap.size w ((w.alloc (.cells #[.int .i64 x1, .int .i64 x2] 27)).alloc (.cells #[.int .i64 y1, .int .i64 y2] 27)) := ((Below.refl _ w).alloc (Nat.le_refl _) _).alloc (by simp) _
  go_enter Tryd.func96, Tryd.ntmps96
  go_wp2
  go_ret
  exact ⟨rfl, hb⟩
/-- hours are small -/
def SmlH (L : List Hp) : Prop := ∀ x ∈ L, 0 ≤ x.1 ∧ x.1 ≤ 100 ∧ 0 ≤ x.2 ∧ x.2 ≤ 100
theorem SmlH.get {L : List Hp} (h : SmlH L) (i : Nat) : 0 ≤ (L.getD i (0, 0)).1 ∧ (L.getD i (0, 0)).1 ≤ 100 ∧ 0 ≤ (L.getD i (0, 0)).2 ∧ (L.getD i (0, 0)).2 ≤ 100 := by
  by_cases hi : i < L.length
  · rw [List.getD, List.getElem?_eq_getElem hi]; exact h _ (List.getElem_mem _)
  · rw [List.getD, List.getElem?_eq_none (by omega)]; simp

set_option maxHeartbeats 4000000 in
set_option maxRecDepth 100000 in
theorem insert_any (B b n c : Nat) (L : List Hp) (w : World) (h : OwnP w 27 B (some ⟨b, 0, none⟩) n c L) (h1 : 1 ≤ n) (h10 : n ≤ 12) (hS : SmlH L) :
    Calls Tryd.prog 126 #[.slice (some ⟨b, 0, none⟩) n c, .int .i64 0, .int .i64 n, .func (.func 96) #[] #[]] w fun e w' => e = .returned (.tuple #[]) ∧ ∃ L', OwnP w' 27 B (some ⟨b, 0, none⟩) n c L' ∧ L'.Perm L ∧ SrtK L' n ∧ But (fun k => k = b) w w' := by
  have hle := h.caps.1
  have hcap := h.caps.2
  have H0 := Lib.hid h
  have HS := Lib.hid hS
  clear h hS
  go_enter Tryd.func126, Tryd.ntmps126
  go_wp2_with fail
  go_loopw [8] (fun vi wr => ∃ (i : Nat) (L1 : List Hp), 1 ≤ i ∧ i ≤ n ∧ vi = .int .i64 (i : Int) ∧ Hid (OwnP wr 27 B (some ⟨b, 0, none⟩) n c L1) ∧ Hid (L1.Perm L) ∧ Hid (SrtK L1 i) ∧ But (fun k => k = b) w wr) (fun vi _ => n - (intOf vi).toNat)
  case atStart => exact ⟨1, L, by omega, h1, rfl, H0, Lib.hid (List.Perm.refl _), Lib.hid (fun x y h1 h2 => by omega), But.refl _ _⟩
  case round =>
    obtain ⟨i, L1, hi1, hin, rfl, hO, hP, hK, hB⟩ := hrel
    by_cases hlt : i < n
    · have q1 : (i : Int) < (n : Int) := by omega
      go_wp2_with fail
      go_loopw [9] (fun vj wr => ∃ (j : Nat) (L2 : List Hp), j ≤ i ∧ vj = .int .i64 (j : Int) ∧ Hid (OwnP wr 27 B (some ⟨b, 0, none⟩) n c L2) ∧ Hid (L2.Perm L) ∧ Hid (SrtJ L2 i j) ∧ But (fun k => k = b) w wr) (fun vj _ => (intOf vj).toNat)
      case atStart => exact ⟨i, L1, Nat.le_refl _, rfl, hO, hP, Lib.hid (SrtJ.start hK.out), hB⟩
      case round =>
        clear hO hP hK hB
        obtain ⟨j, L2, hj, rfl, hO, hP, hK, hB⟩ := hrel
        cases j with
        | zero =>
          have hK2 : Hid (SrtK L2 (i + 1)) := Lib.hid hK.out.done0
          have hO2 := Lib.hid (fun k => hO.out.below (belowN (Below.refl wr.heap.size wr) k))
          have hB2 := Lib.hid (fun k => hB.trans (But.of_below (X := fun k => k = b) (belowN (Below.refl wr.heap.size wr) k)))
          clear hB
          go_wp2_with fail
          go_quiet (fail)
          go_wp2_with fail
          exact ⟨⟨i + 1, L2, by omega, by omega, by go_num, Lib.hid (hO2.out _), hP, hK2, hB2.out _⟩, by simp [intOf]; omega⟩
        | succ m =>
          have q2 : (0 : Int) < (m : Int) + 1 := by omega
          have q3 : IntKind.i64.wrap ((m : Int) + 1 - 1) = (m : Int) := by rw [IntWalk.i64_in _ (by omega)]; omega
          have q4 : (m : Int) + 1 < (n : Int) := by omega
          have q6 : (0 : Int) ≤ (m : Int) + 1 := by omega
          have q7 : ((m : Int) + 1).toNat = m + 1 := by omega
          have q9 : IntKind.i64.wrap (m : Int) = (m : Int) := IntWalk.i64_in _ (by omega)
          have q5 : (m : Int) < (n : Int) := by omega
          obtain ⟨c1, c2⟩ := hO.out.cell (m + 1) (by omega)
          obtain ⟨d1, d2⟩ := hO.out.cell m (by omega)
          have sx := HS.out
          have hP2 := hP.out
          have hsL : SmlH L2 := fun x hx => sx x (hP2.subset hx)
          have s1 := (hsL.get (m + 1)).2.2
          have s2 := (hsL.get m).2.2
          have HT1 : Hid (toK L2 (m + 1) = (L2.getD (m + 1) (0, 0)).2) := Lib.hid rfl
          have HT2 : Hid (toK L2 m = (L2.getD m (0, 0)).2) := Lib.hid rfl
          have HSW : Hid (swpP L2 m = (L2.set (m + 1) (L2.getD m (0, 0))).set m (L2.getD (m + 1) (0, 0))) := Lib.hid rfl
          obtain ⟨⟨u1, u2⟩, hu⟩ : ∃ u, L2.getD (m + 1) (0, 0) = u := ⟨_, rfl⟩
          obtain ⟨⟨v1, v2⟩, hv⟩ : ∃ v, L2.getD m (0, 0) = v := ⟨_, rfl⟩
          rw [hu] at c1 c2 s1 HT1 HSW
          rw [hv] at d1 d2 s2 HT2 HSW
          simp only [] at c1 c2 d1 d2 s1 s2 HT1 HT2
          have HU := Lib.hid hu
          have HV := Lib.hid hv
          clear hu hv sx hP2 hsL
          have hbl := World.block_lt_of_cell? _ _ c1
          simp only [] at hbl
          have HKP : Hid (∀ w', Below wr.heap.size wr.drew w' → w'.cell? ⟨b, (m + 1) * 2, none⟩ = some (.int .i64 u1) ∧ w'.cell? ⟨b, (m + 1) * 2 + 1, none⟩ = some (.int .i64 u2) ∧ w'.cell? ⟨b, m * 2, none⟩ = some (.int .i64 v1) ∧ w'.cell? ⟨b, m * 2 + 1, none⟩ = some (.int .i64 v2)) := Lib.hid (fun w' bb => ⟨(bb.cell (p := ⟨b, (m + 1) * 2, none⟩) hbl).trans c1, (bb.cell (p := ⟨b, (m + 1) * 2 + 1, none⟩) hbl).trans c2, (bb.cell (p := ⟨b, m * 2, none⟩) hbl).trans d1, (bb.cell (p := ⟨b, m * 2 + 1, none⟩) hbl).trans d2⟩)
          go_wp2_with fail
          go_region_held3 (fun w' => w'.cell? ⟨b, (m + 1) * 2, none⟩ = some (.int .i64 u1) ∧ w'.cell? ⟨b, (m + 1) * 2 + 1, none⟩ = some (.int .i64 u2) ∧ w'.cell? ⟨b, m * 2, none⟩ = some (.int .i64 v1) ∧ w'.cell? ⟨b, m * 2 + 1, none⟩ = some (.int .i64 v2)) (first | go_keep | exact HKP.out _ b5) (first | (go_at_call 96; refine (cmp_any _ _ _ _ _ s1 s2).mono ?_; rintro e w5 ⟨rfl, b5⟩))
          have hO5 := (hO.out.drew).below b5
          have hB5 := (hB.trans (But.of_below (X := fun k => k = b) (Below.refl wr.heap.size wr).drew)).trans (But.of_below (X := fun k => k = b) b5)
          clear hO hB b5 HKP c1 c2 d1 d2
          obtain ⟨c1, c2⟩ := hO5.cell (m + 1) (by omega)
          obtain ⟨d1, d2⟩ := hO5.cell m (by omega)
          rw [HU.out] at c1 c2
          rw [HV.out] at d1 d2
          simp only [] at c1 c2 d1 d2
          by_cases hlt2 : u2 < v2
          · have t1 : decide (u2 - v2 < 0) = true := by simp; omega
            have hK2 : Hid (SrtJ (swpP L2 m) i m) := Lib.hid (hK.out.step (by rw [hO5.len]; exact hlt) (by rw [HT1.out, HT2.out]; exact hlt2))
            have hP2 : Hid ((swpP L2 m).Perm L) := Lib.hid ((swpP_perm L2 m (by rw [hO5.len]; omega)).trans hP.out)
            have f1 := hO5.frozenP ((m + 1) * 2)
            have f2 := hO5.frozenP ((m + 1) * 2 + 1)
            have f3 := hO5.frozenP (m * 2)
            have f4 := hO5.frozenP (m * 2 + 1)
            have HS5 : Hid (OwnP ((((w5.setCell ⟨b, (m + 1) * 2, none⟩ (.int .i64 v1)).setCell ⟨b, (m + 1) * 2 + 1, none⟩ (.int .i64 v2)).setCell ⟨b, m * 2, none⟩ (.int .i64 u1)).setCell ⟨b, m * 2 + 1, none⟩ (.int .i64 u2)) 27 B (some ⟨b, 0, none⟩) n c (swpP L2 m)) := Lib.hid (by
              have := (hO5.set (m + 1) (v1, v2) (by omega)).set m (u1, u2) (by omega)
              rw [← HSW.out] at this
              exact this)
            have HB6 : Hid (But (fun k => k = b) w ((((w5.setCell ⟨b, (m + 1) * 2, none⟩ (.int .i64 v1)).setCell ⟨b, (m + 1) * 2 + 1, none⟩ (.int .i64 v2)).setCell ⟨b, m * 2, none⟩ (.int .i64 u1)).setCell ⟨b, m * 2 + 1, none⟩ (.int .i64 u2))) := Lib.hid ((((hB5.setCell (p := ⟨b, (m + 1) * 2, none⟩) rfl (.int .i64 v1)).setCell (p := ⟨b, (m + 1) * 2 + 1, none⟩) rfl (.int .i64 v2)).setCell (p := ⟨b, m * 2, none⟩) rfl (.int .i64 u1)).setCell (p := ⟨b, m * 2 + 1, none⟩) rfl (.int .i64 u2))
            have t2 : u2 - v2 < 0 := by omega
            clear hO5 hB5 hP hK HU HV HSW HT1 HT2
            go_wp2_with fail
            have mixed : Tryd.prog.follows Departure.mixedOrders = true := by kernel_rfl
            go_big_region_o
            go_wp2
            go_roundw
            case rel => exact ⟨m, swpP L2 m, by omega, by go_num, Lib.hid HS5.out.drew, hP2, hK2, HB6.out.trans (But.of_below (Below.refl _ _).drew)⟩
            case measure => simp [intOf]
          · have t1 : decide (u2 - v2 < 0) = false := by simp; omega
            have hK2 : Hid (SrtK L2 (i + 1)) := Lib.hid (hK.out.done (by rw [HT1.out, HT2.out]; omega))
            have HO5 := Lib.hid hO5
            clear c1 c2 d1 d2 hO5
            go_wp2_with fail
            exact ⟨⟨i + 1, L2, by omega, by omega, by go_num, HO5, hP, hK2, hB5⟩, by simp [intOf]; omega⟩
    · obtain rfl : i = n := by omega
      go_wp2_with fail
      go_end0
      exact ⟨rfl, L1, hO.out, hP.out, hK.out, hB⟩
end Go.Proofs.YtpfaoagddgcmbaaDoor
