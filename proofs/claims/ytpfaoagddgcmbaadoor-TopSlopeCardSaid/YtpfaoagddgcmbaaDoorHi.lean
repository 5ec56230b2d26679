/- Walks of chapter 2: can all heaps be turned? -/
import Derived.Test.YtpfaoagddgcmbaaDoorHf
import Derived.Deep.LoopGhost
namespace Heap02
theorem sorted_after {A C : List Hp} {x : Hp} {n : Nat} (h : SrtK (A ++ x :: C) n) (hn : (A ++ x :: C).length = n) : ∀ y ∈ C, x.2 ≤ y.2 := by
  intro y hy
  obtain ⟨i, hi, rfl⟩ := List.mem_iff_getElem.1 hy
  have := h A.length (A.length + 1 + i) (by omega) (by rw [← hn]; simp; omega)
  unfold toK at this
  rw [List.getD, List.getD, List.getElem?_append_right (Nat.le_refl _), List.getElem?_append_right (by omega), Nat.sub_self, show A.length + 1 + i - A.length = i + 1 by omega] at this
  simpa [hi] using this
theorem srt_sub {A C : List Hp} {x : Hp} (h : SrtK (A ++ x :: C) (A ++ x :: C).length) : SrtK (A ++ C) (A ++ C).length := by
  intro i j hij hj
  have key : ∀ k, k < (A ++ C).length → toK (A ++ C) k = toK (A ++ x :: C) (if k < A.length then k else k + 1) := fun k hk => by
    unfold toK
    by_cases hka : k < A.length
    · rw [if_pos hka, List.getD, List.getD, List.getElem?_append_left hka, List.getElem?_append_left hka]
    · rw [if_neg hka, List.getD, List.getD, List.getElem?_append_right (by omega), List.getElem?_append_right (by omega), show k + 1 - A.length = (k - A.length) + 1 by omega, List.getElem?_cons_succ]
  rw [key i (by omega), key j hj]
  have hl : (A ++ x :: C).length = (A ++ C).length + 1 := by simp; omega
  refine h _ _ ?_ ?_
  · split <;> split <;> omega
  · rw [hl]; split <;> omega
end Heap02
namespace Go.Proofs.YtpfaoagddgcmbaaDoor
open Go.RowKit Heap02
/-- what is left at an hour: sorted, none too late, and as feasible as the heaps were -/
structure LeftH (L M : List Hp) (h : Int) : Prop where
  srt : SrtK M M.length
  late : ∀ x ∈ M, h ≤ x.2
  sml : SmlH M
  iff : Feas 0 L ↔ Feas h M
theorem LeftH.step {L M M' : List Hp} {h : Int} (hL : LeftH L M h) (hD : DelR h M M') : SrtK M' M'.length ∧ SmlH M' ∧ (Feas 0 L ↔ Feas (h + 1) M') := by
  rcases hD with ⟨rfl, hno⟩ | ⟨A, x, C, rfl, rfl, hx, hA⟩
  · exact ⟨hL.srt, hL.sml, hL.iff.trans (Feas.skip hno)⟩
  · refine ⟨srt_sub hL.srt, fun y hy => hL.sml y ?_, hL.iff.trans (Feas.take hx (hL.late x (by simp)) hA (sorted_after hL.srt rfl))⟩
    rcases List.mem_append.1 hy with hy | hy
    · simp [hy]
    · simp [hy]
theorem LeftH.bad {L M M' : List Hp} {h : Int} (hL : LeftH L M h) (hD : DelR h M M') (hp : 0 < M'.length) (hb : (M'.getD 0 (0, 0)).2 ≤ h) : ¬ Feas 0 L := by
  obtain ⟨_, _, hi⟩ := hL.step hD
  rw [hi]
  have hm : M'.getD 0 (0, 0) ∈ M' := by rw [List.getD, List.getElem?_eq_getElem hp]; exact List.getElem_mem _
  exact Feas.dead hm (by omega)
theorem LeftH.good {L M M' : List Hp} {h : Int} (hL : LeftH L M h) (hD : DelR h M M') (hb : 0 < M'.length → ¬ (M'.getD 0 (0, 0)).2 ≤ h) : LeftH L M' (h + 1) := by
  obtain ⟨h1, h2, hi⟩ := hL.step hD
  refine ⟨h1, fun x hx => ?_, h2, hi⟩
  obtain ⟨i, hi', rfl⟩ := List.mem_iff_getElem.1 hx
  have h0 := hb (by omega)
  by_cases h00 : i = 0
  · subst h00
    rw [List.getD, List.getElem?_eq_getElem hi'] at h0
    simp only [Option.getD_some] at h0
    omega
  · have := h1 0 i (by omega) hi'
    unfold toK at this
    rw [List.getD, List.getD, List.getElem?_eq_getElem (show i < M'.length from hi'), List.getElem?_eq_getElem (show 0 < M'.length by omega)] at this
    rw [List.getD, List.getElem?_eq_getElem (show 0 < M'.length by omega)] at h0
    simp only [Option.getD_some] at this h0
    omega
theorem LeftH.start {L M : List Hp} (hp : M.Perm L) (hs : SrtK M M.length) (hS : SmlH L) : LeftH L M 0 :=
  ⟨hs, fun x hx => (hS x (hp.subset hx)).2.2.1, fun x hx => hS x (hp.subset hx), (Feas.perm_iff hp).symm⟩
set_option maxHeartbeats 2000000 in
set_option maxRecDepth 100000 in
theorem CloneH_any (a : Option Addr) (n c : Nat) (L : List Hp) (w : World) (h : IsH w a n c L) (hn : 1 ≤ n) (hs : n ≤ 1000) : Calls Tryd.prog 53 #[.slice a n c] w fun e w' => ∃ b' c', e = .returned (.slice (some ⟨b', 0, none⟩) n c') ∧ OwnP w' 27 w.heap.size (some ⟨b', 0, none⟩) n c' L ∧ Below w.heap.size w w' := by
  obtain ⟨b, rfl, hb0, hc⟩ := h.cells (by omega)
  have hB : OwnP (w.alloc (.cells #[] 27)) 27 w.heap.size (some ⟨w.heap.size, 0, none⟩) 0 0 [] :=
    ⟨rfl, .inr ⟨w.heap.size, 0, _, rfl, Nat.le_refl _, heap_alloc_new w _, Nat.le_refl _, by unfold maxLen; omega, rfl, rfl⟩⟩
  have h2 := h.alloc (.cells #[] 27)
  clear hc
  have e1 : (binOp .eql 25 (.slice (some ⟨b, 0, none⟩) n c) (.slice none 0 0)).run Tryd.prog w = .ok (.bool false) w := by rw [Lib.run_eql_slice_nil w 25 27 _ _ _ _ _ Tryd.underlying25]; rfl
  go_enter Tryd.func53, Tryd.ntmps53
  go_wp2_with (at_builtin; refine wl_app_heaps Tryd.underlying25 info27 w.heap.size (.tmp 5) (.tmp 6) rfl rfl rfl rfl hB h2 (by omega) (by simp) (by omega) ?_)
  intro a2 c2 w2 ho hg hb2
  have hbb := ((Below.refl _ w).alloc (Nat.le_refl _) (.cells #[] 27)).trans hb2
  obtain ⟨g, rfl, _, _⟩ := ho.addr (by omega)
  clear hg hb2
  go_wp2
  go_ret
  exact ⟨g, c2, rfl, ho, hbb⟩
set_option maxHeartbeats 8000000 in
set_option maxRecDepth 100000 in
theorem possible_any (a : Option Addr) (n c : Nat) (L : List Hp) (w : World) (h : IsH w a n c L) (hn : 1 ≤ n) (h12 : n ≤ 12) (hS : SmlH L) (Bv : Bool) (hBv : Bv = true ↔ Feas 0 L) :
    Calls Tryd.prog 52 #[.slice a n c, .int .i64 1] w fun e w' => e = .returned (.bool Bv) ∧ Below w.heap.size w w' := by
  have HBV := Lib.hid hBv
  have HSM := Lib.hid hS
  have hb0 : Below w.heap.size w (w.alloc (.cells #[.int .i64 1] 3)) := (Below.refl _ w).alloc (Nat.le_refl _) _
  have K0 : ArrV VT (w.alloc (.cells #[.int .i64 1] 3)) w.heap.size 3 [.int .i64 1] := ArrV.new (f := VT) w _ _ _ _ rfl rfl
  have hI := h.below hb0
  have hsz : (w.alloc (.cells #[.int .i64 1] 3)).heap.size = w.heap.size + 1 := by simp
  clear hBv h hS
  go_enter Tryd.func52, Tryd.ntmps52
  go_wp2_with fail
  generalize w.alloc (.cells #[.int .i64 1] 3) = w0 at *
  refine (CloneH_any a n c L w0 hI hn (by omega)).mono ?_
  rintro e w1 ⟨b, c', rfl, hO, b1⟩
  have K1 := K0.below b1
  have hbb := (hO.ltP _ rfl).1
  simp only [] at hbb
  have k1 := hb0.trans (b1.mono (by omega))
  clear hI K0 b1 hb0
  go_wp2_with fail
  refine (sort_any w0.heap.size b n c' L w1 hO hn h12 HSM.out).mono ?_
  rintro e w2 ⟨rfl, M, hO2, hp, hs, hB2⟩
  have K2 := hB2.arr K1 (by omega)
  have hbw := (hO.ltP _ rfl).2
  simp only [] at hbw
  have k2 := k1.trans (hB2.below (B := w.heap.size) (by omega) (fun k hk => by omega))
  have hl2 := hO2.len
  have hL0 : LeftH L M 0 := LeftH.start hp (by rw [hl2]; exact hs) HSM.out
  have HO2 : Hid (OwnP w2 27 w.heap.size (some ⟨b, 0, none⟩) n c' M) := Lib.hid (hO2.weakenP (by omega))
  have HL0 := Lib.hid hL0
  have HK2 := Lib.hid K2
  have hkb : w.heap.size ≠ b := by omega
  have hks := K2.lt
  clear hO hO2 hB2 K1 K2 k1 hl2 hL0 hp hs hbw
  go_wp2_with fail
  have HA : Hid (ArrV VT (w2.alloc (.cells #[.int .i64 0] 3)) w2.heap.size 3 [.int .i64 0]) := Lib.hid (ArrV.new (f := VT) w2 _ _ _ _ rfl rfl)
  have HO3 : Hid (OwnP (w2.alloc (.cells #[.int .i64 0] 3)) 27 w.heap.size (some ⟨b, 0, none⟩) n c' M) := Lib.hid (HO2.out.alloc _)
  have HK3 : Hid (ArrV VT (w2.alloc (.cells #[.int .i64 0] 3)) w.heap.size 3 [.int .i64 1]) := Lib.hid (HK2.out.alloc _)
  have k3 : Below w.heap.size w (w2.alloc (.cells #[.int .i64 0] 3)) := k2.alloc k2.size _
  have hb2 := (HO2.out.ltP _ rfl).2
  simp only [] at hb2
  generalize w2.alloc (.cells #[.int .i64 0] 3) = w3 at *
  generalize hhp : w2.heap.size = hp0 at *
  clear HO2 HK2 k2
  go_loopg [5, 6] 101 (fun gk v5 v6 wr => ∃ (m c' b hp hr : Nat) (M : List Hp), gk = 101 - hr ∧ hr ≤ 101 ∧ m ≤ n ∧ v5 = .slice (some ⟨b, 0, none⟩) m c' ∧ v6 = .pointer (some ⟨hp, 0, none⟩) ∧ Hid (OwnP wr 27 w.heap.size (some ⟨b, 0, none⟩) m c' M) ∧ Hid (ArrV VT wr hp 3 [.int .i64 (hr : Int)]) ∧ Hid (ArrV VT wr w.heap.size 3 [.int .i64 1]) ∧ hp ≠ b ∧ w.heap.size ≠ b ∧ w.heap.size < hp ∧ Hid (LeftH L M (hr : Int)) ∧ Below w.heap.size w wr)
  case atStart => exact ⟨n, c', b, hp0, 0, M, by omega, by omega, Nat.le_refl _, rfl, rfl, HO3, HA, HK3, by omega, hkb, by omega, HL0, k3⟩
  case round =>
    clear HO3 HA HK3 HL0 k3 hkb hhp hb2 hbb hks
    obtain ⟨m, c', b, hp, hr, M, rfl, hr1, hmn, rfl, rfl, hO, hH, hK, hpb, hkb, hph, hLf, hb⟩ := hrel
    by_cases hm : 0 < m
    · have q1 : (0 : Int) < (m : Int) := by omega
      have hml := hO.out.len
      have hr100 : hr ≤ 100 := by
        have hx : M.getD 0 (0, 0) ∈ M := by rw [List.getD, List.getElem?_eq_getElem (by omega)]; exact List.getElem_mem _
        have h1 := hLf.out.late _ hx
        have h2 := (hLf.out.sml _ hx).2.2.2
        omega
      have hbs := (hO.out.ltP _ rfl).2
      simp only [] at hbs
      have hps := hH.out.lt
      have hws := hb.size
      have hT : ArrV VT (wr.alloc (.cells #[.int .i64 0] 3)) wr.heap.size 3 [.int .i64 0] := ArrV.new (f := VT) wr _ _ _ _ rfl rfl
      have hBX : BoxH (wr.alloc (.cells #[.int .i64 0] 3)) hp wr.heap.size w.heap.size (hr : Int) 0 := ⟨hH.out.alloc _, hT, hK.out.alloc _⟩
      have HD := Lib.hid (delete_any w.heap.size (wr.alloc (.cells #[.int .i64 0] 3)) (hO.out.alloc _) hm (by omega) hBX (by omega) (by omega) hpb (by omega) hkb)
      have HX : Hid (But (fun k => k = b ∨ k = wr.heap.size) wr (wr.alloc (.cells #[.int .i64 0] 3))) := Lib.hid ((But.refl _ _).alloc _)
      have hsz : (wr.alloc (.cells #[.int .i64 0] 3)).heap.size = wr.heap.size + 1 := by simp
      clear hT hBX hO
      go_wp2_with fail
      refine HD.out.mono ?_
      rintro e w5 ⟨M', rfl, hDel, hO5, hB5⟩
      have hB6 := HX.out.trans hB5
      have H5 : ArrV VT w5 hp 3 [.int .i64 (hr : Int)] := hB6.arr hH.out (by omega)
      have K5 : ArrV VT w5 w.heap.size 3 [.int .i64 1] := hB6.arr hK.out (by omega)
      have hbw : w.heap.size ≤ b := (hO5.ltP _ rfl).1
      have b5 := hb.trans (hB6.below (B := w.heap.size) hws (fun k hk => by omega))
      have z1 := cellT H5 0 rfl
      have HDel := Lib.hid hDel
      have HO5 := Lib.hid hO5
      have HH5 := Lib.hid H5
      have HK5 := Lib.hid K5
      have hm5 : M'.length ≤ n := by
        rcases hDel with ⟨rfl, _⟩ | ⟨A, x, C, rfl, rfl, _⟩
        · omega
        · simp at hml ⊢; omega
      obtain ⟨m5, hm5e⟩ : ∃ m5, M'.length = m5 := ⟨_, rfl⟩
      have HM5 := Lib.hid hm5e
      rw [hm5e] at HO5 hm5 ⊢
      clear hDel hB5 hB6 H5 K5 hm5e HD HX hO5 hb hK hH hml
      have b5k := b5.drew
      have HOD : Hid (∀ k, OwnP (w5.drewN k) 27 w.heap.size (some ⟨b, 0, none⟩) m5 c' M') := Lib.hid (fun k => HO5.out.below (belowN (Below.refl _ _) k))
      have HHD : Hid (∀ k, ArrV VT (w5.drewN k) hp 3 [.int .i64 (hr : Int)]) := Lib.hid (fun k => HH5.out.drewN k)
      have HKD : Hid (∀ k, ArrV VT (w5.drewN k) w.heap.size 3 [.int .i64 1]) := Lib.hid (fun k => HK5.out.drewN k)
      have HBD : Hid (∀ k, Below w.heap.size w (w5.drewN k)) := Lib.hid (fun k => belowN b5 k)
      by_cases h50 : 0 < m5
      · obtain ⟨c1, c2⟩ := HO5.out.cell 0 h50
        have q2 : (0 : Int) < (m5 : Int) := by omega
        obtain ⟨⟨x, y⟩, hx⟩ : ∃ x, M'.getD 0 (0, 0) = x := ⟨_, rfl⟩
        rw [hx] at c2
        simp only [Nat.zero_mul, Nat.zero_add] at c2
        have HXX := Lib.hid hx
        clear c1 hx
        by_cases hyh : y ≤ (hr : Int)
        · obtain rfl : Bv = false := by
            cases Bv with
            | false => rfl
            | true => exact absurd (HBV.out.1 rfl) (hLf.out.bad HDel.out (by rw [HM5.out]; exact h50) (by rw [HXX.out]; exact hyh))
          go_wp2_with fail
          go_quiet (fail)
          go_wp2_with fail
          go_ret
          exact ⟨rfl, HBD.out _⟩
        · have hG : Hid (LeftH L M' ((hr : Int) + 1)) := Lib.hid (hLf.out.good HDel.out (fun _ => by rw [HXX.out]; exact hyh))
          have hphx := hph
          go_wp2_with fail
          go_quiet (fail)
          (obtain ⟨wq, hwq⟩ : ∃ wq, w5.drewN nq = wq := ⟨_, rfl⟩
           have hOq := HOD.out nq
           have hHq := HHD.out nq
           have hKq := HKD.out nq
           have hBq := HBD.out nq
           rw [hwq] at hOq hHq hKq hBq
           simp only [hwq]
           clear hwq HOD HHD HKD HBD HO5 HH5 HK5 b5 b5k z1 hphx
           have hwqs := hBq.size
           have hq1 := (hOq.ltP _ rfl).2
           simp only [] at hq1
           have hal : Below w.heap.size w (wq.alloc (.cells #[.int .i64 ((hr : Int) + 1)] 3)) := hBq.alloc hwqs _
           have HO9 : Hid (OwnP (wq.alloc (.cells #[.int .i64 ((hr : Int) + 1)] 3)) 27 w.heap.size (some ⟨b, 0, none⟩) m5 c' M') := Lib.hid (hOq.alloc _)
           have HH9 : Hid (ArrV VT (wq.alloc (.cells #[.int .i64 ((hr : Int) + 1)] 3)) wq.heap.size 3 [.int .i64 (((hr + 1 : Nat)) : Int)]) := Lib.hid (ArrV.new (f := VT) wq _ _ _ _ rfl (by simp))
           have HK9 : Hid (ArrV VT (wq.alloc (.cells #[.int .i64 ((hr : Int) + 1)] 3)) w.heap.size 3 [.int .i64 1]) := Lib.hid (hKq.alloc _)
           have HG9 : Hid (LeftH L M' (((hr + 1 : Nat)) : Int)) := Lib.hid (by have := hG.out; rwa [show ((hr + 1 : Nat) : Int) = (hr : Int) + 1 by omega])
           have z1 := cellT hHq 0 rfl
           have e9 : IntKind.i64.wrap ((hr : Int) + 1) = (hr : Int) + 1 := IntWalk.i64_in _ (by omega)
           have hkq := hKq.lt
           clear hOq hHq hKq
           go_wp2_with fail
           go_roundg (101 - (hr + 1))
           case measure => omega
           case rel => first | exact ⟨m5, c', b, wq.heap.size, hr + 1, M', by omega, by omega, hm5, rfl, rfl, HO9, HH9, HK9, by omega, hkb, by omega, HG9, hal⟩ | ((repeat apply Exists.intro); exact ⟨⟨m5, c', b, wq.heap.size, hr + 1, M', by omega, by omega, hm5, rfl, rfl, HO9, HH9, HK9, by omega, hkb, by omega, HG9, hal⟩, rfl⟩))
      · obtain rfl : m5 = 0 := by omega
        have hG : Hid (LeftH L M' ((hr : Int) + 1)) := Lib.hid (hLf.out.good HDel.out (fun h => by rw [HM5.out] at h; omega))
        have hphx := hph
        go_wp2_with fail
        go_quiet (fail)
        (obtain ⟨wq, hwq⟩ : ∃ wq, w5.drewN nq = wq := ⟨_, rfl⟩
         have hOq := HOD.out nq
         have hHq := HHD.out nq
         have hKq := HKD.out nq
         have hBq := HBD.out nq
         rw [hwq] at hOq hHq hKq hBq
         simp only [hwq]
         clear hwq HOD HHD HKD HBD HO5 HH5 HK5 b5 b5k z1 hphx
         have hwqs := hBq.size
         have hq1 := (hOq.ltP _ rfl).2
         simp only [] at hq1
         have hal : Below w.heap.size w (wq.alloc (.cells #[.int .i64 ((hr : Int) + 1)] 3)) := hBq.alloc hwqs _
         have HO9 : Hid (OwnP (wq.alloc (.cells #[.int .i64 ((hr : Int) + 1)] 3)) 27 w.heap.size (some ⟨b, 0, none⟩) 0 c' M') := Lib.hid (hOq.alloc _)
         have HH9 : Hid (ArrV VT (wq.alloc (.cells #[.int .i64 ((hr : Int) + 1)] 3)) wq.heap.size 3 [.int .i64 (((hr + 1 : Nat)) : Int)]) := Lib.hid (ArrV.new (f := VT) wq _ _ _ _ rfl (by simp))
         have HK9 : Hid (ArrV VT (wq.alloc (.cells #[.int .i64 ((hr : Int) + 1)] 3)) w.heap.size 3 [.int .i64 1]) := Lib.hid (hKq.alloc _)
         have HG9 : Hid (LeftH L M' (((hr + 1 : Nat)) : Int)) := Lib.hid (by have := hG.out; rwa [show ((hr + 1 : Nat) : Int) = (hr : Int) + 1 by omega])
         have z1 := cellT hHq 0 rfl
         have e9 : IntKind.i64.wrap ((hr : Int) + 1) = (hr : Int) + 1 := IntWalk.i64_in _ (by omega)
         have hkq := hKq.lt
         clear hOq hHq hKq
         go_wp2_with fail
         go_roundg (101 - (hr + 1))
         case measure => omega
         case rel => first | exact ⟨0, c', b, wq.heap.size, hr + 1, M', by omega, by omega, hm5, rfl, rfl, HO9, HH9, HK9, by omega, hkb, by omega, HG9, hal⟩ | ((repeat apply Exists.intro); exact ⟨⟨0, c', b, wq.heap.size, hr + 1, M', by omega, by omega, hm5, rfl, rfl, HO9, HH9, HK9, by omega, hkb, by omega, HG9, hal⟩, rfl⟩))
    · obtain rfl : m = 0 := by omega
      obtain rfl : M = [] := List.eq_nil_of_length_eq_zero hO.out.len
      obtain rfl : Bv = true := HBV.out.2 (hLf.out.iff.2 Feas.nil)
      go_wp2_with fail
      go_ret
      exact ⟨rfl, hb⟩
end Go.Proofs.YtpfaoagddgcmbaaDoor
