/- Walks of chapter 2: slices.DeleteFunc of heaps. -/
import Derived.Test.YtpfaoagddgcmbaaDoorHe
namespace Go.Proofs.YtpfaoagddgcmbaaDoor
open Go.RowKit Heap02
variable {w : World} {n c b ph pt pk : Nat} {L : List Hp} {H : Int}
theorem OwnP.but {X : Nat → Prop} {w w' : World} {e B : Nat} {g n c : Nat} {L : List Hp} (h : OwnP w e B (some ⟨g, 0, none⟩) n c L) (hb : But X w w') (hx : ¬ X g) : OwnP w' e B (some ⟨g, 0, none⟩) n c L := by
  obtain ⟨h1, h2⟩ := h
  refine ⟨h1, ?_⟩
  rcases h2 with ⟨hv, _⟩ | ⟨g', cap, cur, hv, hg, hh, r⟩
  · cases hv
  · have e : g = g' := by simp only [Value.slice.injEq, Option.some.injEq, Addr.mk.injEq] at hv; exact hv.1.1
    subst e
    exact .inr ⟨g, cap, cur, hv, hg, by rw [hb.block g (Array.getElem?_eq_some_iff.1 hh).1 hx]; exact hh, r⟩
theorem BoxH.but {X : Nat → Prop} {w' : World} {T : Int} (h : BoxH w ph pt pk H T) (hb : But X w w') (h1 : ¬ X ph) (h2 : ¬ X pt) (h3 : ¬ X pk) : BoxH w' ph pt pk H T := ⟨hb.arr h.h h1, hb.arr h.t h2, hb.arr h.k h3⟩
theorem ret_sl {a : Option Addr} {n m c : Nat} (h : n = m) : Ending.returned (.slice a n c) = .returned (.slice a m c) := by rw [h]
set_option maxHeartbeats 8000000 in
set_option maxRecDepth 100000 in
theorem delete_any (B : Nat) (w : World) (h : OwnP w 27 B (some ⟨b, 0, none⟩) n c L) (hn : 1 ≤ n) (h12 : n ≤ 12) (hB : BoxH w ph pt pk H 0) (h1 : ph ≠ pt) (h2 : pk ≠ pt) (h3 : ph ≠ b) (h4 : pt ≠ b) (h5 : pk ≠ b) :
    Calls Tryd.prog 97 #[.slice (some ⟨b, 0, none⟩) n c, .func (.func 98) #[] #[.pointer (some ⟨ph, 0, none⟩), .pointer (some ⟨pt, 0, none⟩), .pointer (some ⟨pk, 0, none⟩)]] w fun e w' =>
      ∃ L', e = .returned (.slice (some ⟨b, 0, none⟩) L'.length c) ∧ DelR H L L' ∧ OwnP w' 27 B (some ⟨b, 0, none⟩) L'.length c L' ∧ But (fun k => k = b ∨ k = pt) w w' := by
  have hle := h.caps.1
  have hcap := h.caps.2
  have hl := h.len
  have HC := Lib.hid (idx_any w h.isH hn hB h1 h2)
  have HO := Lib.hid h
  have HL := Lib.hid hl
  clear h hB hl
  go_enter Tryd.func97, Tryd.ntmps97
  go_wp2_with fail
  refine HC.out.mono ?_
  rintro e w2 (⟨rfl, hno, b2⟩ | ⟨k, hk, rfl, hx, hno, b2, B2⟩)
  · have HR : Hid (DelR H L L) := Lib.hid (delR_no (by rw [HL.out]; exact hno))
    have HO2 : Hid (OwnP w2 27 B (some ⟨b, 0, none⟩) L.length c L) := Lib.hid (by rw [HL.out]; exact HO.out.below b2)
    clear hno
    go_wp2
    go_ret
    exact ⟨L, ret_sl HL.out.symm, HR.out, HO2.out, But.of_below b2⟩
  · have HR : Hid (DelR H L (L.eraseIdx k)) := Lib.hid (delR_at (by rw [HL.out]; exact hk) hx hno)
    have hkl : k < L.length := by rw [HL.out]; exact hk
    have HKL := Lib.hid hkl
    have HE : Hid ((L.eraseIdx k).length = n - 1) := Lib.hid (by rw [List.length_eraseIdx, if_pos hkl, HL.out])
    have hO2 : Hid (OwnP w2 27 B (some ⟨b, 0, none⟩) n c (movR L k (k + 1))) := Lib.hid (by rw [movR_start L k hkl]; exact HO.out.but b2 (by omega))
    have hne : ((k : Int) == -1) = false := by rw [beq_eq_false_iff_ne]; omega
    have hb2 : But (fun k => k = b ∨ k = pt) w w2 := b2.mono (fun k h => .inr h)
    have HB2 := Lib.hid B2
    clear hx hno hkl b2 B2 HC HO
    go_wp2_with fail
    go_loopw [5, 6] (fun vi vj wr => ∃ i : Nat, k ≤ i ∧ i + 1 ≤ n ∧ vi = .int .i64 (i : Int) ∧ vj = .int .i64 ((i : Int) + 1) ∧ Hid (OwnP wr 27 B (some ⟨b, 0, none⟩) n c (movR L k (i + 1))) ∧ Hid (BoxH wr ph pt pk H 1) ∧ But (fun k => k = b ∨ k = pt) w wr) (fun vi _ _ => n - (intOf vi).toNat)
    case atStart => exact ⟨k, by omega, by omega, rfl, rfl, hO2, HB2, hb2⟩
    case round =>
      clear hb2 hO2 HB2
      obtain ⟨i, hki, hin, rfl, rfl, hO, hBx, hBt⟩ := hrel
      by_cases hlt : i + 1 < n
      · have q1 : (i : Int) + 1 < (n : Int) := by omega
        have q2 : (0 : Int) ≤ (i : Int) + 1 := by omega
        have q3 : ((i : Int) + 1).toNat = i + 1 := by omega
        obtain ⟨c1, c2⟩ := hO.out.cell (i + 1) hlt
        have hg := movR_get L k (i + 1) HKL.out (by omega) (by rw [HL.out]; exact hlt)
        have hst := movR_step L k (i + 1) HKL.out (by omega) (by rw [HL.out]; exact hlt)
        obtain ⟨⟨x, y⟩, hx⟩ : ∃ x, L.getD (i + 1) (0, 0) = x := ⟨_, rfl⟩
        rw [hx] at hg hst
        rw [hg] at c1 c2
        simp only [] at c1 c2
        have HST := Lib.hid hst
        have hal := (Below.refl wr.heap.size wr).alloc (Nat.le_refl _) (.cells #[.int .i64 x, .int .i64 y] 27)
        have HC := Lib.hid (del_no x y 1 _ (hBx.out.below hal) (.inr rfl))
        have HAL := Lib.hid hal
        clear hg hst hx hal
        go_wp2_with fail
        refine HC.out.mono ?_
        rintro e w3 ⟨rfl, b3⟩
        have b3' := HAL.out.trans (b3.mono HAL.out.size)
        have hO3 := hO.out.below b3'
        have hBx3 := hBx.out.below b3'
        have hBt3 := hBt.trans (But.of_below (X := fun k => k = b ∨ k = pt) b3')
        have A3 : ArrV VT w3 wr.heap.size 27 [.int .i64 x, .int .i64 y] := (ArrV.new (f := VT) wr #[.int .i64 x, .int .i64 y] 27 [.int .i64 x, .int .i64 y] wr.heap.size rfl rfl).below b3
        have y1 := cellT A3 0 rfl
        have y2 := cellT A3 1 rfl
        have f1 := hO3.frozenP (i * 2)
        have f2 := hO3.frozenP (i * 2 + 1)
        obtain ⟨d1, d2⟩ := hO3.cell i (by omega)
        have q4 : (i : Int) < (n : Int) := by omega
        have HS4 : Hid (OwnP ((w3.setCell ⟨b, i * 2, none⟩ (.int .i64 x)).setCell ⟨b, i * 2 + 1, none⟩ (.int .i64 y)) 27 B (some ⟨b, 0, none⟩) n c (movR L k (i + 1 + 1))) := Lib.hid (by
          rw [HST.out, show i + 1 - 1 = i by omega]
          exact hO3.set i (x, y) (by omega))
        have HB4 : Hid (But (fun k => k = b ∨ k = pt) w ((w3.setCell ⟨b, i * 2, none⟩ (.int .i64 x)).setCell ⟨b, i * 2 + 1, none⟩ (.int .i64 y))) := Lib.hid ((hBt3.setCell (p := ⟨b, i * 2, none⟩) (.inl rfl) (.int .i64 x)).setCell (p := ⟨b, i * 2 + 1, none⟩) (.inl rfl) (.int .i64 y))
        have HX4 : Hid (BoxH ((w3.setCell ⟨b, i * 2, none⟩ (.int .i64 x)).setCell ⟨b, i * 2 + 1, none⟩ (.int .i64 y)) ph pt pk H 1) := Lib.hid (hBx3.but (((But.refl (fun k => k = b) w3).setCell (p := ⟨b, i * 2, none⟩) rfl (.int .i64 x)).setCell (p := ⟨b, i * 2 + 1, none⟩) rfl (.int .i64 y)) h3 h4 h5)
        clear hO hBx hBt hO3 hBx3 hBt3 A3 b3 b3' c1 c2 HC HAL
        go_wp2_with fail
        go_roundw
        case rel => first | exact ⟨i + 1, by omega, by omega, by go_num, by go_num, HS4, HX4, HB4⟩ | ((repeat apply Exists.intro); exact ⟨⟨i + 1, by omega, by omega, by go_num, by go_num, HS4, HX4, HB4⟩, rfl⟩)
        case measure => (simp [intOf] <;> omega)
      · obtain rfl : n = i + 1 := by omega
        obtain ⟨d1, d2⟩ := hO.out.cell i (by omega)
        have f1 := hO.out.frozenP (i * 2)
        have f2 := hO.out.frozenP (i * 2 + 1)
        have q5 : ¬ c = i := by omega
        have hcl : ∀ ty, (Builtin.clear_ #[25] ty #[.slice (some ⟨b, i * 2, none⟩) 1 (c - i)]).run Tryd.prog wr = .ok (.tuple #[]) ((wr.setCell ⟨b, i * 2, none⟩ (.int .i64 0)).setCell ⟨b, i * 2 + 1, none⟩ (.int .i64 0)) :=
          fun ty => run_clear_one wr _ _ ty Tryd.underlying25 (fun w => by rfl) b (i * 2) (c - i) (by rw [d1]; rfl) (by rw [d2]; rfl) f1 f2
        have HS4 : Hid (OwnP ((wr.setCell ⟨b, i * 2, none⟩ (.int .i64 0)).setCell ⟨b, i * 2 + 1, none⟩ (.int .i64 0)) 27 B (some ⟨b, 0, none⟩) i c (L.eraseIdx k)) := Lib.hid (by
          have h8 := (hO.out.set i (0, 0) (by omega)).front (m := i) (by omega)
          have e8 : ((movR L k (i + 1)).set i (0, 0)).take i = L.eraseIdx k := by
            rw [List.take_set_of_le (Nat.le_refl i)]
            have := movR_end L k HKL.out
            rw [HL.out, show i + 1 - 1 = i by omega] at this
            exact this
          rw [e8] at h8
          exact h8)
        have HB4 : Hid (But (fun k => k = b ∨ k = pt) w ((wr.setCell ⟨b, i * 2, none⟩ (.int .i64 0)).setCell ⟨b, i * 2 + 1, none⟩ (.int .i64 0))) := Lib.hid ((hBt.setCell (p := ⟨b, i * 2, none⟩) (.inl rfl) (.int .i64 0)).setCell (p := ⟨b, i * 2 + 1, none⟩) (.inl rfl) (.int .i64 0))
        have HE2 : Hid ((L.eraseIdx k).length = i) := Lib.hid (by rw [HE.out]; omega)
        clear hO hBt hBx
        go_wp2_with fail
        go_ret
        exact ⟨L.eraseIdx k, ret_sl HE2.out.symm, HR.out, by rw [HE2.out]; exact HS4.out, HB4.out⟩
end Go.Proofs.YtpfaoagddgcmbaaDoor
