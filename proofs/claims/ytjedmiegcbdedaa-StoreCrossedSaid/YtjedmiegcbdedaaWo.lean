/- Walks of chapter 11: arcs. -/
import Derived.Test.YtjedmiegcbdedaaWb
import Derived.Test.YtjedmiegcbdedaaWf
import Derived.Test.YtjedmiegcbdedaaPa
namespace Go.Proofs.Ytjedmiegcbdedaa
open Go.RowKit Store11

set_option maxHeartbeats 1000000 in
set_option maxRecDepth 100000 in
theorem arcs_any (a : Option Addr) (n c : Nat) (l : List Int) (w : World) (h : IsL w a n c l) (hw : Wf l) (h9 : n ≤ 900) :
    Calls Try.prog 76 #[.slice a n c] w fun e w' => ∃ a', e = .returned (.slice a' n n) ∧ IsL w' a' n n (arcR l) ∧ Below w.heap.size w w' := by
  have q2 : ∀ w, (zeroValue 3).run Try.prog w = .ok (.int .i64 0) w := fun w => by kernel_rfl
  have q3 : ∀ w : World, (Instr.makeMap 85 none).run Try.prog w = .ok (.map (some w.heap.size)) (w.alloc (.map #[] 0)) := fun w => rfl
  have HL := Lib.hid h.len
  have HW := Lib.hid hw
  clear hw
  go_enter Try.func76, Try.ntmps76
  go_wp2_with (at_make; refine wl_make (Value.int .i64) 0 (.int .i64 0) 8 w.heap.size Try.underlying22 elem3 rfl rfl (.tmp 10) (.tmp 10) rfl rfl n rfl rfl (by omega) (by omega) (Nat.le_refl _) ?_)
  intro w1 og hg1 hb1
  have hgl : w.heap.size < w1.heap.size := (OwnG.lt og _ rfl).2
  generalize hg : w.heap.size = g at *
  have o2 : OwnL (w1.alloc (.map #[] 0)) 3 g (some ⟨g, 0, none⟩) n n (arcK l 0) := by rw [arcK, HL.out]; exact OwnL.alloc og _
  have m2 : MapF encInt 3 (w1.alloc (.map #[] 0)) w1.heap.size 0 0 (lastK l 0) := MapF.made w1
  have b2 : Below g w (w1.alloc (.map #[] 0)) := hb1.alloc (by omega) _
  have hbg : g ≠ w1.heap.size := by omega
  have HG := Lib.hid hg
  clear og hg1 hb1 hg
  go_wp2_with fail
  generalize w1.alloc (.map #[] 0) = w2 at *
  generalize hmb : w1.heap.size = mb at *
  have hmg : g ≤ mb := by omega
  clear hgl hmb
  go_loopw [15] (fun vi wr => ∃ (k sz : Nat), k ≤ n ∧ vi = .int .i64 k ∧ Hid (OwnL wr 3 g (some ⟨g, 0, none⟩) n n (arcK l k)) ∧ Hid (MapF encInt 3 wr mb k sz (lastK l k)) ∧ Below g w wr) (fun vi _ => n - (intOf vi).toNat)
  case atStart => exact ⟨0, 0, by omega, rfl, Lib.hid o2, Lib.hid m2, b2⟩
  case round =>
    clear o2 m2 b2
    obtain ⟨k, sz, hk, rfl, hO, hM, hb⟩ := hrel
    have h' := h.below (by rw [HG.out]; exact hb)
    have hcap := h.cap
    have hle := h.le
    by_cases hlt : k < n
    · obtain ⟨ba, oa, rfl, _, hc⟩ := h'.cells (by omega)
      have x1 := hc k hlt
      have hxw := HW.out.get k
      have hMM := hM.out
      have hOO := hO.out
      have hsep : Sep (some ⟨g, 0, none⟩) (some ⟨mb, 0, none⟩) := by rintro x y hx hy; cases hx; cases hy; exact hbg
      have hl1 : lastK l (k + 1) = fun y => if y = l.getD k 0 then some (k : Int) else lastK l k y := rfl
      have HL1 := Lib.hid hl1
      clear hc h' hl1
      cases hlk : lastK l k (l.getD k 0) with
      | some i =>
        obtain ⟨hi0, hi1⟩ := lastK_lt l k _ i hlk
        obtain ⟨j, rfl⟩ : ∃ j : Nat, i = j := ⟨i.toNat, by omega⟩
        have hak : arcK l (k + 1) = (arcK l k).set j (k : Int) := by rw [arcK, hlk]; rfl
        have hjn : (j : Int) < (n : Int) := by omega
        obtain ⟨xj, fj⟩ := hOO.gen.cell j 0 (by omega)
        have HLK := Lib.hid hlk
        have HAK := Lib.hid hak
        have o3 := hOO.set j (k : Int) (by omega)
        have m3 := hMM.setCell (a := ⟨g, j, none⟩) (fun e => hbg e.symm) (.int .i64 (k : Int))
        have b3 := hb.setCell (p := ⟨g, j, none⟩) (Nat.le_refl _) (.int .i64 (k : Int))
        generalize l.getD k 0 = x at *
        generalize (arcK l k).getD j 0 = v at *
        clear hlk hak hM hO hb
        go_wp2_with (first
          | (at_lookup; refine wl_look_ok rfl _ _ rfl Try.underlying85 Try.underlying3 (q2 _) hMM rfl x hxw rfl ?_; simp only [HLK.out, Option.getD_some, Option.isSome_some])
          | (at_mapUpdate; refine wl_put rfl _ _ _ rfl Try.underlying85 Try.underlying3 m3 (by unfold maxLen; omega) rfl x hxw rfl _ rfl (WalkArith.wf_i64 (by omega)) ?_; simp only [HLK.out, Option.isSome_some, if_true]))
        intro w3 m4 g4
        have o4 := o3.gen.grownS g4 hsep
        have b4 := b3.grown g4 (Nat.le_of_lt (OwnG.lt o3 _ rfl).2) (fun q hq => by cases hq; exact hmg)
        have O4 : Hid (OwnL w3 3 g (some ⟨g, 0, none⟩) n n (arcK l (k + 1))) := Lib.hid (by rw [HAK.out]; exact o4)
        have M4 : Hid (MapF encInt 3 w3 mb (k + 1) sz (lastK l (k + 1))) := Lib.hid (by rw [HL1.out]; exact m4)
        clear m4 g4 o4 o3 m3 b3 hMM hOO
        go_wp2
        go_roundw
        case rel => exact ⟨k + 1, sz, by omega, by go_num, O4, M4, b4⟩
        case measure => simp [intOf]; omega
      | none =>
        have hak : arcK l (k + 1) = arcK l k := by rw [arcK, hlk]
        have HLK := Lib.hid hlk
        have HAK := Lib.hid hak
        generalize l.getD k 0 = x at *
        clear hlk hak hM hO
        go_wp2_with (first
          | (at_lookup; refine wl_look_ok rfl _ _ rfl Try.underlying85 Try.underlying3 (q2 _) hMM rfl x hxw rfl ?_; simp only [HLK.out, Option.getD_none, Option.isSome_none])
          | (at_mapUpdate; refine wl_put rfl _ _ _ rfl Try.underlying85 Try.underlying3 hMM (by unfold maxLen; omega) rfl x hxw rfl _ rfl (WalkArith.wf_i64 (by omega)) ?_; simp only [HLK.out, Option.isSome_none, Bool.false_eq_true, if_false]))
        intro w3 m4 g4
        have o4 := hOO.gen.grownS g4 hsep
        have b4 := hb.grown g4 (Nat.le_of_lt (OwnG.lt hOO.gen _ rfl).2) (fun q hq => by cases hq; exact hmg)
        have O4 : Hid (OwnL w3 3 g (some ⟨g, 0, none⟩) n n (arcK l (k + 1))) := Lib.hid (by rw [HAK.out]; exact o4)
        have M4 : Hid (MapF encInt 3 w3 mb (k + 1) (sz + 1) (lastK l (k + 1))) := Lib.hid (by rw [HL1.out]; exact m4)
        clear m4 g4 o4 hMM hOO hb
        go_wp2
        go_roundw
        case rel => exact ⟨k + 1, sz + 1, by omega, by go_num, O4, M4, b4⟩
        case measure => simp [intOf]; omega
    · obtain rfl : k = n := by omega
      have hf := hO.out.isL
      have e : arcK l k = arcR l := by rw [arcR, HL.out]
      rw [e] at hf
      clear e hO hM
      go_wp2
      go_ret
      exact ⟨_, rfl, hf, by rw [HG.out]; exact hb⟩
end Go.Proofs.Ytjedmiegcbdedaa
