/- Walks of chapter 11: a list copied, and turned round. -/
import Derived.Test.YtjedmiegcbdedaaXg
import Derived.Test.YtjedmiegcbdedaaPr
import Derived.Lib.SliceRun
namespace Go.Proofs.Ytjedmiegcbdedaa
open Go.RowKit Store11

set_option maxHeartbeats 2000000 in
set_option maxRecDepth 100000 in
theorem Clone_any (a : Option Addr) (n c : Nat) (l : List Int) (w : World) (h : IsL w a n c l) (hn : 1 ≤ n) (hs : n ≤ 1000000) : Calls Try.prog 57 #[.slice a n c] w fun e w' => ∃ a' c', e = .returned (.slice a' n c') ∧ OwnL w' 3 w.heap.size a' n c' l ∧ Below w.heap.size w w' := by
  obtain ⟨b, o, rfl, hb0, hc⟩ := h.cells (by omega)
  have hB := own_lit w 3 w.heap.size (Nat.le_refl _) ([] : List Int) #[] 0 rfl rfl (by decide)
  have h2 := h.alloc (.cells #[] 3)
  clear hc
  have e1 : (binOp .eql 22 (.slice (some ⟨b, o, none⟩) n c) (.slice none 0 0)).run Try.prog w = .ok (.bool false) w := by rw [Lib.run_eql_slice_nil w 22 3 _ _ _ _ _ Try.underlying22]; rfl
  go_enter Try.func57, Try.ntmps57
  go_wp2_with (at_builtin; refine wl_app_own Try.underlying22 elem3 w.heap.size (.tmp 5) (.tmp 6) rfl rfl rfl rfl hB h2 (by simp) (by omega) ?_)
  intro a2 c2 w2 ho hg hb2 _
  have hbb := ((Below.refl _ w).alloc (Nat.le_refl _) (.cells #[] 3)).trans hb2
  clear hg hb2
  go_wp2
  go_ret
  exact ⟨_, _, rfl, ho, hbb⟩

set_option maxHeartbeats 4000000 in
set_option maxRecDepth 100000 in
theorem Reverse_any (B : Nat) (a : Option Addr) (n c : Nat) (l : List Int) (w : World) (h : OwnL w 3 B a n c l) (hn : 1 ≤ n) (hB : B ≤ w.heap.size) : Calls Try.prog 58 #[.slice a n c] w fun e w' => e = .returned (.tuple #[]) ∧ OwnL w' 3 B a n c l.reverse ∧ Below B w w' := by
  have hl := h.len
  have hc := h.isL.cap
  have hle := h.isL.le
  obtain ⟨g, rfl⟩ := h.addr (by omega)
  have hg := (h.lt _ rfl).1
  have w1 : IntKind.i64.wrap ((n : Int) - 1) = (n : Int) - 1 := IntWalk.i64_in _ (by omega)
  have HL := Lib.hid hl
  have HO := Lib.hid h
  simp only [] at hg
  clear hl h
  go_enter Try.func58, Try.ntmps58
  go_wp2_with fail
  go_loopw [2, 3] (fun vi vj wr => ∃ i : Nat, 2 * i ≤ n + 1 ∧ vi = .int .i64 (i : Int) ∧ vj = .int .i64 ((n : Int) - 1 - (i : Int)) ∧ Hid (OwnL wr 3 B (some ⟨g, 0, none⟩) n c (revK l i)) ∧ Below B w wr) (fun vi _ _ => n - (intOf vi).toNat)
  case atStart => exact ⟨0, by omega, rfl, by go_num, HO, Below.refl _ _⟩
  case round =>
    obtain ⟨i, hi, rfl, rfl, hO, hb⟩ := hrel
    have hsz := hb.size
    by_cases hlt : (i : Int) < (n : Int) - 1 - (i : Int)
    · obtain ⟨j, hj⟩ : ∃ j : Nat, (n : Int) - 1 - (i : Int) = (j : Int) := ⟨n - 1 - i, by omega⟩
      have HJ := Lib.hid hj
      rw [hj] at hlt ⊢
      have hjn : j < n := by omega
      have hO1 := hO.out
      have y1 := (hO1.gen.cell i 0 (by omega))
      have y2 := (hO1.gen.cell j 0 (by omega))
      obtain ⟨y11, y12⟩ := y1
      obtain ⟨y21, y22⟩ := y2
      have q1 : (i : Int) < (n : Int) := by omega
      have q2 : (j : Int) < (n : Int) := by omega
      have hne : i ≠ j := by omega
      have hn1 : 1 ≤ n := hn
      have hnj : n - 1 - i = j := by omega
      have hs := (hO1.set i ((revK l i).getD j 0) (by omega)).set j ((revK l i).getD i 0) (by omega)
      have hO2 : Hid (OwnL ((wr.setCell ⟨g, i, none⟩ (.int .i64 ((revK l i).getD j 0))).setCell ⟨g, j, none⟩ (.int .i64 ((revK l i).getD i 0))) 3 B (some ⟨g, 0, none⟩) n c (revK l (i + 1))) := Lib.hid (by rw [revK, HL.out, hnj]; exact hs)
      have hb2 : Below B w ((wr.setCell ⟨g, i, none⟩ (.int .i64 ((revK l i).getD j 0))).setCell ⟨g, j, none⟩ (.int .i64 ((revK l i).getD i 0))) := (hb.setCell (p := ⟨g, i, none⟩) hg _).setCell (p := ⟨g, j, none⟩) hg _
      have w2 : IntKind.i64.wrap ((j : Int) - 1) = (j : Int) - 1 := IntWalk.i64_in _ (by omega)
      obtain ⟨u, hu⟩ : ∃ u, (revK l i).getD i 0 = u := ⟨_, rfl⟩
      obtain ⟨v, hv⟩ : ∃ v, (revK l i).getD j 0 = v := ⟨_, rfl⟩
      rw [hu] at y11 hO2 hb2
      rw [hv] at y21 hO2 hb2
      clear hu hv hO hO1 hs hj hn hnj hb
      go_wp2_with fail
      go_region
      all_goals
        go_wp2_with fail
        go_roundw
        case rel => exact ⟨i + 1, by have := HJ.out; omega, by go_num, by (congr 1; have := HJ.out; omega), Lib.hid hO2.out.drew, hb2.drew⟩
        case measure => simp [intOf]; omega
    · have HR : Hid (OwnL wr 3 B (some ⟨g, 0, none⟩) n c l.reverse) := Lib.hid (by rw [← revK_rev l i (by rw [HL.out]; omega) (by rw [HL.out]; omega)]; exact hO.out)
      have hlt2 : decide ((i : Int) < (n : Int) - 1 - (i : Int)) = false := by simpa using hlt
      clear hO
      go_wp2
      go_end0
      exact ⟨rfl, HR.out, hb⟩
end Go.Proofs.Ytjedmiegcbdedaa
