/- Walks of chapters 1 and 5 at the top seat: turns of places on a round row; the examples; a wrapper by numbers. -/
import Derived.Test.YtpfaoagddgcmbaaDoorWt
namespace Go.Proofs.YtpfaoagddgcmbaaDoor
open Go.RowKit Wrap05 Dock01
set_option maxRecDepth 100000
theorem elemBT : (Tryd.prog.info? 4).map (fun i => (i.zero, i.size, i.bytes)) = some (some (.bool false), 1, 1) := by kernel_rfl
def tkK : Nat → List Bool
  | 0 => [false, false, false, false, false]
  | 1 => [false, false, true, false, false]
  | _ => [true, false, true, false, false]
def plK : Nat → Nat
  | 0 => 2
  | _ => 0
theorem tk_facts : ∀ i, i < 2 → ([2, 0] : List Int).getD i 0 = (plK i : Int) ∧ plK i < 5 ∧ (tkK i).getD (plK i) false = false ∧ tkK (i + 1) = (tkK i).set (plK i) true := by decide
def ouK (s : Nat) : List Int := ((List.range s).filter fun s => !(tkK 2).getD (4 - s) false).map fun x : Nat => (x : Int)
theorem ouK_next (s : Nat) : ouK (s + 1) = ouK s ++ (if (tkK 2).getD (4 - s) false = true then [] else [(s : Int)]) := by
  simp only [ouK, List.range_succ, List.filter_append, List.map_append]
  congr 1
  cases h : (tkK 2).getD (4 - s) false <;> simp only [List.filter_cons, List.filter_nil, h] <;> rfl
theorem ouK_len (s : Nat) : (ouK s).length ≤ s := by
  simp only [ouK, List.length_map]
  exact Nat.le_trans (List.length_filter_le _ _) (by simp)
theorem ouK_all : ouK 5 = [0, 1, 3] := by decide
set_option maxHeartbeats 4000000 in
theorem Turns_c (a : Option Addr) (w : World) (h : IsL w a 2 2 [2, 0]) : Calls Tryd.prog 78 #[.int .i64 4, .slice a 2 2] w fun e w' => ∃ a' c', e = .returned (.tuple #[.slice a' 3 c', .int .i64 0]) ∧ IsL w' a' 3 c' [0, 1, 3] ∧ Below w.heap.size w w' := by
  have HC := Lib.hid (listed_ok a 2 2 4 4 [2, 0] w h (by decide) (by decide) (by decide) (by
    intro i hi
    match i, hi with
    | 0, _ => decide
    | 1, _ => decide))
  have HH := Lib.hid h
  clear h
  go_enter Tryd.func78, Tryd.ntmps78
  go_wp2_with fail
  refine HC.out.mono ?_
  rintro e w1 ⟨rfl, b1⟩
  have hs1 := b1.size
  have HH1 := Lib.hid (HH.out.below b1)
  clear HC HH
  go_wp2_with (at_make; refine wl_make Value.bool false (.bool false) 1 w1.heap.size Tryd.underlying151 elemBT rfl rfl (.tmp 20) (.tmp 20) rfl rfl 5 rfl rfl (by omega) (by omega) (Nat.le_refl _) ?_)
  intro w2 o2 g2 b2
  have HO2 : Hid (OwnG Value.bool w2 4 w1.heap.size (some ⟨w1.heap.size, 0, none⟩) 5 5 (tkK 0)) := Lib.hid o2
  clear o2 g2
  go_wp2_with fail
  go_loopw [24] (fun vi wr => ∃ i : Nat, i ≤ 2 ∧ vi = .int .i64 (i : Int) ∧ Hid (OwnG Value.bool wr 4 w1.heap.size (some ⟨w1.heap.size, 0, none⟩) 5 5 (tkK i)) ∧ Below w1.heap.size w1 wr) (fun vi _ => 2 - (intOf vi).toNat)
  case atStart => exact ⟨0, by omega, rfl, HO2, b2⟩
  case round =>
    clear HO2 b2
    obtain ⟨i, hi, rfl, hO, kr⟩ := hrel
    have w9 : IntKind.i64.wrap ((i : Int) + 1) = (i : Int) + 1 := IntWalk.i64_in _ (by omega)
    by_cases hlt : i < 2
    · have q1 : (i : Int) < 2 := by omega
      obtain ⟨t1, t2, t3, t4⟩ := tk_facts i hlt
      obtain ⟨bl, ol, rfl, _, hcell⟩ := (HH1.out.below kr).cells (by omega)
      have c1 := hcell i hlt
      rw [t1] at c1
      have HS : Hid (OwnG Value.bool (wr.setCell ⟨w1.heap.size, plK i, none⟩ (.bool true)) 4 w1.heap.size (some ⟨w1.heap.size, 0, none⟩) 5 5 (tkK (i + 1))) := Lib.hid (by rw [t4]; exact hO.out.set (plK i) true)
      obtain ⟨c2, f2⟩ := hO.out.cell (plK i) false t2
      rw [t3] at c2
      obtain ⟨x, hx⟩ : ∃ x, plK i = x := ⟨_, rfl⟩
      rw [hx] at c1 c2 f2 t2 HS
      have q2 : (x : Int) < 5 := by omega
      have k9 := Lib.hid (kr.setCell (p := ⟨w1.heap.size, x, none⟩) (Nat.le_refl _) (.bool true))
      clear hcell t1 t3 t4 hx hO kr
      go_wp2_with fail
      obtain ⟨W5, rfl⟩ : ∃ W5, W5 = wr := ⟨_, rfl⟩
      go_loopw [9] (fun vp wx => vp = .int .i64 (x : Int) ∧ W5 = wx) (fun _ _ => 0)
      case atStart => exact ⟨rfl, rfl⟩
      case round =>
        obtain ⟨rfl, rfl⟩ := hrel
        go_wp2_with fail
        exact ⟨⟨i + 1, by omega, by go_num, HS, k9.out⟩, by simp [intOf]; omega⟩
    · have hi2 : i = 2 := by omega
      rw [hi2] at hO
      have q1 : ¬ (i : Int) < 2 := by omega
      clear hi2
      go_wp2_with fail
      obtain ⟨W6, rfl⟩ : ∃ W6, W6 = wr := ⟨_, rfl⟩
      go_loopw [43, 10] (fun vs vo wr => ∃ (s z : Nat) (a2 : Option Addr) (c2 : Nat), s ≤ 5 ∧ z ≤ s ∧ vs = .int .i64 (s : Int) ∧ vo = .slice a2 z c2 ∧ Hid (OwnL wr 3 W6.heap.size a2 z c2 (ouK s)) ∧ Below W6.heap.size W6 wr) (fun vs _ _ => 5 - (intOf vs).toNat)
      case atStart => exact ⟨0, 0, none, 0, by omega, by omega, rfl, rfl, Lib.hid (OwnL.nilL _ _ _), Below.refl _ _⟩
      case round =>
        obtain ⟨s, z, a2, c2, hs, hz, rfl, rfl, hR, kx⟩ := hrel
        have w8 : IntKind.i64.wrap ((s : Int) + 1) = (s : Int) + 1 := IntWalk.i64_in _ (by omega)
        have hsx := kx.size
        by_cases hlt5 : s < 5
        · have q1 : (s : Int) < 5 := by omega
          obtain ⟨y, hy⟩ : ∃ y, 4 - s = y := ⟨_, rfl⟩
          have w7 : IntKind.i64.wrap (4 - (s : Int)) = (y : Int) := by rw [IntWalk.i64_in _ (by omega)]; omega
          have hnx := ouK_next s
          rw [hy] at hnx
          have q2 : (y : Int) < 5 := by omega
          have q2' : y < 5 := by omega
          have hOx := OwnG.below hO.out kx
          obtain ⟨c1, _⟩ := hOx.cell y false q2'
          cases hv : (tkK 2).getD y false with
          | true =>
            rw [if_pos hv, List.append_nil] at hnx
            rw [hv] at c1
            have hR2 : Hid (OwnL wr 3 W6.heap.size a2 z c2 (ouK (s + 1))) := Lib.hid (by rw [hnx]; exact hR.out)
            clear hnx hv hy hOx
            go_wp2_with fail
            exact ⟨⟨s + 1, z, a2, c2, by omega, by omega, by go_num, rfl, hR2, kx⟩, by simp [intOf]; omega⟩
          | false =>
            rw [if_neg (by rw [hv]; decide)] at hnx
            rw [hv] at c1
            have HNX := Lib.hid hnx
            have hO1 := hR.out
            clear hnx hv hy hOx hR
            go_wp2_with (at_builtin; refine wl_app_own Tryd.underlying23 elem3 W6.heap.size (.tmp 53) (.tmp 55) rfl rfl rfl rfl (hO1.alloc _) (isL_oneAt _ _ 3 _ rfl) (by simp; omega) (by omega) ?_)
            intro a5 c5 x5 o5 g5 b5 v5
            have hO5 : Hid (OwnL x5 3 W6.heap.size a5 (z + 1) c5 (ouK (s + 1))) := Lib.hid (by rw [HNX.out]; exact o5)
            have kr5 := (kx.alloc hsx (.cells #[.int .i64 (s : Int)] 3)).trans b5
            clear o5 g5 b5 v5 hO1 kx
            go_wp2_with fail
            exact ⟨⟨s + 1, z + 1, a5, c5, by omega, by omega, by go_num, rfl, hO5, kr5⟩, by simp [intOf]; omega⟩
        · obtain rfl : s = 5 := by omega
          have hRI := hR.out.isL
          rw [ouK_all] at hRI
          obtain rfl : z = 3 := hRI.len.symm
          have HRI := Lib.hid hRI
          have kE := (b1.trans (kr.mono b1.size))
          have kF := kE.trans (kx.mono kE.size)
          clear hRI hR
          go_wp2
          go_ret2
          exact ⟨a2, c2, rfl, HRI.out, kF⟩
end Go.Proofs.YtpfaoagddgcmbaaDoor
