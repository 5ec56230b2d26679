/- Walks of the top chapter: blends checked and compared; those who go first. -/
import Derived.Test.YtpfaoagddgcmbaaDoorTh
import Derived.Test.YtpfaoagddgcmbaaDoorHo
namespace Go.Proofs.YtpfaoagddgcmbaaDoor
open Go.RowKit Dock01 Grade03 Blend04 Bench06 Home06
set_option maxRecDepth 100000
def prv (l : List Int) : Nat → Int
  | 0 => -1
  | i + 1 => l.getD i 0
def Asc (n : Nat) (l : List Int) : Prop := ∀ i, i < l.length → 0 ≤ l.getD i 0 ∧ l.getD i 0 ≤ (n : Int) - 1 ∧ prv l i < l.getD i 0
theorem hom_asc (n k m : Nat) : Asc n (hom n k m) := by
  intro i hi
  have h1 : (hom n k m).getD i 0 ∈ hom n k m := by rw [List.getD, List.getElem?_eq_getElem hi]; exact List.getElem_mem hi
  have h2 := hom_rng h1
  refine ⟨h2.1, h2.2, ?_⟩
  cases i with
  | zero => rw [prv]; omega
  | succ i =>
    have := List.pairwise_iff_getElem.1 (hom_pair n k m) i (i + 1) (by omega) hi (by omega)
    rw [prv, List.getD, List.getD, List.getElem?_eq_getElem hi, List.getElem?_eq_getElem (by omega : i < (hom n k m).length)]
    simpa using this
set_option maxHeartbeats 4000000 in
theorem bCheck_ok (a : Option Addr) (n m c : Nat) (l : List Int) (w : World) (h : IsL w a m c l) (h1 : 1 ≤ n) (h10 : n ≤ 10) (hA : Asc n l) (hm : m ≤ 1000) :
    Calls Tryd.prog 28 #[.int .i64 (n : Int), .slice a m c] w fun e w' => e = .returned (.int .i64 0) ∧ w = w' := by
  have hle := h.le
  have hcap := h.cap
  have HL := Lib.hid h.len
  have HH := Lib.hid h
  have HA := Lib.hid hA
  have H1 := Lib.hid (fun w => bwithin_yes (n : Int) 1 10 w (by omega) (by omega))
  have w0 : IntKind.i64.wrap ((n : Int) - 1) = (n : Int) - 1 := IntWalk.i64_in _ (by omega)
  clear h hA
  go_enter Tryd.func28, Tryd.ntmps28
  go_wp2_with fail
  refine (H1.out _).mono ?_
  rintro e w1 ⟨rfl, rfl⟩
  go_wp2_with fail
  go_loopw [13, 5] (fun vi vl wr => ∃ i : Nat, i ≤ m ∧ vi = .int .i64 (i : Int) ∧ vl = .int .i64 (prv l i) ∧ w = wr) (fun vi _ _ => m - (intOf vi).toNat)
  case atStart => exact ⟨0, by omega, rfl, rfl, rfl⟩
  case round =>
    obtain ⟨i, hi, rfl, rfl, rfl⟩ := hrel
    have w9 : IntKind.i64.wrap ((i : Int) + 1) = (i : Int) + 1 := IntWalk.i64_in _ (by omega)
    by_cases hlt : i < m
    · have q1 : (i : Int) < (m : Int) := by omega
      obtain ⟨b', o', rfl, _, hcell⟩ := HH.out.cells (by omega)
      have c1 := hcell i hlt
      have ha := HA.out i (by rw [HL.out]; exact hlt)
      have hnx : prv l (i + 1) = l.getD i 0 := rfl
      obtain ⟨x, hx⟩ : ∃ x, l.getD i 0 = x := ⟨_, rfl⟩
      rw [hx] at c1 ha hnx
      have HNX := Lib.hid hnx
      have H2 := Lib.hid (fun w => bwithin_yes x 0 ((n : Int) - 1) w ha.1 ha.2.1)
      have q2 : ¬ x ≤ prv l i := by omega
      generalize prv l i = y at *
      clear hcell hx hnx
      go_wp2_with fail
      refine (H2.out _).mono ?_
      rintro e w1 ⟨rfl, rfl⟩
      go_wp2_with fail
      exact ⟨⟨i + 1, by omega, by go_num, by rw [HNX.out], by simp⟩, by simp [intOf]; omega⟩
    · obtain rfl : i = m := by omega
      go_wp2
      go_ret
      exact ⟨rfl, rfl⟩
set_option maxHeartbeats 4000000 in
theorem away_zero (a b : Option Addr) (n m c d : Nat) (l l' : List Int) (w : World) (h : IsL w a n c l) (h' : IsL w b m d l') (hs : ∀ x ∈ l, x ∈ l') (hn : n ≤ 1000) :
    Calls Tryd.prog 74 #[.slice a n c, .slice b m d] w fun e w' => e = .returned (.int .i64 0) ∧ w = w' := by
  have hle := h.le
  have hcap := h.cap
  have HL := Lib.hid h.len
  have HH := Lib.hid h
  have HH' := Lib.hid h'
  have HS := Lib.hid hs
  clear h h' hs
  go_enter Tryd.func74, Tryd.ntmps74
  go_wp2_with fail
  go_loopw [10, 5] (fun vi vl wr => ∃ i : Nat, i ≤ n ∧ vi = .int .i64 (i : Int) ∧ vl = .int .i64 0 ∧ w = wr) (fun vi _ _ => n - (intOf vi).toNat)
  case atStart => exact ⟨0, by omega, rfl, rfl, rfl⟩
  case round =>
    obtain ⟨i, hi, rfl, rfl, rfl⟩ := hrel
    have w9 : IntKind.i64.wrap ((i : Int) + 1) = (i : Int) + 1 := IntWalk.i64_in _ (by omega)
    by_cases hlt : i < n
    · have q1 : (i : Int) < (n : Int) := by omega
      obtain ⟨b', o', rfl, _, hcell⟩ := HH.out.cells (by omega)
      have c1 := hcell i hlt
      have hm : l.getD i 0 ∈ l := by rw [List.getD, List.getElem?_eq_getElem (by rw [HL.out]; exact hlt)]; exact List.getElem_mem _
      have hm' := HS.out _ hm
      have HC := Lib.hid (contains_yes b m d l' (l.getD i 0) w HH'.out hm')
      generalize l.getD i 0 = x at *
      clear hcell hm hm'
      go_wp2_with fail
      refine HC.out.mono ?_
      rintro e w1 ⟨rfl, rfl⟩
      go_wp2_with fail
      exact ⟨⟨i + 1, by omega, by go_num, rfl, by simp⟩, by simp [intOf]; omega⟩
    · obtain rfl : i = n := by omega
      go_wp2
      go_ret
      exact ⟨rfl, rfl⟩
theorem both_ok (a b : Option Addr) (n m c d : Nat) (l l' : List Int) (w : World) (h : IsL w a m c l) (h' : IsL w b m d l') (h1 : 1 ≤ n) (h10 : n ≤ 10) (hA : Asc n l) (hA' : Asc n l') (hm : m ≤ 1000) :
    Calls Tryd.prog 73 #[.int .i64 (n : Int), .slice a m c, .slice b m d] w fun e w' => e = .returned (.int .i64 0) ∧ w = w' := by
  have H1 := Lib.hid (bCheck_ok a n m c l w h h1 h10 hA hm)
  have H2 := Lib.hid (bCheck_ok b n m d l' w h' h1 h10 hA' hm)
  have q : ((m : Int) != (m : Int)) = false := by simp
  clear h h' hA hA'
  go_enter Tryd.func73, Tryd.ntmps73
  go_wp2_with fail
  refine H1.out.mono ?_
  rintro e w1 ⟨rfl, rfl⟩
  go_wp2_with fail
  refine H2.out.mono ?_
  rintro e w1 ⟨rfl, rfl⟩
  go_wp2_with fail
  go_ret
  exact ⟨rfl, rfl⟩
theorem Away_zero (a b : Option Addr) (n m c d : Nat) (l : List Int) (w : World) (h : IsL w a m c l) (h' : IsL w b m d l) (h1 : 1 ≤ n) (h10 : n ≤ 10) (hA : Asc n l) (hm : m ≤ 1000) :
    Calls Tryd.prog 30 #[.int .i64 (n : Int), .slice a m c, .slice b m d] w fun e w' => e = .returned (.tuple #[.int .i64 0, .int .i64 0]) ∧ w = w' := by
  have H1 := Lib.hid (both_ok a b n m c d l l w h h' h1 h10 hA hA hm)
  have H2 := Lib.hid (away_zero a b m m c d l l w h h' (fun x hx => hx) hm)
  clear h h' hA
  go_enter Tryd.func30, Tryd.ntmps30
  go_wp2_with fail
  refine H1.out.mono ?_
  rintro e w1 ⟨rfl, rfl⟩
  go_wp2_with fail
  refine H2.out.mono ?_
  rintro e w1 ⟨rfl, rfl⟩
  go_wp2_with fail
  go_ret2
  exact ⟨rfl, rfl⟩
set_option maxHeartbeats 4000000 in
theorem home_any (p n k m : Nat) (w : World) (hp : w.cell? ⟨p, 0, none⟩ = some (.int .i64 (n : Int))) (h1 : 1 ≤ n) (h10 : n ≤ 10) (hk : 1 ≤ k) (hk2 : k ≤ 1000) (hm : m ≤ n) :
    Calls Tryd.prog 26 #[.int .i64 (m : Int), .int .i64 (k : Int), .pointer (some ⟨p, 0, none⟩)] w fun e w' => ∃ a c, e = .returned (.tuple #[.slice a m c, .bool true]) ∧ IsL w' a m c (hom n k m) ∧ Below w.heap.size w w' := by
  have hpl : p < w.heap.size := by
    rcases Nat.lt_or_ge p w.heap.size with h2 | h2
    · exact h2
    · exfalso
      have : w.heap[p]? = none := Array.getElem?_eq_none h2
      simp [World.cell?, this] at hp
  have HW : Hid (∀ (r : Nat) w, r < n → Calls Tryd.prog 27 #[.int .i64 (n : Int), .int .i64 (k : Int), .int .i64 (r : Int)] w fun e w' => e = .returned (.tuple #[.int .i64 (whenG (k : Int) n (r : Int) 0), .int .i64 0]) ∧ w = w') := Lib.hid (fun r w h => by
    have := When_ok (n : Int) (k : Int) (r : Int) w (by omega) (by omega) (by omega) (by omega) (by omega) (by omega)
    rwa [Int.toNat_natCast] at this)
  have HLEN := Lib.hid (hom_len (n := n) hk hm)
  have HASC := Lib.hid (hom_asc n k m)
  have HPP := Lib.hid hp
  clear hp
  go_enter Tryd.func26, Tryd.ntmps26
  have hp0 := HPP.out
  go_wp2_with fail
  clear hp0
  go_loopw [12, 7] (fun vr vo wr => ∃ (r z : Nat) (a : Option Addr) (c : Nat), r ≤ n ∧ z ≤ r ∧ vr = .int .i64 (r : Int) ∧ vo = .slice a z c ∧ Hid (OwnL wr 3 w.heap.size a z c (homK n k m r)) ∧ Below w.heap.size w wr) (fun vr _ _ => n - (intOf vr).toNat)
  case atStart => exact ⟨0, 0, none, 0, by omega, by omega, rfl, rfl, Lib.hid (OwnL.nilL _ _ _), Below.refl _ _⟩
  case round =>
    obtain ⟨r, z, a, c, hr, hzr, rfl, rfl, hO, kr⟩ := hrel
    have w9 : IntKind.i64.wrap ((r : Int) + 1) = (r : Int) + 1 := IntWalk.i64_in _ (by omega)
    have hsr := kr.size
    have hpr : wr.cell? ⟨p, 0, none⟩ = some (.int .i64 (n : Int)) := by rw [kr.cell (p := ⟨p, 0, none⟩) hpl]; exact HPP.out
    by_cases hlt : r < n
    · have q1 : (r : Int) < (n : Int) := by omega
      have HW2 := Lib.hid (fun w => HW.out r w hlt)
      have hnx := homK_next n k m r
      generalize whenG (k : Int) n (r : Int) 0 = v at *
      by_cases hv : v < (m : Int)
      · rw [if_pos hv] at hnx
        have HNX := Lib.hid hnx
        have hO1 := hO.out
        clear hnx hO
        go_wp2_with fail
        refine (HW2.out _).mono ?_
        rintro e x4 ⟨rfl, rfl⟩
        go_wp2_with (at_builtin; refine wl_app_own Tryd.underlying23 elem3 w.heap.size (.tmp 27) (.tmp 29) rfl rfl rfl rfl (hO1.alloc _) (isL_oneAt _ _ 3 _ rfl) (by simp; omega) (by omega) ?_)
        intro a5 c5 x5 o5 g5 b5 v5
        have hO5 : Hid (OwnL x5 3 w.heap.size a5 (z + 1) c5 (homK n k m (r + 1))) := Lib.hid (by rw [HNX.out]; exact o5)
        have kr5 := (kr.alloc hsr (.cells #[.int .i64 (r : Int)] 3)).trans b5
        clear o5 g5 b5 v5 hO1 kr
        go_wp2_with fail
        exact ⟨⟨r + 1, z + 1, a5, c5, by omega, by omega, by go_num, rfl, hO5, kr5⟩, by simp [intOf]; omega⟩
      · rw [if_neg hv, List.append_nil] at hnx
        have hO5 : Hid (OwnL wr 3 w.heap.size a z c (homK n k m (r + 1))) := Lib.hid (by rw [hnx]; exact hO.out)
        clear hnx hO
        go_wp2_with fail
        refine (HW2.out _).mono ?_
        rintro e x4 ⟨rfl, rfl⟩
        go_wp2_with fail
        exact ⟨⟨r + 1, z, a, c, by omega, by omega, by go_num, rfl, hO5, kr⟩, by simp [intOf]; omega⟩
    · obtain rfl : r = n := by omega
      have hI := hO.out.isL
      have hzl := hI.len
      obtain rfl : z = m := by rw [← hzl]; exact HLEN.out
      have HC := Lib.hid (bCheck_ok a r z c _ wr hI h1 h10 HASC.out (by omega))
      have q3 : ((z : Int) == (z : Int)) = true := by simp
      have HI := Lib.hid hI
      clear hI hzl hO
      go_wp2_with fail
      refine HC.out.mono ?_
      rintro e x6 ⟨rfl, rfl⟩
      go_wp2_with fail
      go_ret2
      exact ⟨a, c, rfl, HI.out, kr⟩
end Go.Proofs.YtpfaoagddgcmbaaDoor
