/- Walks of chapter 11: Meet, Finer. -/
import Derived.Test.YtjedmiegcbdedaaWg
namespace Go.Proofs.Ytjedmiegcbdedaa
open Go.RowKit Store11

theorem wf2 {x y : Int} (h : (Lit.int .i64 x).wf = true) (h' : (Lit.int .i64 y).wf = true) : enc2.ok [x, y] := ⟨rfl, by intro z hz; simp at hz; rcases hz with rfl | rfl <;> assumption⟩

set_option maxHeartbeats 400000 in
set_option maxRecDepth 100000 in
theorem meet_any (a b : Option Addr) (n c m d : Nat) (l l' : List Int) (w : World) (h : IsL w a n c l) (h' : IsL w b m d l') (hnm : m = n) (h9 : n ≤ 900) (hw : Wf l) (hw' : Wf l') :
    Calls Try.prog 72 #[.slice a n c, .slice b m d] w fun e w' => ∃ a' c', e = .returned (.slice a' n c') ∧ IsL w' a' n c' (meetR l l') ∧ Below w.heap.size w w' := by
  subst hnm
  have hl := h.len
  have hl' := h'.len
  have h2 := (h.alloc (.cells #[.slice a m c] 22)).alloc (.cells #[.slice b m d] 22)
  have h2' := (h'.alloc (.cells #[.slice a m c] 22)).alloc (.cells #[.slice b m d] 22)
  have hbw : Below w.heap.size w ((w.alloc (.cells #[.slice a m c] 22)).alloc (.cells #[.slice b m d] 22)) := ((Below.refl _ _).alloc (Nat.le_refl _) _).alloc (by simp) _
  have hcp : ((w.alloc (.cells #[.slice a m c] 22)).alloc (.cells #[.slice b m d] 22)).cell? ⟨w.heap.size, 0, none⟩ = some (.slice a m c) := by simp
  have hcq : ((w.alloc (.cells #[.slice a m c] 22)).alloc (.cells #[.slice b m d] 22)).cell? ⟨w.heap.size + 1, 0, none⟩ = some (.slice b m d) := by simp
  have hpb : w.heap.size + 1 < ((w.alloc (.cells #[.slice a m c] 22)).alloc (.cells #[.slice b m d] 22)).heap.size := by simp
  have HL := Lib.hid hl
  have HL' := Lib.hid hl'
  clear hl hl'
  go_enter Try.func72, Try.ntmps72
  go_wp2_with fail
  generalize (w.alloc (.cells #[.slice a m c] 22)).alloc (.cells #[.slice b m d] 22) = wb at *
  refine (divided_two 92 (.pointer (some ⟨w.heap.size, 0, none⟩)) (.pointer (some ⟨w.heap.size + 1, 0, none⟩)) wb.heap.size m (zip2 l l') (fun _ w' => Below wb.heap.size wb w') wb (fun _ _ => by simp [go_sem]) (by rw [zip2_len l l' (by rw [HL.out, HL'.out])]; exact HL.out) h9 rfl (Below.refl _ _) (Lib.hid fun i w1 w2 h1 h2 => h1.trans h2) ?_ (Lib.hid fun i w1 hi h1 hB => ?_)).mono ?_
  · intro x hx
    simp only [zip2, List.mem_map] at hx
    obtain ⟨⟨y, z⟩, hyz, rfl⟩ := hx
    exact wf2 (hw _ (List.of_mem_zip hyz).1) (hw' _ (List.of_mem_zip hyz).2)
  · refine (meet1_any w.heap.size (w.heap.size + 1) i a b m c m d l l' w1 (h2.below h1) (h2'.below h1) (by rw [h1.cell (p := ⟨w.heap.size, 0, none⟩) (by show w.heap.size < _; omega)]; exact hcp) (by rw [h1.cell (p := ⟨w.heap.size + 1, 0, none⟩) hpb]; exact hcq) hi hi).mono ?_
    rintro e w2 ⟨rfl, hb⟩
    refine ⟨?_, h1.trans (hb.mono h1.size), Above.of_below hb⟩
    rw [zip2_get l l' i (by rw [HL.out]; exact hi) (by rw [HL'.out]; exact hi)]; rfl
  · rintro e w2 ⟨a', c', rfl, ho, hI, _⟩
    go_wp2
    go_ret
    exact ⟨a', c', rfl, ho.isL, hbw.trans (hI.mono hbw.size)⟩

set_option maxHeartbeats 400000 in
set_option maxRecDepth 100000 in
theorem Equal_yes (a b : Option Addr) (n c m d : Nat) (l : List Int) (w : World) (h : IsL w a n c l) (h' : IsL w b m d l) :
    Calls Try.prog 71 #[.slice a n c, .slice b m d] w fun e w' => e = .returned (.bool true) ∧ Below w.heap.size w w' := by
  obtain rfl : m = n := by rw [← h.len, ← h'.len]
  have hcap := h.cap
  have hle := h.le
  have hcap' := h'.cap
  have hle' := h'.le
  have hr : ((m : Int) != (m : Int)) = false := by simp
  go_enter Try.func71, Try.ntmps71
  go_wp2
  go_loopw [13] (fun vi wr => ∃ k : Nat, k ≤ m ∧ vi = .int .i64 k ∧ Below w.heap.size w wr) (fun vi _ => m - (intOf vi).toNat)
  case atStart => exact ⟨0, by omega, rfl, Below.refl _ _⟩
  case round =>
    obtain ⟨k, hk, rfl, hb⟩ := hrel
    by_cases hlt : k < m
    · obtain ⟨b1, o1, rfl, hb1, hc1⟩ := h.cells (by omega)
      obtain ⟨b2, o2, rfl, hb2, hc2⟩ := h'.cells (by omega)
      have x1 := (hb.cell (p := ⟨b1, o1 + k, none⟩) hb1).trans (hc1 k hlt)
      have x2 := (hb.cell (p := ⟨b2, o2 + k, none⟩) hb2).trans (hc2 k hlt)
      clear hc1 hc2
      generalize l.getD k 0 = x at *
      have q1 : (k : Int) < (m : Int) := by omega
      have hx : (x != x) = false := by simp
      go_wp2
      go_quiet (fail)
      go_wp2
      go_roundw
      case rel => exact ⟨k + 1, by omega, by go_num, belowN hb _⟩
      case measure => simp [intOf]; omega
    · go_wp2
      go_ret
      exact ⟨rfl, hb⟩

/-- the first place at which two lists differ -/
theorem first_diff : ∀ (l l' : List Int), l.length = l'.length → l ≠ l' → ∃ p, p < l.length ∧ l.getD p 0 ≠ l'.getD p 0 ∧ ∀ k, k < p → l.getD k 0 = l'.getD k 0
  | [], [], _, h => absurd rfl h
  | x :: l, y :: l', hl, h => by
    by_cases hxy : x = y
    · subst hxy
      obtain ⟨p, h1, h2, h3⟩ := first_diff l l' (by simpa using hl) (fun e => h (by rw [e]))
      refine ⟨p + 1, by simpa using h1, by simpa using h2, fun k hk => ?_⟩
      cases k with
      | zero => rfl
      | succ k => simpa using h3 k (by omega)
    · exact ⟨0, by simp, by simpa using hxy, fun k hk => by omega⟩

set_option maxHeartbeats 400000 in
set_option maxRecDepth 100000 in
theorem Equal_no (a b : Option Addr) (n c m d : Nat) (l l' : List Int) (w : World) (h : IsL w a n c l) (h' : IsL w b m d l') (hne : l ≠ l') :
    Calls Try.prog 71 #[.slice a n c, .slice b m d] w fun e w' => e = .returned (.bool false) ∧ Below w.heap.size w w' := by
  have hcap := h.cap
  have hle := h.le
  have hcap' := h'.cap
  have hle' := h'.le
  by_cases hnm : m = n
  · subst hnm
    obtain ⟨p, hp, hd, hs⟩ := first_diff l l' (by rw [h.len, h'.len]) hne
    rw [h.len] at hp
    have hr : ((m : Int) != (m : Int)) = false := by simp
    have HS := Lib.hid hs
    clear hs
    go_enter Try.func71, Try.ntmps71
    go_wp2
    go_loopw [13] (fun vi wr => ∃ k : Nat, k ≤ p ∧ vi = .int .i64 k ∧ Below w.heap.size w wr) (fun vi _ => m - (intOf vi).toNat)
    case atStart => exact ⟨0, by omega, rfl, Below.refl _ _⟩
    case round =>
      obtain ⟨k, hk, rfl, hb⟩ := hrel
      have hlt : k < m := by omega
      obtain ⟨b1, o1, rfl, hb1, hc1⟩ := h.cells (by omega)
      obtain ⟨b2, o2, rfl, hb2, hc2⟩ := h'.cells (by omega)
      have x1 := (hb.cell (p := ⟨b1, o1 + k, none⟩) hb1).trans (hc1 k hlt)
      have x2 := (hb.cell (p := ⟨b2, o2 + k, none⟩) hb2).trans (hc2 k hlt)
      have q1 : (k : Int) < (m : Int) := by omega
      clear hc1 hc2
      by_cases hkp : k < p
      · have he := HS.out k hkp
        rw [he] at x1
        generalize l'.getD k 0 = x at *
        have hx : (x != x) = false := by simp
        clear he hd
        go_wp2
        go_quiet (fail)
        go_wp2
        go_roundw
        case rel => exact ⟨k + 1, by omega, by go_num, belowN hb _⟩
        case measure => simp [intOf]; omega
      · obtain rfl : k = p := by omega
        generalize l'.getD k 0 = x at *
        generalize l.getD k 0 = y at *
        have hx : (y != x) = true := by simpa using hd
        clear hd
        go_wp2
        go_quiet (fail)
        go_wp2
        go_ret
        exact ⟨rfl, belowN hb _⟩
  · have hr : ((n : Int) != (m : Int)) = true := by simp; omega
    go_enter Try.func71, Try.ntmps71
    go_wp2
    go_ret
    exact ⟨rfl, Below.refl _ _⟩
theorem Equal_any (a b : Option Addr) (n c m d : Nat) (l l' : List Int) (w : World) (h : IsL w a n c l) (h' : IsL w b m d l') :
    Calls Try.prog 71 #[.slice a n c, .slice b m d] w fun e w' => e = .returned (.bool (l == l')) ∧ Below w.heap.size w w' := by
  by_cases hll : l = l'
  · subst hll; rw [beq_self_eq_true]; exact Equal_yes a b n c m d l w h h'
  · rw [show (l == l') = false by simpa using hll]; exact Equal_no a b n c m d l l' w h h' hll

theorem bothE_zero {l l' : List Int} (h : bothE l l' = 0) : chkL l = 0 ∧ chkL l' = 0 ∧ l.length = l'.length := by
  unfold bothE at h
  split at h
  · omega
  · split at h
    · omega
    · split at h
      · omega
      · omega
theorem chkL_zero {l : List Int} (h : chkL l = 0) : 0 < l.length ∧ l.length ≤ 9 := by
  unfold chkL at h
  split at h
  · omega
  · exact size_pos (by omega)

theorem ret_bi {k : IntKind} {b b' : Bool} {x y : Int} (h : b = b') (h' : x = y) : Ending.returned (.tuple #[.bool b, .int k x]) = .returned (.tuple #[.bool b', .int k y]) := by rw [h, h']

set_option maxHeartbeats 400000 in
set_option maxRecDepth 100000 in
theorem Finer_any (a b : Option Addr) (n c m d : Nat) (l l' : List Int) (w : World) (h : IsL w a n c l) (h' : IsL w b m d l') (hw : Wf l) (hw' : Wf l') :
    Calls Try.prog 29 #[.slice a n c, .slice b m d] w fun e w' => e = .returned (.tuple #[.bool (finerB l l'), .int .i64 (bothE l l')]) ∧ Below w.heap.size w w' := by
  by_cases hz : bothE l l' = 0
  · have ⟨h1, h2, h3⟩ := bothE_zero hz
    have hl9 := (chkL_zero h1).2
    obtain rfl : m = n := by rw [← h.len, ← h'.len, h3]
    rw [h.len] at hl9
    have HZ := Lib.hid hz
    have HV : Hid ((meetR l l' == l) = finerB l l') := Lib.hid (by rw [finerB, if_pos hz])
    clear hz h1 h2 h3
    go_enter Try.func29, Try.ntmps29
    go_wp2_with (go_at_call 70; refine (both_any a b m c m d l l' _ h h').mono ?_; rintro e w' ⟨rfl, rfl⟩; rw [HZ.out])
    refine (meet_any a b m c m d l l' _ h h' rfl (by omega) hw hw').mono ?_
    rintro e w1 ⟨a1, c1, rfl, hm, hb⟩
    go_wp2_with (go_at_call 71; refine (Equal_any a1 a m c1 m c _ l _ hm (h.below hb)).mono ?_; rintro e w' ⟨rfl, hb2⟩)
    go_ret2
    exact ⟨ret_bi HV.out HZ.out.symm, hb.trans (hb2.mono hb.size)⟩
  · have hq : (bothE l l' != 0) = true := by simpa using hz
    have HV : Hid (false = finerB l l') := Lib.hid (by rw [finerB, if_neg hz])
    clear hz
    go_enter Try.func29, Try.ntmps29
    go_wp2_with (go_at_call 70; refine (both_any a b n c m d l l' _ h h').mono ?_; rintro e w' ⟨rfl, rfl⟩)
    go_ret2
    exact ⟨ret_bi HV.out rfl, Below.refl _ _⟩

set_option maxHeartbeats 400000 in
set_option maxRecDepth 100000 in
theorem Meet_any (a b : Option Addr) (n c m d : Nat) (l l' : List Int) (w : World) (h : IsL w a n c l) (h' : IsL w b m d l') (hw : Wf l) (hw' : Wf l') :
    Calls Try.prog 33 #[.slice a n c, .slice b m d] w fun e w' => ∃ a' n' c', e = .returned (.tuple #[.slice a' n' c', .int .i64 (bothE l l')]) ∧ IsL w' a' n' c' (meetL l l') ∧ Below w.heap.size w w' := by
  by_cases hz : bothE l l' = 0
  · have ⟨h1, h2, h3⟩ := bothE_zero hz
    have hl9 := (chkL_zero h1).2
    obtain rfl : m = n := by rw [← h.len, ← h'.len, h3]
    rw [h.len] at hl9
    have HZ := Lib.hid hz
    have HV : Hid (meetR l l' = meetL l l') := Lib.hid (by rw [meetL, if_pos hz])
    clear hz h1 h2 h3
    go_enter Try.func33, Try.ntmps33
    go_wp2_with (go_at_call 70; refine (both_any a b m c m d l l' _ h h').mono ?_; rintro e w' ⟨rfl, rfl⟩; rw [HZ.out])
    refine (meet_any a b m c m d l l' _ h h' rfl (by omega) hw hw').mono ?_
    rintro e w1 ⟨a1, c1, rfl, hm, hb⟩
    go_wp2
    go_ret2
    exact ⟨a1, m, c1, ret_si HZ.out.symm, HV.out ▸ hm, hb⟩
  · have hq : (bothE l l' != 0) = true := by simpa using hz
    have HV : Hid ([] = meetL l l') := Lib.hid (by rw [meetL, if_neg hz])
    clear hz
    go_enter Try.func33, Try.ntmps33
    go_wp2_with (go_at_call 70; refine (both_any a b n c m d l l' _ h h').mono ?_; rintro e w' ⟨rfl, rfl⟩)
    go_ret2
    exact ⟨none, 0, 0, rfl, HV.out ▸ IsL.nilL _, Below.refl _ _⟩
end Go.Proofs.Ytjedmiegcbdedaa
