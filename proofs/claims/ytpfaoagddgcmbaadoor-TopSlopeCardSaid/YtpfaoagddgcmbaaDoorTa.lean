/- Walks of the top chapter: the examples of chapters 1 to 3. -/
import Derived.Test.YtpfaoagddgcmbaaDoorDg
import Derived.Test.YtpfaoagddgcmbaaDoorHm
import Derived.Test.YtpfaoagddgcmbaaDoorGc
namespace Go.Proofs.YtpfaoagddgcmbaaDoor
open Go.RowKit Dock01 Heap02 Grade03
set_option maxRecDepth 100000
theorem isH_lit (w : World) (L : List Hp) (cs : Array Value) (t : TypeId) (g n : Nat) (hg : g = w.heap.size) (hn : n = L.length) (hc : cs = (pairF L).toArray) (hb : n ≤ 9223372036854775807) : IsH (w.alloc (.cells cs t)) (some ⟨g, 0, none⟩) n n L := by
  subst hg hn hc
  refine ⟨rfl, Nat.le_refl _, hb, fun _ => ⟨_, rfl, by simp, fun i hi => ?_⟩⟩
  have h0 : (w.alloc (.cells (pairF L).toArray t)).heap[w.heap.size]? = some (.cells (pairF L).toArray t (0, 0)) := heap_alloc_new w _
  obtain ⟨e1, e2⟩ := pairF_fst L i hi
  constructor
  · rw [World.cell?]; simp only [h0]; simpa using e1
  · rw [World.cell?]; simp only [h0]; simpa using e2
theorem isL_litAt (w : World) (xs : List Int) (cs : Array Value) (t : TypeId) (g n : Nat) (hg : g = w.heap.size) (hn : n = xs.length) (hc : cs = (xs.map (Value.int .i64)).toArray) (hb : n ≤ 9223372036854775807) :
    IsL (w.alloc (.cells cs t)) (some ⟨g, 0, none⟩) n n xs := by
  subst hg
  exact isL_lit w xs cs t n hn hc hb
theorem Park_c (a : Option Addr) (w : World) (hT : Tab w) (h : IsL w a 4 4 [2, 2, 0, 2]) : Calls Tryd.prog 21 #[.int .i64 4, .slice a 4 4] w fun e w' => ∃ a' c', e = .returned (.tuple #[.slice a' 4 c', .int .i64 0]) ∧ IsL w' a' 4 c' [2, 3, 0, -1] ∧ Below w.heap.size w w' := by
  refine (Park_any a 4 4 4 [2, 2, 0, 2] w hT h (by decide) (by decide) (by decide) ?_).mono ?_
  · intro i hi
    have hi : i < 4 := hi
    match i with
    | 0 => simp
    | 1 => simp
    | 2 => simp
    | 3 => simp
    | k + 4 => omega
  · rintro e w1 ⟨a', c', rfl, h1, b1⟩
    have e : parkL 4 [2, 2, 0, 2] = [2, 3, 0, -1] := by decide +kernel
    rw [e] at h1
    exact ⟨a', c', rfl, h1.isL, b1⟩
theorem Plan_c (a : Option Addr) (w : World) (h : IsH w a 2 2 [(0, 1), (0, 0)]) : Calls Tryd.prog 12 #[.slice a 2 2, .int .i64 1] w fun e w' => ∃ a' c', e = .returned (.tuple #[.slice a' 2 c', .int .i64 0]) ∧ IsL w' a' 2 c' [1, 0] ∧ Below w.heap.size w w' := by
  refine (Plan_any a 2 2 [(0, 1), (0, 0)] w h (by decide) (by decide) ?_ ?_).mono ?_
  · intro x hx
    simp at hx
    rcases hx with rfl | rfl <;> decide
  · exact ⟨[((0, 1), 1), ((0, 0), 0)], List.Perm.refl _, by decide, by intro z hz; simp at hz; rcases hz with rfl | rfl <;> decide⟩
  · rintro e w1 ⟨a', c', O, rfl, h1, b1, hP⟩
    have hl := h1.len
    obtain ⟨x, y, rfl⟩ : ∃ x y, O = [x, y] := by
      match O, hl with
      | [x, y], _ => exact ⟨x, y, rfl⟩
    have h2 := hP.bd 0 (by decide)
    have h3 := hP.bd 1 (by decide)
    have h4 := hP.nd
    simp at h2 h3 h4
    obtain rfl : y = 0 := by omega
    obtain rfl : x = 1 := by omega
    exact ⟨a', c', rfl, h1.isL, b1⟩
set_option maxHeartbeats 4000000 in
theorem waitingWorks_any (w : World) (hT : Tab w) : Calls Tryd.prog 59 #[] w fun e w' => e = .returned (.bool true) ∧ Below w.heap.size w w' := by
  have HT := Lib.hid hT
  clear hT
  have k := Below.refl w.heap.size w
  go_enter Tryd.func59, Tryd.ntmps59
  go_wp2_with fail
  refine (list_any _ _ _ _).mono ?_
  rintro e w1 ⟨rfl, rfl⟩
  go_wp2_with fail
  have k1 : Below w.heap.size w (w.alloc (.cells #[.int .i64 2, .int .i64 2, .int .i64 0, .int .i64 2] 3)) := k.alloc (Nat.le_refl _) _
  refine (Park_c _ _ (HT.out.below k1) (isL_litAt w [2, 2, 0, 2] _ _ _ _ rfl rfl rfl (by decide))).mono ?_
  rintro e w2 ⟨a1, c1, rfl, h1, b1⟩
  have k2 := k1.trans (b1.mono k1.size)
  have hs2 := k2.size
  clear b1 k1
  go_wp2_with fail
  have k3 : Below w.heap.size w (w2.alloc (.cells #[.int .i64 0, .int .i64 1, .int .i64 0, .int .i64 0] 27)) := k2.alloc hs2 _
  have h1' := h1.alloc (.cells #[.int .i64 0, .int .i64 1, .int .i64 0, .int .i64 0] 27)
  refine (Plan_c _ _ (isH_lit w2 [(0, 1), (0, 0)] _ _ _ _ rfl rfl rfl (by decide))).mono ?_
  rintro e w3 ⟨a2, c2, rfl, h2, b2⟩
  have h1'' := h1'.below b2
  have k4 := k3.trans (b2.mono k3.size)
  have hs4 := k4.size
  clear b2 k3 k2 h1 h1'
  go_wp2_with fail
  refine (list_any _ _ _ _).mono ?_
  rintro e w4 ⟨rfl, rfl⟩
  go_wp2_with fail
  have k5 : Below w.heap.size w (w3.alloc (.cells #[.int .i64 2, .int .i64 3, .int .i64 0, .int .i64 (-1)] 3)) := k4.alloc hs4 _
  have h2' := h2.alloc (.cells #[.int .i64 2, .int .i64 3, .int .i64 0, .int .i64 (-1)] 3)
  refine (same_yes _ _ _ _ _ _ [2, 3, 0, -1] [2, 3, 0, -1] _ (h1''.alloc _) (isL_litAt w3 [2, 3, 0, -1] _ _ _ _ rfl rfl rfl (by decide)) rfl).mono ?_
  rintro e w5 ⟨rfl, b5⟩
  have h2'' := h2'.below b5
  have k6 := k5.trans (b5.mono k5.size)
  have hs6 := k6.size
  clear b5 k5 k4 h2 h2' h1''
  go_wp2_with fail
  refine (list_any _ _ _ _).mono ?_
  rintro e w6 ⟨rfl, rfl⟩
  go_wp2_with fail
  have k7 : Below w.heap.size w (w5.alloc (.cells #[.int .i64 1, .int .i64 0] 3)) := k6.alloc hs6 _
  refine (same_yes _ _ _ _ _ _ [1, 0] [1, 0] _ (h2''.alloc _) (isL_litAt w5 [1, 0] _ _ _ _ rfl rfl rfl (by decide)) rfl).mono ?_
  rintro e w7 ⟨rfl, b7⟩
  have k8 := k7.trans (b7.mono k7.size)
  go_wp2_with fail
  go_ret
  exact ⟨rfl, k8⟩
set_option maxHeartbeats 4000000 in
theorem gradesWork_any (w : World) (hT : Tab w) : Calls Tryd.prog 17 #[] w fun e w' => e = .returned (.bool true) ∧ Below w.heap.size w w' := by
  have HT := Lib.hid hT
  clear hT
  have k := Below.refl w.heap.size w
  go_enter Tryd.func17, Tryd.ntmps17
  go_wp2_with fail
  refine (list_any _ _ _ _).mono ?_
  rintro e w1 ⟨rfl, rfl⟩
  go_wp2_with fail
  have k1 : Below w.heap.size w (w.alloc (.cells #[.int .i64 1, .int .i64 3, .int .i64 0, .int .i64 2] 3)) := k.alloc (Nat.le_refl _) _
  refine (Code_any _ _ _ [1, 3, 0, 2] _ (isL_litAt w [1, 3, 0, 2] _ _ _ _ rfl rfl rfl (by decide))).mono ?_
  rintro e w2 ⟨a1, m1, c1, rfl, h1, b1⟩
  rw [show codE [1, 3, 0, 2] = [1, 2, 0, 0] by decide +kernel] at h1
  rw [show chkE [1, 3, 0, 2] = 0 by decide +kernel]
  have k2 := k1.trans (b1.mono k1.size)
  have hs2 := k2.size
  clear b1 k1
  go_wp2_with fail
  refine (list_any _ _ _ _).mono ?_
  rintro e w3 ⟨rfl, rfl⟩
  go_wp2_with fail
  refine (list_any _ _ _ _).mono ?_
  rintro e w3 ⟨rfl, rfl⟩
  go_wp2_with fail
  have k3 : Below w.heap.size w ((w2.alloc (.cells #[.int .i64 1, .int .i64 3, .int .i64 0, .int .i64 2] 3)).alloc (.cells #[.int .i64 3, .int .i64 1, .int .i64 2, .int .i64 0] 3)) := (k2.alloc hs2 _).alloc (by simp; omega) _
  have h1' := (h1.alloc (.cells #[.int .i64 1, .int .i64 3, .int .i64 0, .int .i64 2] 3)).alloc (.cells #[.int .i64 3, .int .i64 1, .int .i64 2, .int .i64 0] 3)
  refine (Way_any _ _ _ _ _ _ [1, 3, 0, 2] [3, 1, 2, 0] _ ((isL_litAt w2 [1, 3, 0, 2] _ _ _ _ rfl rfl rfl (by decide)).alloc _) (isL_litAt _ [3, 1, 2, 0] _ _ _ _ (by simp) rfl rfl (by decide))).mono ?_
  rintro e w4 ⟨a2, m2, c2, rfl, h2, b2⟩
  rw [show (if bothE [1, 3, 0, 2] [3, 1, 2, 0] = 0 then wayR [3, 1, 2, 0] [1, 3, 0, 2] else []) = [0, 2] by decide +kernel] at h2
  rw [show bothE [1, 3, 0, 2] [3, 1, 2, 0] = 0 by decide +kernel]
  have h1'' := h1'.below b2
  have k4 := k3.trans (b2.mono k3.size)
  have hs4 := k4.size
  clear b2 k3 k2 h1 h1'
  go_wp2_with fail
  refine (list_any _ _ _ _).mono ?_
  rintro e w4 ⟨rfl, rfl⟩
  go_wp2_with fail
  have k5 : Below w.heap.size w (w4.alloc (.cells #[.int .i64 1, .int .i64 2, .int .i64 0, .int .i64 0] 3)) := k4.alloc hs4 _
  have h2' := h2.alloc (.cells #[.int .i64 1, .int .i64 2, .int .i64 0, .int .i64 0] 3)
  refine (same_yes _ _ _ _ _ _ [1, 2, 0, 0] [1, 2, 0, 0] _ (h1''.alloc _) (isL_litAt w4 [1, 2, 0, 0] _ _ _ _ rfl rfl rfl (by decide)) rfl).mono ?_
  rintro e w5 ⟨rfl, b5⟩
  have h2'' := h2'.below b5
  have k6 := k5.trans (b5.mono k5.size)
  have hs6 := k6.size
  clear b5 k5 k4 h2 h2' h1''
  go_wp2_with fail
  refine (list_any _ _ _ _).mono ?_
  rintro e w6 ⟨rfl, rfl⟩
  go_wp2_with fail
  have k7 : Below w.heap.size w (w5.alloc (.cells #[.int .i64 0, .int .i64 2] 3)) := k6.alloc hs6 _
  refine (same_yes _ _ _ _ _ _ [0, 2] [0, 2] _ (h2''.alloc _) (isL_litAt w5 [0, 2] _ _ _ _ rfl rfl rfl (by decide)) rfl).mono ?_
  rintro e w7 ⟨rfl, b7⟩
  have k8 := k7.trans (b7.mono k7.size)
  clear b7 k7 k6 h2''
  go_wp2_with fail
  refine (waitingWorks_any _ ?_).mono ?_
  · intro j hj
    have h1 := HT.out j hj
    have hlt : 1 < w.heap.size := by
      rcases Nat.lt_or_ge 1 w.heap.size with h2 | h2
      · exact h2
      · exfalso
        have : w.heap[1]? = none := Array.getElem?_eq_none h2
        simp [World.cell?, this] at h1
    rw [k8.cell (p := ⟨1, j, none⟩) hlt]
    exact h1
  rintro e w8 ⟨rfl, b8⟩
  have k9 := k8.trans (b8.mono k8.size)
  go_wp2_with fail
  go_ret
  exact ⟨rfl, k9⟩
end Go.Proofs.YtpfaoagddgcmbaaDoor
