/- Walks of chapter 2: the first heap that can be turned is taken out (slices.DeleteFunc). -/
import Derived.Test.YtpfaoagddgcmbaaDoorHd
import Derived.Lib.SliceRun
import Derived.Laws.IdiomCopy
import Derived.Laws.EntriesVeiled
namespace Heap02
/-- the first one that begins at h at the latest is gone -/
def DelR (h : Int) (L L' : List Hp) : Prop := (L' = L ∧ ∀ x ∈ L, h < x.1) ∨ ∃ A x C, L = A ++ x :: C ∧ L' = A ++ C ∧ x.1 ≤ h ∧ ∀ y ∈ A, h < y.1
theorem delR_no {h : Int} {L : List Hp} (hno : ∀ i, i < L.length → h < (L.getD i (0, 0)).1) : DelR h L L := .inl ⟨rfl, fun x hx => by
  obtain ⟨i, hi, rfl⟩ := List.mem_iff_getElem.1 hx
  have := hno i hi
  rwa [List.getD, List.getElem?_eq_getElem hi] at this⟩
theorem delR_at {h : Int} {L : List Hp} {k : Nat} (hk : k < L.length) (hx : (L.getD k (0, 0)).1 ≤ h) (hno : ∀ i, i < k → h < (L.getD i (0, 0)).1) : DelR h L (L.eraseIdx k) := by
  refine .inr ⟨L.take k, L.getD k (0, 0), L.drop (k + 1), ?_, List.eraseIdx_eq_take_drop_succ L k, hx, fun y hy => ?_⟩
  · have h1 : L.drop k = L.getD k (0, 0) :: L.drop (k + 1) := by rw [List.drop_eq_getElem_cons hk]; simp [List.getD, hk]
    rw [← h1, List.take_append_drop]
  · obtain ⟨i, hi, rfl⟩ := List.mem_iff_getElem.1 hy
    rw [List.length_take] at hi
    have := hno i (by omega)
    rw [List.getD, List.getElem?_eq_getElem (by omega)] at this
    rw [List.getElem_take]
    exact this
/-- the row while those behind place k move up: up to place j -/
def movR (L : List Hp) (k j : Nat) : List Hp := (L.eraseIdx k).take (j - 1) ++ L.drop (j - 1)
theorem movR_start (L : List Hp) (k : Nat) (_hk : k < L.length) : movR L k (k + 1) = L := by
  unfold movR
  rw [show k + 1 - 1 = k by omega, List.eraseIdx_eq_take_drop_succ, List.take_append_of_le_length (by simp; omega), List.take_take, Nat.min_self, List.take_append_drop]
theorem movR_len (L : List Hp) (k j : Nat) (hk : k < L.length) (hj : k < j) (hjl : j ≤ L.length) : (movR L k j).length = L.length := by
  unfold movR
  rw [List.length_append, List.length_take, List.length_drop, List.length_eraseIdx, if_pos hk]; omega
theorem movR_get (L : List Hp) (k j : Nat) (hk : k < L.length) (hj : k < j) (hjl : j < L.length) : (movR L k j).getD j (0, 0) = L.getD j (0, 0) := by
  unfold movR
  have hl : ((L.eraseIdx k).take (j - 1)).length = j - 1 := by rw [List.length_take, List.length_eraseIdx, if_pos hk]; omega
  rw [List.getD, List.getD, List.getElem?_append_right (by omega), hl, List.getElem?_drop, show j - 1 + (j - (j - 1)) = j by omega]
theorem movR_step (L : List Hp) (k j : Nat) (hk : k < L.length) (hj : k < j) (hjl : j < L.length) : movR L k (j + 1) = (movR L k j).set (j - 1) (L.getD j (0, 0)) := by
  have hl : ((L.eraseIdx k).take (j - 1)).length = j - 1 := by rw [List.length_take, List.length_eraseIdx, if_pos hk]; omega
  have he : (L.eraseIdx k)[j - 1]? = some (L.getD j (0, 0)) := by
    rw [List.getElem?_eraseIdx, if_neg (by omega), show j - 1 + 1 = j by omega, List.getElem?_eq_getElem hjl]
    simp [List.getD, hjl]
  unfold movR
  rw [List.set_append_right _ _ (by omega), hl, Nat.sub_self, show j + 1 - 1 = (j - 1) + 1 by omega, List.take_add_one, he]
  have hd : L.drop (j - 1) = L.getD (j - 1) (0, 0) :: L.drop (j - 1 + 1) := by rw [List.drop_eq_getElem_cons (by omega)]; simp [List.getD, show j - 1 < L.length by omega]
  rw [hd]
  simp
theorem movR_end (L : List Hp) (k : Nat) (hk : k < L.length) : (movR L k L.length).take (L.length - 1) = L.eraseIdx k := by
  unfold movR
  have hl : (L.eraseIdx k).length = L.length - 1 := by rw [List.length_eraseIdx, if_pos hk]
  rw [List.take_append_of_le_length (by rw [List.length_take]; omega), List.take_take, Nat.min_self, List.take_of_length_le (by omega)]
end Heap02
namespace Go.Proofs.YtpfaoagddgcmbaaDoor
open Go.RowKit Heap02

/-- clear(s), s a slice of one heap -/
theorem run_clear_one {P : Program} (w : World) (t e ty : TypeId) (ht : P.underlying t = some (.slice e)) (hv : ∀ w, (zeroValue e).run P w = .ok (.agg #[.int .i64 0, .int .i64 0]) w) (b o c : Nat)
    (h0 : (w.cell? ⟨b, o, none⟩).isSome = true) (h1 : (w.cell? ⟨b, o + 1, none⟩).isSome = true) (f0 : w.frozen? ⟨b, o, none⟩ = false) (f1 : w.frozen? ⟨b, o + 1, none⟩ = false) :
    (Builtin.clear_ #[t] ty #[.slice (some ⟨b, o, none⟩) 1 c]).run P w = .ok (.tuple #[]) ((w.setCell ⟨b, o, none⟩ (.int .i64 0)).setCell ⟨b, o + 1, none⟩ (.int .i64 0)) := by
  have hzc : (Builtin.zeroCells #[Value.int .i64 0, Value.int .i64 0] 1).toList = [Value.int .i64 0, Value.int .i64 0] := by
    apply List.ext_getElem
    · simp [Builtin.zeroCells]
    · intro i h1 h2
      have hi : i = 0 ∨ i = 1 := by simp at h2; omega
      rcases hi with rfl | rfl <;> simp [Builtin.zeroCells]
  have hst := run_storeCells_cells (P := P) b o [Value.int .i64 0, Value.int .i64 0] 0 w
    (by intro j hj; match j, hj with | 0, _ => simpa using h0 | 1, _ => simpa using h1)
    (by intro j hj; match j, hj with | 0, _ => simpa using f0 | 1, _ => simpa using f1)
    (by intro v hv'; simp at hv'; rw [hv']; rfl)
  simp only [Nat.add_zero] at hst
  simp [Builtin.clear_, run_underlying ht, hv, Value.cells, hzc, hst, World.setCells]
variable {w : World} {n c b ph pt pk : Nat} {L : List Hp} {H : Int}
/-- the boxes of the hour, of how many were turned, of the hands -/
structure BoxH (w : World) (ph pt pk : Nat) (H T : Int) : Prop where
  h : ArrV VT w ph 3 [.int .i64 H]
  t : ArrV VT w pt 3 [.int .i64 T]
  k : ArrV VT w pk 3 [.int .i64 1]
theorem BoxH.below {w' : World} {T : Int} (h : BoxH w ph pt pk H T) (hb : Below w.heap.size w w') : BoxH w' ph pt pk H T := ⟨h.h.below hb, h.t.below hb, h.k.below hb⟩
set_option maxHeartbeats 2000000 in
theorem del_yes (x y : Int) (w : World) (hB : BoxH w ph pt pk H 0) (hx : x ≤ H) (h1 : ph ≠ pt) (h2 : pk ≠ pt) :
    Calls Tryd.prog 98 #[.agg #[.int .i64 x, .int .i64 y], .pointer (some ⟨ph, 0, none⟩), .pointer (some ⟨pt, 0, none⟩), .pointer (some ⟨pk, 0, none⟩)] w fun e w' => e = .returned (.bool true) ∧ But (fun k => k = pt) w w' ∧ BoxH w' ph pt pk H 1 := by
  have hb := (Below.refl w.heap.size w).alloc (Nat.le_refl _) (.cells #[.int .i64 x, .int .i64 y] 27)
  have hB2 := hB.below hb
  have z1 := cellT hB2.h 0 rfl
  have z2 := cellT hB2.t 0 rfl
  have z3 := cellT hB2.k 0 rfl
  have z4 := hB2.t.frozen 0
  have HE : Hid (But (fun k => k = pt) w ((w.alloc (.cells #[.int .i64 x, .int .i64 y] 27)).setCell ⟨pt, 0, none⟩ (.int .i64 1)) ∧ BoxH ((w.alloc (.cells #[.int .i64 x, .int .i64 y] 27)).setCell ⟨pt, 0, none⟩ (.int .i64 1)) ph pt pk H 1) := Lib.hid
    ⟨(But.of_below (X := fun k => k = pt) hb).setCell (p := ⟨pt, 0, none⟩) rfl _, hB2.h.other (by show pt ≠ ph; omega) _, hB2.t.set 0 (.int .i64 1), hB2.k.other (by show pt ≠ pk; omega) _⟩
  have w1 : IntKind.i64.wrap (0 + 1) = 1 := by decide
  clear hB hB2 hb
  go_enter Tryd.func98, Tryd.ntmps98
  go_wp2_with fail
  go_ret
  exact ⟨rfl, HE.out⟩
set_option maxHeartbeats 2000000 in
theorem del_no (x y T : Int) (w : World) (hB : BoxH w ph pt pk H T) (hx : H < x ∨ T = 1) :
    Calls Tryd.prog 98 #[.agg #[.int .i64 x, .int .i64 y], .pointer (some ⟨ph, 0, none⟩), .pointer (some ⟨pt, 0, none⟩), .pointer (some ⟨pk, 0, none⟩)] w fun e w' => e = .returned (.bool false) ∧ Below w.heap.size w w' := by
  have hb := (Below.refl w.heap.size w).alloc (Nat.le_refl _) (.cells #[.int .i64 x, .int .i64 y] 27)
  have hB2 := hB.below hb
  have z1 := cellT hB2.h 0 rfl
  have z2 := cellT hB2.t 0 rfl
  have z3 := cellT hB2.k 0 rfl
  clear hB hB2
  by_cases hx2 : x ≤ H
  · obtain rfl : T = 1 := by omega
    go_enter Tryd.func98, Tryd.ntmps98
    go_wp2_with fail
    go_ret
    exact ⟨rfl, hb⟩
  · clear hx
    go_enter Tryd.func98, Tryd.ntmps98
    go_wp2_with fail
    go_ret
    exact ⟨rfl, hb⟩
set_option maxHeartbeats 4000000 in
set_option maxRecDepth 100000 in
theorem idx_any (w : World) (h : IsH w (some ⟨b, 0, none⟩) n c L) (hn : 1 ≤ n) (hB : BoxH w ph pt pk H 0) (h1 : ph ≠ pt) (h2 : pk ≠ pt) :
    Calls Tryd.prog 116 #[.slice (some ⟨b, 0, none⟩) n c, .func (.func 98) #[] #[.pointer (some ⟨ph, 0, none⟩), .pointer (some ⟨pt, 0, none⟩), .pointer (some ⟨pk, 0, none⟩)]] w fun e w' =>
      (e = .returned (.int .i64 (-1)) ∧ (∀ i, i < n → H < (L.getD i (0, 0)).1) ∧ Below w.heap.size w w') ∨
      (∃ k : Nat, k < n ∧ e = .returned (.int .i64 (k : Int)) ∧ (L.getD k (0, 0)).1 ≤ H ∧ (∀ i, i < k → H < (L.getD i (0, 0)).1) ∧ But (fun k => k = pt) w w' ∧ BoxH w' ph pt pk H 1) := by
  have HH := Lib.hid h
  have HB := Lib.hid hB
  have hle := h.le
  have hcap := h.cap
  clear h hB
  go_enter Tryd.func116, Tryd.ntmps116
  go_wp2_with fail
  go_loopw [8] (fun vi wr => ∃ i : Nat, i ≤ n ∧ vi = .int .i64 (i : Int) ∧ Hid (∀ j, j < i → H < (L.getD j (0, 0)).1) ∧ Below w.heap.size w wr) (fun vi _ => n - (intOf vi).toNat)
  case atStart => exact ⟨0, by omega, rfl, Lib.hid (fun j hj => by omega), Below.refl _ _⟩
  case round =>
    obtain ⟨i, hi, rfl, hD, hb⟩ := hrel
    by_cases hlt : i < n
    · have q1 : (i : Int) < (n : Int) := by omega
      have hk := HH.out.below hb
      obtain ⟨b', hb', _, hc⟩ := hk.cells (by omega)
      obtain rfl : b = b' := by simpa using hb'
      obtain ⟨c1, c2⟩ := hc i hlt
      have HBr := HB.out.below hb
      obtain ⟨⟨x, y⟩, hx⟩ : ∃ x, L.getD i (0, 0) = x := ⟨_, rfl⟩
      rw [hx] at c1 c2
      simp only [] at c1 c2
      have HX := Lib.hid hx
      clear hx hb' hc hk
      by_cases hxh : x ≤ H
      · have HC := Lib.hid (del_yes x y wr HBr hxh h1 h2)
        have HR : Hid ((L.getD i (0, 0)).1 ≤ H) := Lib.hid (by rw [HX.out]; exact hxh)
        clear HBr hxh
        go_wp2_with fail
        refine HC.out.mono ?_
        rintro e w2 ⟨rfl, b2, B2⟩
        go_wp2
        go_ret
        exact .inr ⟨i, hlt, rfl, HR.out, hD.out, (But.of_below hb).trans b2, B2⟩
      · have HC := Lib.hid (del_no x y 0 wr HBr (.inl (by omega)))
        have hD2 : Hid (∀ j, j < i + 1 → H < (L.getD j (0, 0)).1) := Lib.hid (fun j hj => by
          by_cases e : j = i
          · rw [e, HX.out]; simp only []; omega
          · exact hD.out j (by omega))
        clear HBr hxh
        go_wp2_with fail
        refine HC.out.mono ?_
        rintro e w2 ⟨rfl, b2⟩
        have k2 := hb.trans (b2.mono hb.size)
        clear b2 c1 c2
        go_wp2
        go_roundw
        case rel => first | exact ⟨i + 1, by omega, by go_num, hD2, k2⟩ | ((repeat apply Exists.intro); exact ⟨⟨i + 1, by omega, by go_num, hD2, k2⟩, rfl⟩)
        case measure => (simp [intOf] <;> omega)
    · obtain rfl : i = n := by omega
      go_wp2
      go_ret
      exact .inl ⟨rfl, hD.out, hb⟩
end Go.Proofs.YtpfaoagddgcmbaaDoor
