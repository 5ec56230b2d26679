/- Walks of chapter 11: the division of keys. -/
import Derived.Test.YtjedmiegcbdedaaWb
namespace Go.Proofs.Ytjedmiegcbdedaa
open Go.RowKit Store11

/-- Blocks from B on are as they were. -/
structure Above (B : Nat) (w w' : World) : Prop where
  size : w.heap.size ≤ w'.heap.size
  block : ∀ k, B ≤ k → k < w.heap.size → w'.heap[k]? = w.heap[k]?
theorem Above.refl (B : Nat) (w : World) : Above B w w := ⟨Nat.le_refl _, fun _ _ _ => rfl⟩
theorem Above.of_below {B : Nat} {w w' : World} (h : Below w.heap.size w w') : Above B w w' := ⟨h.size, fun k _ hk => h.block k hk⟩
theorem OwnL.above {w w' : World} {e B a n c} {l : List Int} (h : OwnL w e B a n c l) (hA : Above B w w') : OwnL w' e B a n c l := by
  obtain ⟨h1, h2⟩ := h
  refine ⟨h1, ?_⟩
  rcases h2 with h2 | ⟨g, cap, cur, hv, hg, hh, r⟩
  · exact .inl h2
  · exact .inr ⟨g, cap, cur, hv, hg, by rw [hA.block g hg (Array.getElem?_eq_some_iff.1 hh).1]; exact hh, r⟩
theorem MapF.above {P : Program} {k e : TypeId} {α : Type} {E : KeyEnc P k α} {w w' : World} {B b N sz : Nat} {f : α → Option Int} (h : MapF E e w b N sz f) (hB : B ≤ b) (hA : Above B w w') : MapF E e w' b N sz f := by
  have hlt := h.lt
  obtain ⟨D, ⟨es, clock, hh, F, hs, hD⟩, r⟩ := h
  exact ⟨D, ⟨es, clock, (hA.block b hB hlt).trans hh, F, hs, hD⟩, r⟩
theorem RoomsAt.above {k : TypeId} {α : Type} [DecidableEq α] {E : KeyEnc Try.prog k α} {T : TypeId} {w w' : World} {B r : Nat} {st : List α × List Int} (h : RoomsAt E T w B r st) (hA : Above B w w') : RoomsAt E T w' B r st := by
  obtain ⟨m, a, n, c, hh, hBr, ho, hs, hln, hm⟩ := h
  refine ⟨m, a, n, c, (hA.block r hBr (Array.getElem?_eq_some_iff.1 hh).1).trans hh, hBr, ho.above hA, hs, hln, ?_⟩
  rcases hm with h | ⟨b, h1, h2, h3, h4, h5⟩
  · exact .inl h
  · exact .inr ⟨b, h1, h2, h3, h4, h5.above h2 hA⟩
theorem foldl_divS_len {α : Type} [DecidableEq α] : ∀ (l : List α) (st : List α × List Int), (l.foldl divS st).2.length = st.2.length + l.length
  | [], _ => rfl
  | x :: l, st => by
    rw [List.foldl_cons, foldl_divS_len l]
    have : (divS st x).2.length = st.2.length + 1 := by unfold divS; split <;> simp
    rw [this]; simp; omega
theorem take_succ_any {α : Type} (l : List α) (d : α) (k : Nat) (h : k < l.length) : l.take (k + 1) = l.take k ++ [l.getD k d] := by
  rw [List.take_succ_eq_append_getElem h]; simp [List.getD, h]

set_option maxHeartbeats 4000000 in
set_option maxRecDepth 100000 in
theorem divided_int1 (F : Nat) (c1 : Value) (B n : Nat) (keys : List Int) (Inv : Nat → World → Prop) (w : World) (hcf : ∀ (args : Array Value) (w : World), (callFunc F args).run Try.prog w = .ok (.enter F args) w)
    (hn : keys.length = n) (hn9 : n ≤ 900) (hBw : w.heap.size = B) (h0 : Inv 0 w) (stab : Hid (∀ i w1 w2, Inv i w1 → Below B w1 w2 → Inv i w2)) (hok : ∀ x ∈ keys, (encInt).ok x)
    (hkey : Hid (∀ (i : Nat) w1, i < n → Inv i w1 → B ≤ w1.heap.size → Calls Try.prog F #[.int .i64 i, c1] w1 fun e w2 => e = .returned ((encInt).enc (keys.getD i 0)) ∧ Inv (i + 1) w2 ∧ Above B w1 w2)) :
    Calls Try.prog 60 #[.int .i64 n, .func (.func F) #[] #[c1]] w fun e w' => ∃ a c, e = .returned (.slice a n c) ∧ OwnL w' 3 B a n c (divL keys) ∧ Inv n w' ∧ B ≤ w'.heap.size := by
  have hbA : Below B w (w.alloc (.cells #[.map none, .slice none 0 0] 87)) := (Below.refl B w).alloc (by omega) _
  have hI0 : Inv 0 (w.alloc (.cells #[.map none, .slice none 0 0] 87)) := stab.out 0 _ _ h0 hbA
  have hR0 : RoomsAt encInt 87 (w.alloc (.cells #[.map none, .slice none 0 0] 87)) B B ([], []) := by
    refine ⟨.map none, none, 0, 0, ?_, Nat.le_refl _, OwnL.nilL _ _ _, Sep.none_right _, Nat.le_refl _, .inl ⟨rfl, rfl⟩⟩
    rw [← hBw]; exact heap_alloc_new w _
  have HN := Lib.hid hn
  have HO := Lib.hid hok
  have HB := Lib.hid hBw
  have hsz : B ≤ (w.alloc (.cells #[.map none, .slice none 0 0] 87)).heap.size := by simp; omega
  clear hn hBw hok hbA h0
  go_enter Try.func60, Try.ntmps60
  go_wp2
  rw [HB.out]
  generalize w.alloc (.cells #[.map none, .slice none 0 0] 87) = wA at *
  go_loopw [8] (fun vi wr => ∃ k : Nat, k ≤ n ∧ vi = .int .i64 k ∧ Inv k wr ∧ Hid (RoomsAt encInt 87 wr B B ((keys.take k).foldl divS ([], []))) ∧ B ≤ wr.heap.size) (fun vi _ => n - (intOf vi).toNat)
  case atStart => exact ⟨0, by omega, rfl, hI0, Lib.hid hR0, hsz⟩
  case round =>
    obtain ⟨k, hk, rfl, hI, hR, hBs⟩ := hrel
    by_cases hlt : k < n
    · have hq := hkey.out k wr hlt hI hBs
      have HQ := Lib.hid hq
      have hx : (encInt).ok (keys.getD k 0) := HO.out _ (by rw [List.getD, List.getElem?_eq_getElem (by rw [HN.out]; exact hlt)]; exact List.getElem_mem _)
      have hst : ((keys.take (k + 1)).foldl divS ([], [])) = divS ((keys.take k).foldl divS ([], [])) (keys.getD k 0) := by rw [take_succ_any keys 0 k (by rw [HN.out]; exact hlt), List.foldl_append]; rfl
      have hl1 : ((keys.take k).foldl divS ([], [])).2.length ≤ 1000 := by rw [foldl_divS_len]; simp; omega
      have HST := Lib.hid hst
      clear hq hst
      go_wp2_with fail
      refine HQ.out.mono ?_
      rintro e w2 ⟨rfl, hI2, hA⟩
      have hR2 := hR.out.above hA
      have hB2 : B ≤ w2.heap.size := Nat.le_trans hBs hA.size
      have e9 : encInt.enc (keys.getD k 0) = .int .i64 (keys.getD k 0) := rfl
      rw [e9]
      clear e9
      generalize keys.getD k 0 = x at *
      go_wp2_with fail
      refine (put_int B B _ _ w2 hB2 hR2 hx hl1).mono ?_
      rintro e w3 ⟨rfl, hR3, hb3⟩
      rw [← HST.out] at hR3
      have hI3 := stab.out _ _ _ hI2 hb3
      have HR3 := Lib.hid hR3
      have hB3 : B ≤ w3.heap.size := Nat.le_trans hB2 hb3.size
      clear hR2 hR3 hA hb3 hR hx
      go_wp2
      go_roundw
      case rel => exact ⟨k + 1, by omega, by go_num, hI3, HR3, hB3⟩
      case measure => simp [intOf]; omega
    · obtain rfl : k = n := by omega
      have hR2 := hR.out
      rw [List.take_of_length_le (by rw [HN.out]; exact Nat.le_refl _)] at hR2
      obtain ⟨m, a, n', c, hh, hBr, ho, hs, hln, hm⟩ := hR2
      have hnn := ho.len
      have : (keys.foldl divS ([], [])).2.length = k := by rw [foldl_divS_len]; simp [HN.out]
      obtain rfl : n' = k := by rw [← hnn, this]
      have c1 : wr.cell? ⟨B, 1, none⟩ = some (.slice a n' c) := by rw [World.cell?]; simp [hh]
      clear hnn this hm hh hR
      go_wp2
      go_ret
      exact ⟨a, c, rfl, ho, hI, hBs⟩

set_option maxHeartbeats 4000000 in
set_option maxRecDepth 100000 in
theorem divided_int2 (F : Nat) (c1 c2 : Value) (B n : Nat) (keys : List Int) (Inv : Nat → World → Prop) (w : World) (hcf : ∀ (args : Array Value) (w : World), (callFunc F args).run Try.prog w = .ok (.enter F args) w)
    (hn : keys.length = n) (hn9 : n ≤ 900) (hBw : w.heap.size = B) (h0 : Inv 0 w) (stab : Hid (∀ i w1 w2, Inv i w1 → Below B w1 w2 → Inv i w2)) (hok : ∀ x ∈ keys, (encInt).ok x)
    (hkey : Hid (∀ (i : Nat) w1, i < n → Inv i w1 → B ≤ w1.heap.size → Calls Try.prog F #[.int .i64 i, c1, c2] w1 fun e w2 => e = .returned ((encInt).enc (keys.getD i 0)) ∧ Inv (i + 1) w2 ∧ Above B w1 w2)) :
    Calls Try.prog 60 #[.int .i64 n, .func (.func F) #[] #[c1, c2]] w fun e w' => ∃ a c, e = .returned (.slice a n c) ∧ OwnL w' 3 B a n c (divL keys) ∧ Inv n w' ∧ B ≤ w'.heap.size := by
  have hbA : Below B w (w.alloc (.cells #[.map none, .slice none 0 0] 87)) := (Below.refl B w).alloc (by omega) _
  have hI0 : Inv 0 (w.alloc (.cells #[.map none, .slice none 0 0] 87)) := stab.out 0 _ _ h0 hbA
  have hR0 : RoomsAt encInt 87 (w.alloc (.cells #[.map none, .slice none 0 0] 87)) B B ([], []) := by
    refine ⟨.map none, none, 0, 0, ?_, Nat.le_refl _, OwnL.nilL _ _ _, Sep.none_right _, Nat.le_refl _, .inl ⟨rfl, rfl⟩⟩
    rw [← hBw]; exact heap_alloc_new w _
  have HN := Lib.hid hn
  have HO := Lib.hid hok
  have HB := Lib.hid hBw
  have hsz : B ≤ (w.alloc (.cells #[.map none, .slice none 0 0] 87)).heap.size := by simp; omega
  clear hn hBw hok hbA h0
  go_enter Try.func60, Try.ntmps60
  go_wp2
  rw [HB.out]
  generalize w.alloc (.cells #[.map none, .slice none 0 0] 87) = wA at *
  go_loopw [8] (fun vi wr => ∃ k : Nat, k ≤ n ∧ vi = .int .i64 k ∧ Inv k wr ∧ Hid (RoomsAt encInt 87 wr B B ((keys.take k).foldl divS ([], []))) ∧ B ≤ wr.heap.size) (fun vi _ => n - (intOf vi).toNat)
  case atStart => exact ⟨0, by omega, rfl, hI0, Lib.hid hR0, hsz⟩
  case round =>
    obtain ⟨k, hk, rfl, hI, hR, hBs⟩ := hrel
    by_cases hlt : k < n
    · have hq := hkey.out k wr hlt hI hBs
      have HQ := Lib.hid hq
      have hx : (encInt).ok (keys.getD k 0) := HO.out _ (by rw [List.getD, List.getElem?_eq_getElem (by rw [HN.out]; exact hlt)]; exact List.getElem_mem _)
      have hst : ((keys.take (k + 1)).foldl divS ([], [])) = divS ((keys.take k).foldl divS ([], [])) (keys.getD k 0) := by rw [take_succ_any keys 0 k (by rw [HN.out]; exact hlt), List.foldl_append]; rfl
      have hl1 : ((keys.take k).foldl divS ([], [])).2.length ≤ 1000 := by rw [foldl_divS_len]; simp; omega
      have HST := Lib.hid hst
      clear hq hst
      go_wp2_with fail
      refine HQ.out.mono ?_
      rintro e w2 ⟨rfl, hI2, hA⟩
      have hR2 := hR.out.above hA
      have hB2 : B ≤ w2.heap.size := Nat.le_trans hBs hA.size
      have e9 : encInt.enc (keys.getD k 0) = .int .i64 (keys.getD k 0) := rfl
      rw [e9]
      clear e9
      generalize keys.getD k 0 = x at *
      go_wp2_with fail
      refine (put_int B B _ _ w2 hB2 hR2 hx hl1).mono ?_
      rintro e w3 ⟨rfl, hR3, hb3⟩
      rw [← HST.out] at hR3
      have hI3 := stab.out _ _ _ hI2 hb3
      have HR3 := Lib.hid hR3
      have hB3 : B ≤ w3.heap.size := Nat.le_trans hB2 hb3.size
      clear hR2 hR3 hA hb3 hR hx
      go_wp2
      go_roundw
      case rel => exact ⟨k + 1, by omega, by go_num, hI3, HR3, hB3⟩
      case measure => simp [intOf]; omega
    · obtain rfl : k = n := by omega
      have hR2 := hR.out
      rw [List.take_of_length_le (by rw [HN.out]; exact Nat.le_refl _)] at hR2
      obtain ⟨m, a, n', c, hh, hBr, ho, hs, hln, hm⟩ := hR2
      have hnn := ho.len
      have : (keys.foldl divS ([], [])).2.length = k := by rw [foldl_divS_len]; simp [HN.out]
      obtain rfl : n' = k := by rw [← hnn, this]
      have c1 : wr.cell? ⟨B, 1, none⟩ = some (.slice a n' c) := by rw [World.cell?]; simp [hh]
      clear hnn this hm hh hR
      go_wp2
      go_ret
      exact ⟨a, c, rfl, ho, hI, hBs⟩

set_option maxHeartbeats 4000000 in
set_option maxRecDepth 100000 in
theorem divided_two (F : Nat) (c1 c2 : Value) (B n : Nat) (keys : List (List Int)) (Inv : Nat → World → Prop) (w : World) (hcf : ∀ (args : Array Value) (w : World), (callFunc F args).run Try.prog w = .ok (.enter F args) w)
    (hn : keys.length = n) (hn9 : n ≤ 900) (hBw : w.heap.size = B) (h0 : Inv 0 w) (stab : Hid (∀ i w1 w2, Inv i w1 → Below B w1 w2 → Inv i w2)) (hok : ∀ x ∈ keys, (enc2).ok x)
    (hkey : Hid (∀ (i : Nat) w1, i < n → Inv i w1 → B ≤ w1.heap.size → Calls Try.prog F #[.int .i64 i, c1, c2] w1 fun e w2 => e = .returned ((enc2).enc (keys.getD i [])) ∧ Inv (i + 1) w2 ∧ Above B w1 w2)) :
    Calls Try.prog 91 #[.int .i64 n, .func (.func F) #[] #[c1, c2]] w fun e w' => ∃ a c, e = .returned (.slice a n c) ∧ OwnL w' 3 B a n c (divL keys) ∧ Inv n w' ∧ B ≤ w'.heap.size := by
  have hbA : Below B w (w.alloc (.cells #[.map none, .slice none 0 0] 104)) := (Below.refl B w).alloc (by omega) _
  have hI0 : Inv 0 (w.alloc (.cells #[.map none, .slice none 0 0] 104)) := stab.out 0 _ _ h0 hbA
  have hR0 : RoomsAt enc2 104 (w.alloc (.cells #[.map none, .slice none 0 0] 104)) B B ([], []) := by
    refine ⟨.map none, none, 0, 0, ?_, Nat.le_refl _, OwnL.nilL _ _ _, Sep.none_right _, Nat.le_refl _, .inl ⟨rfl, rfl⟩⟩
    rw [← hBw]; exact heap_alloc_new w _
  have HN := Lib.hid hn
  have HO := Lib.hid hok
  have HB := Lib.hid hBw
  have hsz : B ≤ (w.alloc (.cells #[.map none, .slice none 0 0] 104)).heap.size := by simp; omega
  clear hn hBw hok hbA h0
  go_enter Try.func91, Try.ntmps91
  go_wp2
  rw [HB.out]
  generalize w.alloc (.cells #[.map none, .slice none 0 0] 104) = wA at *
  go_loopw [8] (fun vi wr => ∃ k : Nat, k ≤ n ∧ vi = .int .i64 k ∧ Inv k wr ∧ Hid (RoomsAt enc2 104 wr B B ((keys.take k).foldl divS ([], []))) ∧ B ≤ wr.heap.size) (fun vi _ => n - (intOf vi).toNat)
  case atStart => exact ⟨0, by omega, rfl, hI0, Lib.hid hR0, hsz⟩
  case round =>
    obtain ⟨k, hk, rfl, hI, hR, hBs⟩ := hrel
    by_cases hlt : k < n
    · have hq := hkey.out k wr hlt hI hBs
      have HQ := Lib.hid hq
      have hx : (enc2).ok (keys.getD k []) := HO.out _ (by rw [List.getD, List.getElem?_eq_getElem (by rw [HN.out]; exact hlt)]; exact List.getElem_mem _)
      have hst : ((keys.take (k + 1)).foldl divS ([], [])) = divS ((keys.take k).foldl divS ([], [])) (keys.getD k []) := by rw [take_succ_any keys [] k (by rw [HN.out]; exact hlt), List.foldl_append]; rfl
      have hl1 : ((keys.take k).foldl divS ([], [])).2.length ≤ 1000 := by rw [foldl_divS_len]; simp; omega
      have HST := Lib.hid hst
      clear hq hst
      go_wp2_with fail
      refine HQ.out.mono ?_
      rintro e w2 ⟨rfl, hI2, hA⟩
      have hR2 := hR.out.above hA
      have hB2 : B ≤ w2.heap.size := Nat.le_trans hBs hA.size
      obtain ⟨x0, x1, hxe⟩ : ∃ x0 x1, keys.getD k [] = [x0, x1] := by
        have hl := hx.1
        revert hl
        generalize keys.getD k [] = l
        intro hl
        match l, hl with
        | [x0, x1], _ => exact ⟨x0, x1, rfl⟩
      have e9 : (enc2).enc (keys.getD k []) = .agg #[.int .i64 x0, .int .i64 x1] := by rw [hxe]; rfl
      rw [e9]
      rw [hxe] at hx
      have HXE := Lib.hid hxe
      clear e9 hxe
      go_wp2_with fail
      refine (put_two B B _ _ _ w2 hB2 hR2 hx hl1).mono ?_
      rintro e w3 ⟨rfl, hR3, hb3⟩
      rw [← HXE.out, ← HST.out] at hR3
      have hI3 := stab.out _ _ _ hI2 hb3
      have HR3 := Lib.hid hR3
      have hB3 : B ≤ w3.heap.size := Nat.le_trans hB2 hb3.size
      clear hR2 hR3 hA hb3 hR hx
      go_wp2
      go_roundw
      case rel => exact ⟨k + 1, by omega, by go_num, hI3, HR3, hB3⟩
      case measure => simp [intOf]; omega
    · obtain rfl : k = n := by omega
      have hR2 := hR.out
      rw [List.take_of_length_le (by rw [HN.out]; exact Nat.le_refl _)] at hR2
      obtain ⟨m, a, n', c, hh, hBr, ho, hs, hln, hm⟩ := hR2
      have hnn := ho.len
      have : (keys.foldl divS ([], [])).2.length = k := by rw [foldl_divS_len]; simp [HN.out]
      obtain rfl : n' = k := by rw [← hnn, this]
      have c1 : wr.cell? ⟨B, 1, none⟩ = some (.slice a n' c) := by rw [World.cell?]; simp [hh]
      clear hnn this hm hh hR
      go_wp2
      go_ret
      exact ⟨a, c, rfl, ho, hI, hBs⟩

set_option maxHeartbeats 4000000 in
set_option maxRecDepth 100000 in
theorem divided_nine (F : Nat) (c1 c2 c3 : Value) (B n : Nat) (keys : List (List Int)) (Inv : Nat → World → Prop) (w : World) (hcf : ∀ (args : Array Value) (w : World), (callFunc F args).run Try.prog w = .ok (.enter F args) w)
    (hn : keys.length = n) (hn9 : n ≤ 900) (hBw : w.heap.size = B) (h0 : Inv 0 w) (stab : Hid (∀ i w1 w2, Inv i w1 → Below B w1 w2 → Inv i w2)) (hok : ∀ x ∈ keys, (enc9).ok x)
    (hkey : Hid (∀ (i : Nat) w1, i < n → Inv i w1 → B ≤ w1.heap.size → Calls Try.prog F #[.int .i64 i, c1, c2, c3] w1 fun e w2 => e = .returned ((enc9).enc (keys.getD i [])) ∧ Inv (i + 1) w2 ∧ Above B w1 w2)) :
    Calls Try.prog 80 #[.int .i64 n, .func (.func F) #[] #[c1, c2, c3]] w fun e w' => ∃ a c, e = .returned (.slice a n c) ∧ OwnL w' 3 B a n c (divL keys) ∧ Inv n w' ∧ B ≤ w'.heap.size := by
  have hbA : Below B w (w.alloc (.cells #[.map none, .slice none 0 0] 96)) := (Below.refl B w).alloc (by omega) _
  have hI0 : Inv 0 (w.alloc (.cells #[.map none, .slice none 0 0] 96)) := stab.out 0 _ _ h0 hbA
  have hR0 : RoomsAt enc9 96 (w.alloc (.cells #[.map none, .slice none 0 0] 96)) B B ([], []) := by
    refine ⟨.map none, none, 0, 0, ?_, Nat.le_refl _, OwnL.nilL _ _ _, Sep.none_right _, Nat.le_refl _, .inl ⟨rfl, rfl⟩⟩
    rw [← hBw]; exact heap_alloc_new w _
  have HN := Lib.hid hn
  have HO := Lib.hid hok
  have HB := Lib.hid hBw
  have hsz : B ≤ (w.alloc (.cells #[.map none, .slice none 0 0] 96)).heap.size := by simp; omega
  clear hn hBw hok hbA h0
  go_enter Try.func80, Try.ntmps80
  go_wp2
  rw [HB.out]
  generalize w.alloc (.cells #[.map none, .slice none 0 0] 96) = wA at *
  go_loopw [8] (fun vi wr => ∃ k : Nat, k ≤ n ∧ vi = .int .i64 k ∧ Inv k wr ∧ Hid (RoomsAt enc9 96 wr B B ((keys.take k).foldl divS ([], []))) ∧ B ≤ wr.heap.size) (fun vi _ => n - (intOf vi).toNat)
  case atStart => exact ⟨0, by omega, rfl, hI0, Lib.hid hR0, hsz⟩
  case round =>
    obtain ⟨k, hk, rfl, hI, hR, hBs⟩ := hrel
    by_cases hlt : k < n
    · have hq := hkey.out k wr hlt hI hBs
      have HQ := Lib.hid hq
      have hx : (enc9).ok (keys.getD k []) := HO.out _ (by rw [List.getD, List.getElem?_eq_getElem (by rw [HN.out]; exact hlt)]; exact List.getElem_mem _)
      have hst : ((keys.take (k + 1)).foldl divS ([], [])) = divS ((keys.take k).foldl divS ([], [])) (keys.getD k []) := by rw [take_succ_any keys [] k (by rw [HN.out]; exact hlt), List.foldl_append]; rfl
      have hl1 : ((keys.take k).foldl divS ([], [])).2.length ≤ 1000 := by rw [foldl_divS_len]; simp; omega
      have HST := Lib.hid hst
      clear hq hst
      go_wp2_with fail
      refine HQ.out.mono ?_
      rintro e w2 ⟨rfl, hI2, hA⟩
      have hR2 := hR.out.above hA
      have hB2 : B ≤ w2.heap.size := Nat.le_trans hBs hA.size
      obtain ⟨x0, x1, x2, x3, x4, x5, x6, x7, x8, hxe⟩ : ∃ x0 x1 x2 x3 x4 x5 x6 x7 x8, keys.getD k [] = [x0, x1, x2, x3, x4, x5, x6, x7, x8] := by
        have hl := hx.1
        revert hl
        generalize keys.getD k [] = l
        intro hl
        match l, hl with
        | [x0, x1, x2, x3, x4, x5, x6, x7, x8], _ => exact ⟨x0, x1, x2, x3, x4, x5, x6, x7, x8, rfl⟩
      have e9 : (enc9).enc (keys.getD k []) = .agg #[.int .i64 x0, .int .i64 x1, .int .i64 x2, .int .i64 x3, .int .i64 x4, .int .i64 x5, .int .i64 x6, .int .i64 x7, .int .i64 x8] := by rw [hxe]; rfl
      rw [e9]
      rw [hxe] at hx
      have HXE := Lib.hid hxe
      clear e9 hxe
      go_wp2_with fail
      refine (put_nine B B _ _ _ _ _ _ _ _ _ _ w2 hB2 hR2 hx hl1).mono ?_
      rintro e w3 ⟨rfl, hR3, hb3⟩
      rw [← HXE.out, ← HST.out] at hR3
      have hI3 := stab.out _ _ _ hI2 hb3
      have HR3 := Lib.hid hR3
      have hB3 : B ≤ w3.heap.size := Nat.le_trans hB2 hb3.size
      clear hR2 hR3 hA hb3 hR hx
      go_wp2
      go_roundw
      case rel => exact ⟨k + 1, by omega, by go_num, hI3, HR3, hB3⟩
      case measure => simp [intOf]; omega
    · obtain rfl : k = n := by omega
      have hR2 := hR.out
      rw [List.take_of_length_le (by rw [HN.out]; exact Nat.le_refl _)] at hR2
      obtain ⟨m, a, n', c, hh, hBr, ho, hs, hln, hm⟩ := hR2
      have hnn := ho.len
      have : (keys.foldl divS ([], [])).2.length = k := by rw [foldl_divS_len]; simp [HN.out]
      obtain rfl : n' = k := by rw [← hnn, this]
      have c1 : wr.cell? ⟨B, 1, none⟩ = some (.slice a n' c) := by rw [World.cell?]; simp [hh]
      clear hnn this hm hh hR
      go_wp2
      go_ret
      exact ⟨a, c, rfl, ho, hI, hBs⟩
end Go.Proofs.Ytjedmiegcbdedaa
