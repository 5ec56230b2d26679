/- Walks of chapter 11: rooms by keys. -/
import Derived.Test.YtjedmiegcbdedaaWa
import Derived.Test.YtjedmiegcbdedaaLib5
import Derived.Deep.CutRange
namespace Go.Proofs.Ytjedmiegcbdedaa
open Go.RowKit Store11

theorem laidOut : laidOutB Try.prog = true := by kernel_rfl
noncomputable def encInt : KeyEnc Try.prog 3 Int where
  enc := Value.int .i64
  lit := Lit.int .i64
  ok := fun a => (Lit.int .i64 a).wf = true
  keyed := Maps.int_keyed Try.underlying3
  key := fun a h => Maps.keyOf_int_mk Try.underlying3 h
  inj := fun a b _ _ h => by simpa using h
theorem keyed49 : Maps.Keyed Try.prog 49 := Maps.Keyed.of_law (deep_law_laid laidOut (m := 2) (by omega) (by decide +kernel) (by kernel_rfl) (by kernel_rfl))
theorem keyed78 : Maps.Keyed Try.prog 78 := Maps.Keyed.of_law (deep_law_laid laidOut (m := 2) (by omega) (by decide +kernel) (by kernel_rfl) (by kernel_rfl))
noncomputable def enc2 : KeyEnc Try.prog 49 (List Int) := encArr (m := 2) (e := 3) (by kernel_rfl) Try.underlying3 (by kernel_rfl) (by kernel_rfl) (by kernel_rfl) (by decide +kernel) keyed49
noncomputable def enc9 : KeyEnc Try.prog 78 (List Int) := encArr (m := 9) (e := 3) (by kernel_rfl) Try.underlying3 (by kernel_rfl) (by kernel_rfl) (by kernel_rfl) (by decide +kernel) keyed78

/-- The struct at block r finds rooms by keys: the keys that were met, the rooms so far. -/
def RoomsAt {k : TypeId} {α : Type} [DecidableEq α] (E : KeyEnc Try.prog k α) (T : TypeId) (w : World) (B r : Nat) (st : List α × List Int) : Prop :=
  ∃ m a n c, w.heap[r]? = some (.cells #[m, .slice a n c] T (0, 0)) ∧ B ≤ r ∧ OwnL w 3 B a n c st.2 ∧ Sep (some ⟨r, 0, none⟩) a ∧ st.1.length ≤ n ∧
    ((m = .map none ∧ st.1 = []) ∨ ∃ b, m = .map (some b) ∧ B ≤ b ∧ b ≠ r ∧ Sep (some ⟨b, 0, none⟩) a ∧ MapF E 3 w b n st.1.length (fstI st.1))

theorem keep_block {W W2 : World} {a : Option Addr} {n c q : Nat} {x : Obj} (o : Obj) (hh : W.heap[q]? = some x) (hs : Sep (some ⟨q, 0, none⟩) a) (hg : (W.alloc o).grownBy W2 (Value.slice a n c).ownBlock) : W2.heap[q]? = some x := by
  have hlt : q < W.heap.size := (Array.getElem?_eq_some_iff.1 hh).1
  rw [hg.block q (by simp; omega) (sep_ne hs n c).symm, (World.grownBy_alloc W o none).block q hlt (by simp)]
  exact hh
theorem rooms_done {k : TypeId} {α : Type} [DecidableEq α] {E : KeyEnc Try.prog k α} {T : TypeId} {W W2 : World} {B r b n c c2 N : Nat} {a a2 : Option Addr} {keys : List α} {l : List Int} {v : Int} (o : Obj)
    (hh : W.heap[r]? = some (.cells #[.map (some b), .slice a n c] T (0, 0))) (hBr : B ≤ r) (hBb : B ≤ b) (hbr : b ≠ r) (hs : Sep (some ⟨r, 0, none⟩) a) (hsb : Sep (some ⟨b, 0, none⟩) a)
    (hM : MapF E 3 W b N keys.length (fstI keys)) (hN : N ≤ n + 1) (hk : keys.length ≤ n + 1) (ho2 : OwnL W2 3 B a2 (n + 1) c2 (l ++ [v])) (hg2 : (W.alloc o).grownBy W2 (Value.slice a n c).ownBlock) (hv2 : Via (W.alloc o) a a2) :
    RoomsAt E T (W2.setCell ⟨r, 1, none⟩ (.slice a2 (n + 1) c2)) B r (keys, l ++ [v]) := by
  have hrlt : r < W.heap.size := (Array.getElem?_eq_some_iff.1 hh).1
  have hblt := hM.lt
  have hs2 : Sep (some ⟨r, 0, none⟩) a2 := (hs.symm.via hv2 (fun x hx => by cases hx; simp; omega)).symm
  have hsb2 : Sep (some ⟨b, 0, none⟩) a2 := (hsb.symm.via hv2 (fun x hx => by cases hx; simp; omega)).symm
  refine ⟨.map (some b), a2, n + 1, c2, ?_, hBr, ?_, hs2, hk, .inr ⟨b, rfl, hBb, hbr, hsb2, ?_⟩⟩
  · have := setCell_own (keep_block o hh hs hg2) 1 (.slice a2 (n + 1) c2)
    simpa using this
  · exact ho2.gen.grownS (grown_setCell _ r 1 _) hs2.symm
  · exact (((hM.alloc o).kept hg2 (sep_ne hsb n c).symm).setCell (a := ⟨r, 1, none⟩) hbr _).mono hN
theorem sep_new {w : World} {e B n c : Nat} {a : Option Addr} {l : List Int} (ho : OwnL w e B a n c l) {g : Nat} (hg : w.heap.size ≤ g) : Sep (some ⟨g, 0, none⟩) a := by
  rintro x y hx hy; cases hx; have := (ho.lt y hy).2; simp; omega
theorem fstI_lt {α : Type} [DecidableEq α] : ∀ (l : List α) (x : α) (i : Int), fstI l x = some i → 0 ≤ i ∧ i < l.length
  | [], _, _, h => by cases h
  | y :: l, x, i, h => by
    rw [fstI] at h
    split at h
    · cases h; simp
    · cases hf : fstI l x with
      | none => rw [hf] at h; cases h
      | some j =>
        rw [hf] at h
        have := fstI_lt l x j hf
        simp at h
        simp; omega

set_option maxHeartbeats 4000000 in
set_option maxRecDepth 100000 in
theorem put_int (B r : Nat) (x : Int) (st : List Int × List Int) (w : World) (hB : B ≤ w.heap.size) (h : RoomsAt encInt 87 w B r st) (hx : (encInt).ok x) (hn : st.2.length ≤ 1000) :
    Calls Try.prog 90 #[.pointer (some ⟨r, 0, none⟩), .int .i64 x] w fun e w' => e = .returned (.tuple #[]) ∧ RoomsAt encInt 87 w' B r (divS st x) ∧ Below B w w' := by
  obtain ⟨m, a, n, c, hh0, hBr, ho0, hs, hln, hm⟩ := h
  obtain ⟨w1, hw1⟩ : ∃ w1 : World, w1 = w := ⟨_, rfl⟩
  have hr0 : r < w.heap.size := (Array.getElem?_eq_some_iff.1 hh0).1
  have hb01 : Below B w w1 := by rw [hw1]; exact Below.refl B w
  have hbz : Below w.heap.size w w1 := by rw [hw1]; exact Below.refl _ w
  have hh : w1.heap[r]? = some (.cells #[m, .slice a n c] 87 (0, 0)) := (hbz.block r hr0).trans hh0
  have ho : OwnL w1 3 B a n c st.2 := ho0.below hbz
  have hnn := ho.len
  have c0 : w1.cell? ⟨r, 0, none⟩ = some m := by rw [World.cell?]; simp [hh]
  have c1 : w1.cell? ⟨r, 1, none⟩ = some (.slice a n c) := by rw [World.cell?]; simp [hh]
  have f0 : w1.frozen? ⟨r, 0, none⟩ = false := by simp [World.frozen?, hh]
  have f1 : w1.frozen? ⟨r, 1, none⟩ = false := by simp [World.frozen?, hh]

  have q0 : ∀ w, (binOp BinOp.eql 85 (.map none) (.map none)).run Try.prog w = .ok (.bool true) w := fun w => by kernel_rfl
  have q1 : ∀ b w, (binOp BinOp.eql 85 (.map (some b)) (.map none)).run Try.prog w = .ok (.bool false) w := fun b w => by kernel_rfl
  have q2 : ∀ w, (zeroValue 3).run Try.prog w = .ok (.int .i64 0) w := fun w => by kernel_rfl
  have q3 : ∀ w : World, (Instr.makeMap 85 none).run Try.prog w = .ok (.map (some w.heap.size)) (w.alloc (.map #[] 0)) := fun w => rfl
  have hrlt : r < w1.heap.size := (Array.getElem?_eq_some_iff.1 hh).1
  have hB1 : B ≤ w1.heap.size := Nat.le_trans hB hb01.size
  clear hh0 ho0 hr0 hbz
  rcases hm with ⟨rfl, h0⟩ | ⟨b, rfl, hBb, hbr, hsb, hM0⟩
  · -- the first key
    have hf : fstI st.1 x = none := by rw [h0]; rfl
    have hd : divS st x = ([x], st.2 ++ [(0 : Int)]) := by rw [divS, hf, h0]; rfl
    have HD := Lib.hid hd
    clear hd h0 hf
    go_enter Try.func90, Try.ntmps90
    subst hw1
    have hz9 : (w1.setCell ⟨r, 0, none⟩ (.map (some w1.heap.size))).heap.size = w1.heap.size := setCell_size _ _ _
    have hMz : MapF encInt 3 ((w1.setCell ⟨r, 0, none⟩ (.map (some w1.heap.size))).alloc (.map #[] 0)) w1.heap.size 0 0 (fun _ => none) := by
      have := MapF.made (E := encInt) (e := 3) (w1.setCell ⟨r, 0, none⟩ (.map (some w1.heap.size)))
      rwa [hz9] at this
    have hrb : w1.heap.size ≠ r := by omega
    have hsb : Sep (some ⟨w1.heap.size, 0, none⟩) a := sep_new ho (Nat.le_refl _)
    have hoz : OwnL ((w1.setCell ⟨r, 0, none⟩ (.map (some w1.heap.size))).alloc (.map #[] 0)) 3 B a n c st.2 := OwnL.alloc (ho.gen.grownS (grown_setCell _ r 0 _) hs.symm) _
    have hbz : Below B w1 ((w1.setCell ⟨r, 0, none⟩ (.map (some w1.heap.size))).alloc (.map #[] 0)) := ((Below.refl B w1).setCell (p := ⟨r, 0, none⟩) hBr _).alloc (by rw [hz9]; exact hB1) _
    have hhz : ((w1.setCell ⟨r, 0, none⟩ (.map (some w1.heap.size))).alloc (.map #[] 0)).heap[r]? = some (.cells #[.map (some w1.heap.size), .slice a n c] 87 (0, 0)) := by
      have := setCell_own hh 0 (.map (some w1.heap.size))
      rw [(World.grownBy_alloc _ (.map #[] 0) none).block r (by rw [hz9]; exact hrlt) (by simp)]
      simpa using this
    clear hz9

    go_wp2_with (first
      | (at_len; refine wl_maplen rfl _ rfl Try.underlying85 hMz rfl ?_)
      | (at_lookup; refine wl_look_ok rfl _ _ rfl Try.underlying85 Try.underlying3 (q2 _) hMz rfl x hx rfl ?_; simp only [Option.getD_none, Option.isSome_none])
      | (at_mapUpdate; refine wl_put rfl _ _ _ rfl Try.underlying85 Try.underlying3 hMz (by unfold maxLen; omega) rfl x hx rfl 0 rfl (by decide) ?_))

    intro w2 hM1 hg1
    have hMk : MapF encInt 3 w2 w1.heap.size (n + 1) ([x] : List Int).length (fstI [x]) := by
      have := hM1.mono (show 0 + 1 ≤ n + 1 by omega)
      have e : (fun y => if y = x then some 0 else none) = fstI [x] := by funext y; simp [fstI]
      exact this
    have hh1 : w2.heap[r]? = some (.cells #[.map (some w1.heap.size), .slice a n c] 87 (0, 0)) := (hg1.block r (by have := hbz.size; omega) (fun e => hrb (by cases e; rfl))).trans hhz
    have c1' : w2.cell? ⟨r, 1, none⟩ = some (.slice a n c) := by rw [World.cell?]; simp [hh1]
    have f1' : w2.frozen? ⟨r, 1, none⟩ = false := by simp [World.frozen?, hh1]
    have ho1 : OwnL w2 3 B a n c st.2 := hoz.gen.grownS hg1 hsb.symm
    have hb1 : Below B w1 w2 := hbz.grown hg1 (by have := hbz.size; omega) (fun k hk => by cases hk; exact hB1)
    have hB2 := hb1.size
    go_wp2_with (at_builtin; refine wl_app_own Try.underlying22 elem3 B (.tmp 41) (.tmp 43) rfl rfl rfl rfl (ho1.alloc _) (isL_one _ _ _) (by simp; omega) (by omega) ?_)
    intro a2 c2 w3 ho2 hg2 hb2 hv2
    have hfin := rooms_done _ hh1 hBr hB1 hrb hs hsb hMk (Nat.le_refl _) (by simp) ho2 hg2 hv2
    have hh2 := keep_block _ hh1 hs hg2
    have c2' : w3.cell? ⟨r, 1, none⟩ = some (.slice a n c) := by rw [World.cell?]; simp [hh2]
    have f2' : w3.frozen? ⟨r, 1, none⟩ = false := by simp [World.frozen?, hh2]
    have hbel := hb01.trans (((hb1.alloc (by omega) (.cells #[.int .i64 0] 3)).trans hb2).setCell (p := ⟨r, 1, none⟩) hBr (.slice a2 (n + 1) c2))
    clear hh hh1 hh2 hg1 hg2 hb2 hv2 hMz hM1 hMk hoz hbz hhz
    go_wp2
    go_end0
    exact ⟨rfl, by rw [HD.out]; exact hfin, hbel⟩
  · have hM : MapF encInt 3 w1 b n st.1.length (fstI st.1) := hM0.below (by rw [hw1]; exact Below.refl _ w)
    cases hf : fstI st.1 x with
    | some i =>
      have hi := fstI_lt _ _ _ hf
      have hd : divS st x = (st.1, st.2 ++ [i]) := by rw [divS, hf]
      have HD := Lib.hid hd
      have HF := Lib.hid hf
      clear hd hf

      go_enter Try.func90, Try.ntmps90
      subst hw1
      go_wp2_with (first
        | (at_lookup; refine wl_look_ok rfl _ _ rfl Try.underlying85 Try.underlying3 (q2 _) hM rfl x hx rfl ?_; simp only [HF.out, Option.getD_some, Option.isSome_some])
        | (at_builtin; refine wl_app_own Try.underlying22 elem3 B (.tmp 41) (.tmp 43) rfl rfl rfl rfl (ho.alloc _) (isL_one _ _ _) (by simp; omega) (by omega) ?_))
      intro a2 c2 w2 ho2 hg2 hb2 hv2
      have hfin := rooms_done _ hh hBr hBb hbr hs hsb hM (by omega) (by omega) ho2 hg2 hv2
      have hh2 := keep_block _ hh hs hg2
      have c2' : w2.cell? ⟨r, 1, none⟩ = some (.slice a n c) := by rw [World.cell?]; simp [hh2]
      have f2' : w2.frozen? ⟨r, 1, none⟩ = false := by simp [World.frozen?, hh2]
      have hbel := hb01.trans ((((Below.refl B w1).alloc (by simpa using hB1) (.cells #[.int .i64 i] 3)).trans hb2).setCell (p := ⟨r, 1, none⟩) hBr (.slice a2 (n + 1) c2))
      clear hh hh2 hg2 hb2 hv2 hM hM0
      go_wp2
      go_end0
      exact ⟨rfl, by rw [HD.out]; exact hfin, hbel⟩
    | none =>
      have hd : divS st x = (st.1 ++ [x], st.2 ++ [(st.1.length : Int)]) := by rw [divS, hf]
      have HD := Lib.hid hd
      have HF := Lib.hid hf
      clear hd hf

      go_enter Try.func90, Try.ntmps90
      subst hw1
      go_wp2_with (first
        | (at_lookup; refine wl_look_ok rfl _ _ rfl Try.underlying85 Try.underlying3 (q2 _) hM rfl x hx rfl ?_; simp only [HF.out, Option.getD_none, Option.isSome_none])
        | (at_len; refine wl_maplen rfl _ rfl Try.underlying85 hM rfl ?_)
        | (at_mapUpdate; refine wl_put rfl _ _ _ rfl Try.underlying85 Try.underlying3 hM (by unfold maxLen; omega) rfl x hx rfl _ rfl (by simp [Lit.wf, IntKind.min, IntKind.max, IntKind.signed, IntKind.bits]; omega) ?_; simp only [HF.out, Option.isSome_none, Bool.false_eq_true, if_false]))
      intro w2 hM1 hg1
      rw [← fstI_snoc x st.1 HF.out, show st.1.length + 1 = (st.1 ++ [x]).length by simp] at hM1
      have hh1 : w2.heap[r]? = some (.cells #[.map (some b), .slice a n c] 87 (0, 0)) := (hg1.block r hrlt (fun e => hbr (by cases e; rfl))).trans hh
      have c1' : w2.cell? ⟨r, 1, none⟩ = some (.slice a n c) := by rw [World.cell?]; simp [hh1]
      have f1' : w2.frozen? ⟨r, 1, none⟩ = false := by simp [World.frozen?, hh1]
      have ho1 : OwnL w2 3 B a n c st.2 := OwnG.grownS (ho).gen hg1 hsb.symm
      have hb1 : Below B w1 w2 := ((Below.refl B w1)).grown hg1 (by simpa using hB1) (fun k hk => by cases hk; exact hBb)
      have hB2 := hb1.size
      go_wp2_with (at_builtin; refine wl_app_own Try.underlying22 elem3 B (.tmp 41) (.tmp 43) rfl rfl rfl rfl (ho1.alloc _) (isL_one _ _ _) (by simp; omega) (by omega) ?_)
      intro a2 c2 w3 ho2 hg2 hb2 hv2
      have hfin := rooms_done _ hh1 hBr hBb hbr hs hsb hM1 (by omega) (by simp; omega) ho2 hg2 hv2
      have hh2 := keep_block _ hh1 hs hg2
      have c2' : w3.cell? ⟨r, 1, none⟩ = some (.slice a n c) := by rw [World.cell?]; simp [hh2]
      have f2' : w3.frozen? ⟨r, 1, none⟩ = false := by simp [World.frozen?, hh2]
      have hbel := hb01.trans (((hb1.alloc (by omega) (.cells #[.int .i64 st.1.length] 3)).trans hb2).setCell (p := ⟨r, 1, none⟩) hBr (.slice a2 (n + 1) c2))
      clear hh hh1 hh2 hg1 hg2 hb2 hv2 hM hM0 hM1
      go_wp2
      go_end0
      exact ⟨rfl, by rw [HD.out]; exact hfin, hbel⟩
end Go.Proofs.Ytjedmiegcbdedaa
namespace Go.Proofs.Ytjedmiegcbdedaa
open Go.RowKit Store11

set_option maxHeartbeats 4000000 in
set_option maxRecDepth 100000 in
theorem put_two (B r : Nat) (x0 x1 : Int) (st : List (List Int) × List Int) (w : World) (hB : B ≤ w.heap.size) (h : RoomsAt enc2 104 w B r st) (hx : (enc2).ok [x0, x1]) (hn : st.2.length ≤ 1000) :
    Calls Try.prog 98 #[.pointer (some ⟨r, 0, none⟩), .agg #[.int .i64 x0, .int .i64 x1]] w fun e w' => e = .returned (.tuple #[]) ∧ RoomsAt enc2 104 w' B r (divS st [x0, x1]) ∧ Below B w w' := by
  obtain ⟨m, a, n, c, hh0, hBr, ho0, hs, hln, hm⟩ := h
  obtain ⟨w1, hw1⟩ : ∃ w1 : World, w1 = w.alloc (.cells #[.int .i64 x0, .int .i64 x1] 49) := ⟨_, rfl⟩
  obtain ⟨p, hp⟩ : ∃ p : Nat, p = w.heap.size := ⟨_, rfl⟩
  have hr0 : r < w.heap.size := (Array.getElem?_eq_some_iff.1 hh0).1
  have hpr : p ≠ r := by omega
  have hp1 : p < w1.heap.size := by rw [hw1]; simp; omega
  have hBp : B ≤ p := by omega
  have hkb : w1.heap[p]? = some (.cells #[.int .i64 x0, .int .i64 x1] 49 (0, 0)) := by rw [hw1, hp]; exact heap_alloc_new w _
  have hb01 : Below B w w1 := by rw [hw1]; exact (Below.refl B w).alloc hB _
  have hbz : Below w.heap.size w w1 := by rw [hw1]; exact (Below.refl _ w).alloc (Nat.le_refl _) _
  have hh : w1.heap[r]? = some (.cells #[m, .slice a n c] 104 (0, 0)) := (hbz.block r hr0).trans hh0
  have ho : OwnL w1 3 B a n c st.2 := ho0.below hbz
  have hnn := ho.len
  have c0 : w1.cell? ⟨r, 0, none⟩ = some m := by rw [World.cell?]; simp [hh]
  have c1 : w1.cell? ⟨r, 1, none⟩ = some (.slice a n c) := by rw [World.cell?]; simp [hh]
  have f0 : w1.frozen? ⟨r, 0, none⟩ = false := by simp [World.frozen?, hh]
  have f1 : w1.frozen? ⟨r, 1, none⟩ = false := by simp [World.frozen?, hh]
  have k0 : w1.cell? ⟨p, 0, none⟩ = some (.int .i64 x0) := by rw [World.cell?]; simp [hkb]
  have k1 : w1.cell? ⟨p, 1, none⟩ = some (.int .i64 x1) := by rw [World.cell?]; simp [hkb]
  have q0 : ∀ w, (binOp BinOp.eql 45 (.map none) (.map none)).run Try.prog w = .ok (.bool true) w := fun w => by kernel_rfl
  have q1 : ∀ b w, (binOp BinOp.eql 45 (.map (some b)) (.map none)).run Try.prog w = .ok (.bool false) w := fun b w => by kernel_rfl
  have q2 : ∀ w, (zeroValue 3).run Try.prog w = .ok (.int .i64 0) w := fun w => by kernel_rfl
  have q3 : ∀ w : World, (Instr.makeMap 45 none).run Try.prog w = .ok (.map (some w.heap.size)) (w.alloc (.map #[] 0)) := fun w => rfl
  have hrlt : r < w1.heap.size := (Array.getElem?_eq_some_iff.1 hh).1
  have hB1 : B ≤ w1.heap.size := Nat.le_trans hB hb01.size
  clear hh0 ho0 hr0
  -- what stands behind the look-up of a new key, from a world with a map
  rcases hm with ⟨rfl, h0⟩ | ⟨b, rfl, hBb, hbr, hsb, hM0⟩
  · -- the first key
    have hf : fstI st.1 [x0, x1] = none := by rw [h0]; rfl
    have hd : divS st [x0, x1] = ([[x0, x1]], st.2 ++ [(0 : Int)]) := by rw [divS, hf, h0]; rfl
    have HD := Lib.hid hd
    clear hd h0 hf
    have hz9 : (w1.setCell ⟨r, 0, none⟩ (.map (some w1.heap.size))).heap.size = w1.heap.size := setCell_size _ _ _
    have hMz : MapF enc2 3 ((w1.setCell ⟨r, 0, none⟩ (.map (some w1.heap.size))).alloc (.map #[] 0)) w1.heap.size 0 0 (fun _ => none) := by
      have := MapF.made (E := enc2) (e := 3) (w1.setCell ⟨r, 0, none⟩ (.map (some w1.heap.size)))
      rwa [hz9] at this
    have hrb : w1.heap.size ≠ r := by omega
    have hsb : Sep (some ⟨w1.heap.size, 0, none⟩) a := sep_new ho (Nat.le_refl _)
    have hoz : OwnL ((w1.setCell ⟨r, 0, none⟩ (.map (some w1.heap.size))).alloc (.map #[] 0)) 3 B a n c st.2 := OwnL.alloc (ho.gen.grownS (grown_setCell _ r 0 _) hs.symm) _
    have hbz : Below B w1 ((w1.setCell ⟨r, 0, none⟩ (.map (some w1.heap.size))).alloc (.map #[] 0)) := ((Below.refl B w1).setCell (p := ⟨r, 0, none⟩) hBr _).alloc (by rw [hz9]; exact hB1) _
    have hhz : ((w1.setCell ⟨r, 0, none⟩ (.map (some w1.heap.size))).alloc (.map #[] 0)).heap[r]? = some (.cells #[.map (some w1.heap.size), .slice a n c] 104 (0, 0)) := by
      have := setCell_own hh 0 (.map (some w1.heap.size))
      rw [(World.grownBy_alloc _ (.map #[] 0) none).block r (by rw [hz9]; exact hrlt) (by simp)]
      simpa using this
    have hrun : ∀ nq, (Instr.lookup 45 (.map (some w1.heap.size)) (.agg #[.int .i64 x0, .int .i64 x1]) true).run Try.prog ((((w1.setCell ⟨r, 0, none⟩ (.map (some w1.heap.size))).alloc (.map #[] 0))).drewN nq) = .ok (.tuple #[.int .i64 0, .bool false]) ((((w1.setCell ⟨r, 0, none⟩ (.map (some w1.heap.size))).alloc (.map #[] 0))).drewN nq) := fun nq => (hMz.drewN nq).run_ok Try.underlying45 Try.underlying3 (q2 _) [x0, x1] hx
    have hkz : ((w1.setCell ⟨r, 0, none⟩ (.map (some w1.heap.size))).alloc (.map #[] 0)).heap[p]? = some (.cells #[.int .i64 x0, .int .i64 x1] 49 (0, 0)) := by
      rw [(World.grownBy_alloc _ (.map #[] 0) none).block p (by rw [hz9]; exact hp1) (by simp), (grown_setCell w1 r 0 _).block p hp1 (by simp; omega)]
      exact hkb
    clear hz9
    go_enter Try.func98, Try.ntmps98
    go_upto_region 1 with (fail)
    simp only [← hp, ← hw1]; clear hp hw1 hkb
    go_wp2_with fail
    go_quiet (fail)
    obtain ⟨wd, hwd⟩ : ∃ wd : World, wd = ((w1.setCell ⟨r, 0, none⟩ (.map (some w1.heap.size))).alloc (.map #[] 0)).drewN nq := ⟨_, rfl⟩
    have hMd : MapF enc2 3 wd w1.heap.size 0 0 (fun _ => none) := by rw [hwd]; exact (hMz).drewN nq
    have hod : OwnL wd 3 B a n c st.2 := by rw [hwd]; exact (hoz).drewN nq
    have hbd : Below B w1 wd := by rw [hwd]; exact belowN (hbz) nq
    have hhd : wd.heap[r]? = some (.cells #[.map (some w1.heap.size), .slice a n c] 104 (0, 0)) := by rw [hwd]; exact hhz
    have hkd : wd.heap[p]? = some (.cells #[.int .i64 x0, .int .i64 x1] 49 (0, 0)) := by rw [hwd]; exact hkz
    have d0 : wd.cell? ⟨r, 0, none⟩ = some (.map (some w1.heap.size)) := by rw [World.cell?]; simp [hhd]
    have d1 : wd.cell? ⟨r, 1, none⟩ = some (.slice a n c) := by rw [World.cell?]; simp [hhd]
    have g1 : wd.frozen? ⟨r, 1, none⟩ = false := by simp [World.frozen?, hhd]
    have kd0 : wd.cell? ⟨p, 0, none⟩ = some (.int .i64 x0) := by rw [World.cell?]; simp [hkd]
    have kd1 : wd.cell? ⟨p, 1, none⟩ = some (.int .i64 x1) := by rw [World.cell?]; simp [hkd]
    have hBd : B ≤ wd.heap.size := Nat.le_trans hB1 hbd.size
    have hrd : r < wd.heap.size := (Array.getElem?_eq_some_iff.1 hhd).1
    rw [← hwd]
    clear hwd hkd
    clear hMz hoz hbz hhz hkz hrun
    go_wp2_with (at_len; refine wl_maplen rfl _ rfl Try.underlying45 hMd rfl ?_)
    go_still_tail 6, (by kernel_rfl)
    change wpList _ _ _ _ _ (World.drew _)
    refine wl_put rfl _ _ _ rfl Try.underlying45 Try.underlying3 hMd.drew (by unfold maxLen; omega) rfl [x0, x1] hx rfl 0 rfl (by decide) ?_
    intro w2 hM1 hg1
    have hMk : MapF enc2 3 w2 w1.heap.size (n + 1) ([[x0, x1]] : List (List Int)).length (fstI [[x0, x1]]) := by
      have := hM1.mono (show 0 + 1 ≤ n + 1 by omega)
      have e : (fun y => if y = [x0, x1] then some 0 else none) = fstI [[x0, x1]] := by funext y; simp [fstI]
      rw [← e]; exact this
    have hh1 : w2.heap[r]? = some (.cells #[.map (some w1.heap.size), .slice a n c] 104 (0, 0)) := (hg1.block r hrd (fun e => hrb (by cases e; rfl))).trans hhd
    have c1' : w2.cell? ⟨r, 1, none⟩ = some (.slice a n c) := by rw [World.cell?]; simp [hh1]
    have f1' : w2.frozen? ⟨r, 1, none⟩ = false := by simp [World.frozen?, hh1]
    have ho1 : OwnL w2 3 B a n c st.2 := OwnG.grownS hod.drew.gen hg1 hsb.symm
    have hb1 : Below B w1 w2 := hbd.drew.grown hg1 (by simpa using hBd) (fun k hk => by cases hk; exact hB1)
    have hB2 := hb1.size
    go_wp2_with (at_builtin; refine wl_app_own Try.underlying22 elem3 B (.tmp 41) (.tmp 43) rfl rfl rfl rfl (ho1.alloc _) (isL_one _ _ _) (by simp; omega) (by omega) ?_)
    intro a2 c2 w3 ho2 hg2 hb2 hv2
    have hfin := rooms_done _ hh1 hBr hB1 hrb hs hsb hMk (Nat.le_refl _) (by simp) ho2 hg2 hv2
    have hh2 := keep_block _ hh1 hs hg2
    have c2' : w3.cell? ⟨r, 1, none⟩ = some (.slice a n c) := by rw [World.cell?]; simp [hh2]
    have f2' : w3.frozen? ⟨r, 1, none⟩ = false := by simp [World.frozen?, hh2]
    have hbel := hb01.trans (((hb1.alloc (by omega) (.cells #[.int .i64 0] 3)).trans hb2).setCell (p := ⟨r, 1, none⟩) hBr (.slice a2 (n + 1) c2))
    clear hh hh1 hh2 hg1 hg2 hb2 hv2 hM1 hMk
    go_wp2
    go_end0
    exact ⟨rfl, by rw [HD.out]; exact hfin, hbel⟩
  · have hM : MapF enc2 3 w1 b n st.1.length (fstI st.1) := hM0.below hbz
    cases hf : fstI st.1 [x0, x1] with
    | some i =>
      have hi := fstI_lt _ _ _ hf
      have hd : divS st [x0, x1] = (st.1, st.2 ++ [i]) := by rw [divS, hf]
      have HD := Lib.hid hd
      have hrun : ∀ nq, (Instr.lookup 45 (.map (some b)) (.agg #[.int .i64 x0, .int .i64 x1]) true).run Try.prog (w1.drewN nq) = .ok (.tuple #[.int .i64 i, .bool true]) (w1.drewN nq) := fun nq => by
        have := (hM.drewN nq).run_ok Try.underlying45 Try.underlying3 (q2 _) [x0, x1] hx
        rw [hf] at this
        exact this
      clear hd hf
      go_enter Try.func98, Try.ntmps98
      go_upto_region 1 with (fail)
      simp only [← hp, ← hw1]; clear hp hw1
      have hkb9 := Lib.hid hkb
      clear hkb
      go_wp2_with fail
      go_quiet (fail)
      obtain ⟨wd, hwd⟩ : ∃ wd : World, wd = (w1).drewN nq := ⟨_, rfl⟩
      have hMd : MapF enc2 3 wd b n st.1.length (fstI st.1) := by rw [hwd]; exact (hM).drewN nq
      have hod : OwnL wd 3 B a n c st.2 := by rw [hwd]; exact (ho).drewN nq
      have hbd : Below B w1 wd := by rw [hwd]; exact belowN (Below.refl B w1) nq
      have hhd : wd.heap[r]? = some (.cells #[.map (some b), .slice a n c] 104 (0, 0)) := by rw [hwd]; exact hh
      have hkd : wd.heap[p]? = some (.cells #[.int .i64 x0, .int .i64 x1] 49 (0, 0)) := by rw [hwd]; exact hkb9.out
      have d0 : wd.cell? ⟨r, 0, none⟩ = some (.map (some b)) := by rw [World.cell?]; simp [hhd]
      have d1 : wd.cell? ⟨r, 1, none⟩ = some (.slice a n c) := by rw [World.cell?]; simp [hhd]
      have g1 : wd.frozen? ⟨r, 1, none⟩ = false := by simp [World.frozen?, hhd]
      have kd0 : wd.cell? ⟨p, 0, none⟩ = some (.int .i64 x0) := by rw [World.cell?]; simp [hkd]
      have kd1 : wd.cell? ⟨p, 1, none⟩ = some (.int .i64 x1) := by rw [World.cell?]; simp [hkd]
      have hBd : B ≤ wd.heap.size := Nat.le_trans hB1 hbd.size
      have hrd : r < wd.heap.size := (Array.getElem?_eq_some_iff.1 hhd).1
      rw [← hwd]
      clear hwd hkd
      clear hrun
      go_wp2_with (at_builtin; refine wl_app_own Try.underlying22 elem3 B (.tmp 41) (.tmp 43) rfl rfl rfl rfl (hod.alloc _) (isL_one _ _ _) (by simp; omega) (by omega) ?_)
      intro a2 c2 w2 ho2 hg2 hb2 hv2
      have hfin := rooms_done _ hhd hBr hBb hbr hs hsb hMd (by omega) (by omega) ho2 hg2 hv2
      have hh2 := keep_block _ hhd hs hg2
      have c2' : w2.cell? ⟨r, 1, none⟩ = some (.slice a n c) := by rw [World.cell?]; simp [hh2]
      have f2' : w2.frozen? ⟨r, 1, none⟩ = false := by simp [World.frozen?, hh2]
      have hbel := hb01.trans (((hbd.alloc hBd (.cells #[.int .i64 i] 3)).trans hb2).setCell (p := ⟨r, 1, none⟩) hBr (.slice a2 (n + 1) c2))
      clear hh hh2 hg2 hb2 hv2 hM hM0
      go_wp2
      go_end0
      exact ⟨rfl, by rw [HD.out]; exact hfin, hbel⟩
    | none =>
      have hd : divS st [x0, x1] = (st.1 ++ [[x0, x1]], st.2 ++ [(st.1.length : Int)]) := by rw [divS, hf]
      have HD := Lib.hid hd
      have HF := Lib.hid hf
      have hrun : ∀ nq, (Instr.lookup 45 (.map (some b)) (.agg #[.int .i64 x0, .int .i64 x1]) true).run Try.prog (w1.drewN nq) = .ok (.tuple #[.int .i64 0, .bool false]) (w1.drewN nq) := fun nq => by
        have := (hM.drewN nq).run_ok Try.underlying45 Try.underlying3 (q2 _) [x0, x1] hx
        rw [hf] at this
        exact this
      clear hd hf
      go_enter Try.func98, Try.ntmps98
      go_upto_region 1 with (fail)
      simp only [← hp, ← hw1]; clear hp hw1
      have hkb9 := Lib.hid hkb
      clear hkb
      go_wp2_with fail
      go_quiet (fail)
      obtain ⟨wd, hwd⟩ : ∃ wd : World, wd = (w1).drewN nq := ⟨_, rfl⟩
      have hMd : MapF enc2 3 wd b n st.1.length (fstI st.1) := by rw [hwd]; exact (hM).drewN nq
      have hod : OwnL wd 3 B a n c st.2 := by rw [hwd]; exact (ho).drewN nq
      have hbd : Below B w1 wd := by rw [hwd]; exact belowN (Below.refl B w1) nq
      have hhd : wd.heap[r]? = some (.cells #[.map (some b), .slice a n c] 104 (0, 0)) := by rw [hwd]; exact hh
      have hkd : wd.heap[p]? = some (.cells #[.int .i64 x0, .int .i64 x1] 49 (0, 0)) := by rw [hwd]; exact hkb9.out
      have d0 : wd.cell? ⟨r, 0, none⟩ = some (.map (some b)) := by rw [World.cell?]; simp [hhd]
      have d1 : wd.cell? ⟨r, 1, none⟩ = some (.slice a n c) := by rw [World.cell?]; simp [hhd]
      have g1 : wd.frozen? ⟨r, 1, none⟩ = false := by simp [World.frozen?, hhd]
      have kd0 : wd.cell? ⟨p, 0, none⟩ = some (.int .i64 x0) := by rw [World.cell?]; simp [hkd]
      have kd1 : wd.cell? ⟨p, 1, none⟩ = some (.int .i64 x1) := by rw [World.cell?]; simp [hkd]
      have hBd : B ≤ wd.heap.size := Nat.le_trans hB1 hbd.size
      have hrd : r < wd.heap.size := (Array.getElem?_eq_some_iff.1 hhd).1
      rw [← hwd]
      clear hwd hkd
      clear hrun
      go_wp2_with (at_len; refine wl_maplen rfl _ rfl Try.underlying45 hMd rfl ?_)
      go_still_tail 6, (by kernel_rfl)
      change wpList _ _ _ _ _ (World.drew _)
      refine wl_put rfl _ _ _ rfl Try.underlying45 Try.underlying3 hMd.drew (by unfold maxLen; omega) rfl [x0, x1] hx rfl _ rfl (by simp [Lit.wf, IntKind.min, IntKind.max, IntKind.signed, IntKind.bits]; omega) ?_
      simp only [HF.out, Option.isSome_none, Bool.false_eq_true, if_false]
      intro w2 hM1 hg1
      rw [← fstI_snoc [x0, x1] st.1 HF.out, show st.1.length + 1 = (st.1 ++ [[x0, x1]]).length by simp] at hM1
      have hh1 : w2.heap[r]? = some (.cells #[.map (some b), .slice a n c] 104 (0, 0)) := (hg1.block r hrd (fun e => hbr (by cases e; rfl))).trans hhd
      have c1' : w2.cell? ⟨r, 1, none⟩ = some (.slice a n c) := by rw [World.cell?]; simp [hh1]
      have f1' : w2.frozen? ⟨r, 1, none⟩ = false := by simp [World.frozen?, hh1]
      have ho1 : OwnL w2 3 B a n c st.2 := OwnG.grownS hod.drew.gen hg1 hsb.symm
      have hb1 : Below B w1 w2 := hbd.drew.grown hg1 (by simpa using hBd) (fun k hk => by cases hk; exact hBb)
      have hB2 := hb1.size
      go_wp2_with (at_builtin; refine wl_app_own Try.underlying22 elem3 B (.tmp 41) (.tmp 43) rfl rfl rfl rfl (ho1.alloc _) (isL_one _ _ _) (by simp; omega) (by omega) ?_)
      intro a2 c2 w3 ho2 hg2 hb2 hv2
      have hfin := rooms_done _ hh1 hBr hBb hbr hs hsb hM1 (by omega) (by simp; omega) ho2 hg2 hv2
      have hh2 := keep_block _ hh1 hs hg2
      have c2' : w3.cell? ⟨r, 1, none⟩ = some (.slice a n c) := by rw [World.cell?]; simp [hh2]
      have f2' : w3.frozen? ⟨r, 1, none⟩ = false := by simp [World.frozen?, hh2]
      have hbel := hb01.trans (((hb1.alloc (by omega) (.cells #[.int .i64 st.1.length] 3)).trans hb2).setCell (p := ⟨r, 1, none⟩) hBr (.slice a2 (n + 1) c2))
      clear hh hh1 hh2 hg1 hg2 hb2 hv2 hM hM0 hM1
      go_wp2
      go_end0
      exact ⟨rfl, by rw [HD.out]; exact hfin, hbel⟩
end Go.Proofs.Ytjedmiegcbdedaa
namespace Go.Proofs.Ytjedmiegcbdedaa
open Go.RowKit Store11

set_option maxHeartbeats 4000000 in
set_option maxRecDepth 100000 in
theorem put_nine (B r : Nat) (x0 x1 x2 x3 x4 x5 x6 x7 x8 : Int) (st : List (List Int) × List Int) (w : World) (hB : B ≤ w.heap.size) (h : RoomsAt enc9 96 w B r st) (hx : (enc9).ok [x0, x1, x2, x3, x4, x5, x6, x7, x8]) (hn : st.2.length ≤ 1000) :
    Calls Try.prog 94 #[.pointer (some ⟨r, 0, none⟩), .agg #[.int .i64 x0, .int .i64 x1, .int .i64 x2, .int .i64 x3, .int .i64 x4, .int .i64 x5, .int .i64 x6, .int .i64 x7, .int .i64 x8]] w fun e w' => e = .returned (.tuple #[]) ∧ RoomsAt enc9 96 w' B r (divS st [x0, x1, x2, x3, x4, x5, x6, x7, x8]) ∧ Below B w w' := by
  obtain ⟨m, a, n, c, hh0, hBr, ho0, hs, hln, hm⟩ := h
  obtain ⟨w1, hw1⟩ : ∃ w1 : World, w1 = w.alloc (.cells #[.int .i64 x0, .int .i64 x1, .int .i64 x2, .int .i64 x3, .int .i64 x4, .int .i64 x5, .int .i64 x6, .int .i64 x7, .int .i64 x8] 78) := ⟨_, rfl⟩
  obtain ⟨p, hp⟩ : ∃ p : Nat, p = w.heap.size := ⟨_, rfl⟩
  have hr0 : r < w.heap.size := (Array.getElem?_eq_some_iff.1 hh0).1
  have hpr : p ≠ r := by omega
  have hp1 : p < w1.heap.size := by rw [hw1]; simp; omega
  have hBp : B ≤ p := by omega
  have hkb : w1.heap[p]? = some (.cells #[.int .i64 x0, .int .i64 x1, .int .i64 x2, .int .i64 x3, .int .i64 x4, .int .i64 x5, .int .i64 x6, .int .i64 x7, .int .i64 x8] 78 (0, 0)) := by rw [hw1, hp]; exact heap_alloc_new w _
  have hb01 : Below B w w1 := by rw [hw1]; exact (Below.refl B w).alloc hB _
  have hbz : Below w.heap.size w w1 := by rw [hw1]; exact (Below.refl _ w).alloc (Nat.le_refl _) _
  have hh : w1.heap[r]? = some (.cells #[m, .slice a n c] 96 (0, 0)) := (hbz.block r hr0).trans hh0
  have ho : OwnL w1 3 B a n c st.2 := ho0.below hbz
  have hnn := ho.len
  have c0 : w1.cell? ⟨r, 0, none⟩ = some m := by rw [World.cell?]; simp [hh]
  have c1 : w1.cell? ⟨r, 1, none⟩ = some (.slice a n c) := by rw [World.cell?]; simp [hh]
  have f0 : w1.frozen? ⟨r, 0, none⟩ = false := by simp [World.frozen?, hh]
  have f1 : w1.frozen? ⟨r, 1, none⟩ = false := by simp [World.frozen?, hh]
  have k0 : w1.cell? ⟨p, 0, none⟩ = some (.int .i64 x0) := by rw [World.cell?]; simp [hkb]
  have k1 : w1.cell? ⟨p, 1, none⟩ = some (.int .i64 x1) := by rw [World.cell?]; simp [hkb]
  have k2 : w1.cell? ⟨p, 2, none⟩ = some (.int .i64 x2) := by rw [World.cell?]; simp [hkb]
  have k3 : w1.cell? ⟨p, 3, none⟩ = some (.int .i64 x3) := by rw [World.cell?]; simp [hkb]
  have k4 : w1.cell? ⟨p, 4, none⟩ = some (.int .i64 x4) := by rw [World.cell?]; simp [hkb]
  have k5 : w1.cell? ⟨p, 5, none⟩ = some (.int .i64 x5) := by rw [World.cell?]; simp [hkb]
  have k6 : w1.cell? ⟨p, 6, none⟩ = some (.int .i64 x6) := by rw [World.cell?]; simp [hkb]
  have k7 : w1.cell? ⟨p, 7, none⟩ = some (.int .i64 x7) := by rw [World.cell?]; simp [hkb]
  have k8 : w1.cell? ⟨p, 8, none⟩ = some (.int .i64 x8) := by rw [World.cell?]; simp [hkb]
  have q0 : ∀ w, (binOp BinOp.eql 94 (.map none) (.map none)).run Try.prog w = .ok (.bool true) w := fun w => by kernel_rfl
  have q1 : ∀ b w, (binOp BinOp.eql 94 (.map (some b)) (.map none)).run Try.prog w = .ok (.bool false) w := fun b w => by kernel_rfl
  have q2 : ∀ w, (zeroValue 3).run Try.prog w = .ok (.int .i64 0) w := fun w => by kernel_rfl
  have q3 : ∀ w : World, (Instr.makeMap 94 none).run Try.prog w = .ok (.map (some w.heap.size)) (w.alloc (.map #[] 0)) := fun w => rfl
  have hrlt : r < w1.heap.size := (Array.getElem?_eq_some_iff.1 hh).1
  have hB1 : B ≤ w1.heap.size := Nat.le_trans hB hb01.size
  clear hh0 ho0 hr0
  -- what stands behind the look-up of a new key, from a world with a map
  rcases hm with ⟨rfl, h0⟩ | ⟨b, rfl, hBb, hbr, hsb, hM0⟩
  · -- the first key
    have hf : fstI st.1 [x0, x1, x2, x3, x4, x5, x6, x7, x8] = none := by rw [h0]; rfl
    have hd : divS st [x0, x1, x2, x3, x4, x5, x6, x7, x8] = ([[x0, x1, x2, x3, x4, x5, x6, x7, x8]], st.2 ++ [(0 : Int)]) := by rw [divS, hf, h0]; rfl
    have HD := Lib.hid hd
    clear hd h0 hf
    have hz9 : (w1.setCell ⟨r, 0, none⟩ (.map (some w1.heap.size))).heap.size = w1.heap.size := setCell_size _ _ _
    have hMz : MapF enc9 3 ((w1.setCell ⟨r, 0, none⟩ (.map (some w1.heap.size))).alloc (.map #[] 0)) w1.heap.size 0 0 (fun _ => none) := by
      have := MapF.made (E := enc9) (e := 3) (w1.setCell ⟨r, 0, none⟩ (.map (some w1.heap.size)))
      rwa [hz9] at this
    have hrb : w1.heap.size ≠ r := by omega
    have hsb : Sep (some ⟨w1.heap.size, 0, none⟩) a := sep_new ho (Nat.le_refl _)
    have hoz : OwnL ((w1.setCell ⟨r, 0, none⟩ (.map (some w1.heap.size))).alloc (.map #[] 0)) 3 B a n c st.2 := OwnL.alloc (ho.gen.grownS (grown_setCell _ r 0 _) hs.symm) _
    have hbz : Below B w1 ((w1.setCell ⟨r, 0, none⟩ (.map (some w1.heap.size))).alloc (.map #[] 0)) := ((Below.refl B w1).setCell (p := ⟨r, 0, none⟩) hBr _).alloc (by rw [hz9]; exact hB1) _
    have hhz : ((w1.setCell ⟨r, 0, none⟩ (.map (some w1.heap.size))).alloc (.map #[] 0)).heap[r]? = some (.cells #[.map (some w1.heap.size), .slice a n c] 96 (0, 0)) := by
      have := setCell_own hh 0 (.map (some w1.heap.size))
      rw [(World.grownBy_alloc _ (.map #[] 0) none).block r (by rw [hz9]; exact hrlt) (by simp)]
      simpa using this
    have hrun : ∀ nq, (Instr.lookup 94 (.map (some w1.heap.size)) (.agg #[.int .i64 x0, .int .i64 x1, .int .i64 x2, .int .i64 x3, .int .i64 x4, .int .i64 x5, .int .i64 x6, .int .i64 x7, .int .i64 x8]) true).run Try.prog ((((w1.setCell ⟨r, 0, none⟩ (.map (some w1.heap.size))).alloc (.map #[] 0))).drewN nq) = .ok (.tuple #[.int .i64 0, .bool false]) ((((w1.setCell ⟨r, 0, none⟩ (.map (some w1.heap.size))).alloc (.map #[] 0))).drewN nq) := fun nq => (hMz.drewN nq).run_ok Try.underlying94 Try.underlying3 (q2 _) [x0, x1, x2, x3, x4, x5, x6, x7, x8] hx
    have hkz : ((w1.setCell ⟨r, 0, none⟩ (.map (some w1.heap.size))).alloc (.map #[] 0)).heap[p]? = some (.cells #[.int .i64 x0, .int .i64 x1, .int .i64 x2, .int .i64 x3, .int .i64 x4, .int .i64 x5, .int .i64 x6, .int .i64 x7, .int .i64 x8] 78 (0, 0)) := by
      rw [(World.grownBy_alloc _ (.map #[] 0) none).block p (by rw [hz9]; exact hp1) (by simp), (grown_setCell w1 r 0 _).block p hp1 (by simp; omega)]
      exact hkb
    clear hz9
    go_enter Try.func94, Try.ntmps94
    go_upto_region 1 with (fail)
    simp only [← hp, ← hw1]; clear hp hw1 hkb
    go_wp2_with fail
    go_quiet (fail)
    obtain ⟨wd, hwd⟩ : ∃ wd : World, wd = ((w1.setCell ⟨r, 0, none⟩ (.map (some w1.heap.size))).alloc (.map #[] 0)).drewN nq := ⟨_, rfl⟩
    have hMd : MapF enc9 3 wd w1.heap.size 0 0 (fun _ => none) := by rw [hwd]; exact (hMz).drewN nq
    have hod : OwnL wd 3 B a n c st.2 := by rw [hwd]; exact (hoz).drewN nq
    have hbd : Below B w1 wd := by rw [hwd]; exact belowN (hbz) nq
    have hhd : wd.heap[r]? = some (.cells #[.map (some w1.heap.size), .slice a n c] 96 (0, 0)) := by rw [hwd]; exact hhz
    have hkd : wd.heap[p]? = some (.cells #[.int .i64 x0, .int .i64 x1, .int .i64 x2, .int .i64 x3, .int .i64 x4, .int .i64 x5, .int .i64 x6, .int .i64 x7, .int .i64 x8] 78 (0, 0)) := by rw [hwd]; exact hkz
    have d0 : wd.cell? ⟨r, 0, none⟩ = some (.map (some w1.heap.size)) := by rw [World.cell?]; simp [hhd]
    have d1 : wd.cell? ⟨r, 1, none⟩ = some (.slice a n c) := by rw [World.cell?]; simp [hhd]
    have g1 : wd.frozen? ⟨r, 1, none⟩ = false := by simp [World.frozen?, hhd]
    have kd0 : wd.cell? ⟨p, 0, none⟩ = some (.int .i64 x0) := by rw [World.cell?]; simp [hkd]
    have kd1 : wd.cell? ⟨p, 1, none⟩ = some (.int .i64 x1) := by rw [World.cell?]; simp [hkd]
    have kd2 : wd.cell? ⟨p, 2, none⟩ = some (.int .i64 x2) := by rw [World.cell?]; simp [hkd]
    have kd3 : wd.cell? ⟨p, 3, none⟩ = some (.int .i64 x3) := by rw [World.cell?]; simp [hkd]
    have kd4 : wd.cell? ⟨p, 4, none⟩ = some (.int .i64 x4) := by rw [World.cell?]; simp [hkd]
    have kd5 : wd.cell? ⟨p, 5, none⟩ = some (.int .i64 x5) := by rw [World.cell?]; simp [hkd]
    have kd6 : wd.cell? ⟨p, 6, none⟩ = some (.int .i64 x6) := by rw [World.cell?]; simp [hkd]
    have kd7 : wd.cell? ⟨p, 7, none⟩ = some (.int .i64 x7) := by rw [World.cell?]; simp [hkd]
    have kd8 : wd.cell? ⟨p, 8, none⟩ = some (.int .i64 x8) := by rw [World.cell?]; simp [hkd]
    have hBd : B ≤ wd.heap.size := Nat.le_trans hB1 hbd.size
    have hrd : r < wd.heap.size := (Array.getElem?_eq_some_iff.1 hhd).1
    rw [← hwd]
    clear hwd hkd
    clear hMz hoz hbz hhz hkz hrun
    go_wp2_with (at_len; refine wl_maplen rfl _ rfl Try.underlying94 hMd rfl ?_)
    go_still_tail 6, (by kernel_rfl)
    change wpList _ _ _ _ _ (World.drew _)
    refine wl_put rfl _ _ _ rfl Try.underlying94 Try.underlying3 hMd.drew (by unfold maxLen; omega) rfl [x0, x1, x2, x3, x4, x5, x6, x7, x8] hx rfl 0 rfl (by decide) ?_
    intro w2 hM1 hg1
    have hMk : MapF enc9 3 w2 w1.heap.size (n + 1) ([[x0, x1, x2, x3, x4, x5, x6, x7, x8]] : List (List Int)).length (fstI [[x0, x1, x2, x3, x4, x5, x6, x7, x8]]) := by
      have := hM1.mono (show 0 + 1 ≤ n + 1 by omega)
      have e : (fun y => if y = [x0, x1, x2, x3, x4, x5, x6, x7, x8] then some 0 else none) = fstI [[x0, x1, x2, x3, x4, x5, x6, x7, x8]] := by funext y; simp [fstI]
      rw [← e]; exact this
    have hh1 : w2.heap[r]? = some (.cells #[.map (some w1.heap.size), .slice a n c] 96 (0, 0)) := (hg1.block r hrd (fun e => hrb (by cases e; rfl))).trans hhd
    have c1' : w2.cell? ⟨r, 1, none⟩ = some (.slice a n c) := by rw [World.cell?]; simp [hh1]
    have f1' : w2.frozen? ⟨r, 1, none⟩ = false := by simp [World.frozen?, hh1]
    have ho1 : OwnL w2 3 B a n c st.2 := OwnG.grownS hod.drew.gen hg1 hsb.symm
    have hb1 : Below B w1 w2 := hbd.drew.grown hg1 (by simpa using hBd) (fun k hk => by cases hk; exact hB1)
    have hB2 := hb1.size
    go_wp2_with (at_builtin; refine wl_app_own Try.underlying22 elem3 B (.tmp 41) (.tmp 43) rfl rfl rfl rfl (ho1.alloc _) (isL_one _ _ _) (by simp; omega) (by omega) ?_)
    intro a2 c2 w3 ho2 hg2 hb2 hv2
    have hfin := rooms_done _ hh1 hBr hB1 hrb hs hsb hMk (Nat.le_refl _) (by simp) ho2 hg2 hv2
    have hh2 := keep_block _ hh1 hs hg2
    have c2' : w3.cell? ⟨r, 1, none⟩ = some (.slice a n c) := by rw [World.cell?]; simp [hh2]
    have f2' : w3.frozen? ⟨r, 1, none⟩ = false := by simp [World.frozen?, hh2]
    have hbel := hb01.trans (((hb1.alloc (by omega) (.cells #[.int .i64 0] 3)).trans hb2).setCell (p := ⟨r, 1, none⟩) hBr (.slice a2 (n + 1) c2))
    clear hh hh1 hh2 hg1 hg2 hb2 hv2 hM1 hMk
    go_wp2
    go_end0
    exact ⟨rfl, by rw [HD.out]; exact hfin, hbel⟩
  · have hM : MapF enc9 3 w1 b n st.1.length (fstI st.1) := hM0.below hbz
    cases hf : fstI st.1 [x0, x1, x2, x3, x4, x5, x6, x7, x8] with
    | some i =>
      have hi := fstI_lt _ _ _ hf
      have hd : divS st [x0, x1, x2, x3, x4, x5, x6, x7, x8] = (st.1, st.2 ++ [i]) := by rw [divS, hf]
      have HD := Lib.hid hd
      have hrun : ∀ nq, (Instr.lookup 94 (.map (some b)) (.agg #[.int .i64 x0, .int .i64 x1, .int .i64 x2, .int .i64 x3, .int .i64 x4, .int .i64 x5, .int .i64 x6, .int .i64 x7, .int .i64 x8]) true).run Try.prog (w1.drewN nq) = .ok (.tuple #[.int .i64 i, .bool true]) (w1.drewN nq) := fun nq => by
        have := (hM.drewN nq).run_ok Try.underlying94 Try.underlying3 (q2 _) [x0, x1, x2, x3, x4, x5, x6, x7, x8] hx
        rw [hf] at this
        exact this
      clear hd hf
      go_enter Try.func94, Try.ntmps94
      go_upto_region 1 with (fail)
      simp only [← hp, ← hw1]; clear hp hw1
      have hkb9 := Lib.hid hkb
      clear hkb
      go_wp2_with fail
      go_quiet (fail)
      obtain ⟨wd, hwd⟩ : ∃ wd : World, wd = (w1).drewN nq := ⟨_, rfl⟩
      have hMd : MapF enc9 3 wd b n st.1.length (fstI st.1) := by rw [hwd]; exact (hM).drewN nq
      have hod : OwnL wd 3 B a n c st.2 := by rw [hwd]; exact (ho).drewN nq
      have hbd : Below B w1 wd := by rw [hwd]; exact belowN (Below.refl B w1) nq
      have hhd : wd.heap[r]? = some (.cells #[.map (some b), .slice a n c] 96 (0, 0)) := by rw [hwd]; exact hh
      have hkd : wd.heap[p]? = some (.cells #[.int .i64 x0, .int .i64 x1, .int .i64 x2, .int .i64 x3, .int .i64 x4, .int .i64 x5, .int .i64 x6, .int .i64 x7, .int .i64 x8] 78 (0, 0)) := by rw [hwd]; exact hkb9.out
      have d0 : wd.cell? ⟨r, 0, none⟩ = some (.map (some b)) := by rw [World.cell?]; simp [hhd]
      have d1 : wd.cell? ⟨r, 1, none⟩ = some (.slice a n c) := by rw [World.cell?]; simp [hhd]
      have g1 : wd.frozen? ⟨r, 1, none⟩ = false := by simp [World.frozen?, hhd]
      have kd0 : wd.cell? ⟨p, 0, none⟩ = some (.int .i64 x0) := by rw [World.cell?]; simp [hkd]
      have kd1 : wd.cell? ⟨p, 1, none⟩ = some (.int .i64 x1) := by rw [World.cell?]; simp [hkd]
      have kd2 : wd.cell? ⟨p, 2, none⟩ = some (.int .i64 x2) := by rw [World.cell?]; simp [hkd]
      have kd3 : wd.cell? ⟨p, 3, none⟩ = some (.int .i64 x3) := by rw [World.cell?]; simp [hkd]
      have kd4 : wd.cell? ⟨p, 4, none⟩ = some (.int .i64 x4) := by rw [World.cell?]; simp [hkd]
      have kd5 : wd.cell? ⟨p, 5, none⟩ = some (.int .i64 x5) := by rw [World.cell?]; simp [hkd]
      have kd6 : wd.cell? ⟨p, 6, none⟩ = some (.int .i64 x6) := by rw [World.cell?]; simp [hkd]
      have kd7 : wd.cell? ⟨p, 7, none⟩ = some (.int .i64 x7) := by rw [World.cell?]; simp [hkd]
      have kd8 : wd.cell? ⟨p, 8, none⟩ = some (.int .i64 x8) := by rw [World.cell?]; simp [hkd]
      have hBd : B ≤ wd.heap.size := Nat.le_trans hB1 hbd.size
      have hrd : r < wd.heap.size := (Array.getElem?_eq_some_iff.1 hhd).1
      rw [← hwd]
      clear hwd hkd
      clear hrun
      go_wp2_with (at_builtin; refine wl_app_own Try.underlying22 elem3 B (.tmp 41) (.tmp 43) rfl rfl rfl rfl (hod.alloc _) (isL_one _ _ _) (by simp; omega) (by omega) ?_)
      intro a2 c2 w2 ho2 hg2 hb2 hv2
      have hfin := rooms_done _ hhd hBr hBb hbr hs hsb hMd (by omega) (by omega) ho2 hg2 hv2
      have hh2 := keep_block _ hhd hs hg2
      have c2' : w2.cell? ⟨r, 1, none⟩ = some (.slice a n c) := by rw [World.cell?]; simp [hh2]
      have f2' : w2.frozen? ⟨r, 1, none⟩ = false := by simp [World.frozen?, hh2]
      have hbel := hb01.trans (((hbd.alloc hBd (.cells #[.int .i64 i] 3)).trans hb2).setCell (p := ⟨r, 1, none⟩) hBr (.slice a2 (n + 1) c2))
      clear hh hh2 hg2 hb2 hv2 hM hM0
      go_wp2
      go_end0
      exact ⟨rfl, by rw [HD.out]; exact hfin, hbel⟩
    | none =>
      have hd : divS st [x0, x1, x2, x3, x4, x5, x6, x7, x8] = (st.1 ++ [[x0, x1, x2, x3, x4, x5, x6, x7, x8]], st.2 ++ [(st.1.length : Int)]) := by rw [divS, hf]
      have HD := Lib.hid hd
      have HF := Lib.hid hf
      have hrun : ∀ nq, (Instr.lookup 94 (.map (some b)) (.agg #[.int .i64 x0, .int .i64 x1, .int .i64 x2, .int .i64 x3, .int .i64 x4, .int .i64 x5, .int .i64 x6, .int .i64 x7, .int .i64 x8]) true).run Try.prog (w1.drewN nq) = .ok (.tuple #[.int .i64 0, .bool false]) (w1.drewN nq) := fun nq => by
        have := (hM.drewN nq).run_ok Try.underlying94 Try.underlying3 (q2 _) [x0, x1, x2, x3, x4, x5, x6, x7, x8] hx
        rw [hf] at this
        exact this
      clear hd hf
      go_enter Try.func94, Try.ntmps94
      go_upto_region 1 with (fail)
      simp only [← hp, ← hw1]; clear hp hw1
      have hkb9 := Lib.hid hkb
      clear hkb
      go_wp2_with fail
      go_quiet (fail)
      obtain ⟨wd, hwd⟩ : ∃ wd : World, wd = (w1).drewN nq := ⟨_, rfl⟩
      have hMd : MapF enc9 3 wd b n st.1.length (fstI st.1) := by rw [hwd]; exact (hM).drewN nq
      have hod : OwnL wd 3 B a n c st.2 := by rw [hwd]; exact (ho).drewN nq
      have hbd : Below B w1 wd := by rw [hwd]; exact belowN (Below.refl B w1) nq
      have hhd : wd.heap[r]? = some (.cells #[.map (some b), .slice a n c] 96 (0, 0)) := by rw [hwd]; exact hh
      have hkd : wd.heap[p]? = some (.cells #[.int .i64 x0, .int .i64 x1, .int .i64 x2, .int .i64 x3, .int .i64 x4, .int .i64 x5, .int .i64 x6, .int .i64 x7, .int .i64 x8] 78 (0, 0)) := by rw [hwd]; exact hkb9.out
      have d0 : wd.cell? ⟨r, 0, none⟩ = some (.map (some b)) := by rw [World.cell?]; simp [hhd]
      have d1 : wd.cell? ⟨r, 1, none⟩ = some (.slice a n c) := by rw [World.cell?]; simp [hhd]
      have g1 : wd.frozen? ⟨r, 1, none⟩ = false := by simp [World.frozen?, hhd]
      have kd0 : wd.cell? ⟨p, 0, none⟩ = some (.int .i64 x0) := by rw [World.cell?]; simp [hkd]
      have kd1 : wd.cell? ⟨p, 1, none⟩ = some (.int .i64 x1) := by rw [World.cell?]; simp [hkd]
      have kd2 : wd.cell? ⟨p, 2, none⟩ = some (.int .i64 x2) := by rw [World.cell?]; simp [hkd]
      have kd3 : wd.cell? ⟨p, 3, none⟩ = some (.int .i64 x3) := by rw [World.cell?]; simp [hkd]
      have kd4 : wd.cell? ⟨p, 4, none⟩ = some (.int .i64 x4) := by rw [World.cell?]; simp [hkd]
      have kd5 : wd.cell? ⟨p, 5, none⟩ = some (.int .i64 x5) := by rw [World.cell?]; simp [hkd]
      have kd6 : wd.cell? ⟨p, 6, none⟩ = some (.int .i64 x6) := by rw [World.cell?]; simp [hkd]
      have kd7 : wd.cell? ⟨p, 7, none⟩ = some (.int .i64 x7) := by rw [World.cell?]; simp [hkd]
      have kd8 : wd.cell? ⟨p, 8, none⟩ = some (.int .i64 x8) := by rw [World.cell?]; simp [hkd]
      have hBd : B ≤ wd.heap.size := Nat.le_trans hB1 hbd.size
      have hrd : r < wd.heap.size := (Array.getElem?_eq_some_iff.1 hhd).1
      rw [← hwd]
      clear hwd hkd
      clear hrun
      go_wp2_with (at_len; refine wl_maplen rfl _ rfl Try.underlying94 hMd rfl ?_)
      go_still_tail 6, (by kernel_rfl)
      change wpList _ _ _ _ _ (World.drew _)
      refine wl_put rfl _ _ _ rfl Try.underlying94 Try.underlying3 hMd.drew (by unfold maxLen; omega) rfl [x0, x1, x2, x3, x4, x5, x6, x7, x8] hx rfl _ rfl (by simp [Lit.wf, IntKind.min, IntKind.max, IntKind.signed, IntKind.bits]; omega) ?_
      simp only [HF.out, Option.isSome_none, Bool.false_eq_true, if_false]
      intro w2 hM1 hg1
      rw [← fstI_snoc [x0, x1, x2, x3, x4, x5, x6, x7, x8] st.1 HF.out, show st.1.length + 1 = (st.1 ++ [[x0, x1, x2, x3, x4, x5, x6, x7, x8]]).length by simp] at hM1
      have hh1 : w2.heap[r]? = some (.cells #[.map (some b), .slice a n c] 96 (0, 0)) := (hg1.block r hrd (fun e => hbr (by cases e; rfl))).trans hhd
      have c1' : w2.cell? ⟨r, 1, none⟩ = some (.slice a n c) := by rw [World.cell?]; simp [hh1]
      have f1' : w2.frozen? ⟨r, 1, none⟩ = false := by simp [World.frozen?, hh1]
      have ho1 : OwnL w2 3 B a n c st.2 := OwnG.grownS hod.drew.gen hg1 hsb.symm
      have hb1 : Below B w1 w2 := hbd.drew.grown hg1 (by simpa using hBd) (fun k hk => by cases hk; exact hBb)
      have hB2 := hb1.size
      go_wp2_with (at_builtin; refine wl_app_own Try.underlying22 elem3 B (.tmp 41) (.tmp 43) rfl rfl rfl rfl (ho1.alloc _) (isL_one _ _ _) (by simp; omega) (by omega) ?_)
      intro a2 c2 w3 ho2 hg2 hb2 hv2
      have hfin := rooms_done _ hh1 hBr hBb hbr hs hsb hM1 (by omega) (by simp; omega) ho2 hg2 hv2
      have hh2 := keep_block _ hh1 hs hg2
      have c2' : w3.cell? ⟨r, 1, none⟩ = some (.slice a n c) := by rw [World.cell?]; simp [hh2]
      have f2' : w3.frozen? ⟨r, 1, none⟩ = false := by simp [World.frozen?, hh2]
      have hbel := hb01.trans (((hb1.alloc (by omega) (.cells #[.int .i64 st.1.length] 3)).trans hb2).setCell (p := ⟨r, 1, none⟩) hBr (.slice a2 (n + 1) c2))
      clear hh hh1 hh2 hg1 hg2 hb2 hv2 hM hM0 hM1
      go_wp2
      go_end0
      exact ⟨rfl, by rw [HD.out]; exact hfin, hbel⟩
end Go.Proofs.Ytjedmiegcbdedaa
