/- Walks of chapter 11: the closures of Gaps and Back. -/
import Derived.Test.YtjedmiegcbdedaaWp
import Derived.Test.YtjedmiegcbdedaaWj
import Derived.Test.YtjedmiegcbdedaaWe
namespace Go.Proofs.Ytjedmiegcbdedaa
open Go.RowKit Store11

theorem IsL.grownS {w w' : World} {a : Option Addr} {n c g : Nat} {l : List Int} (h : IsL w a n c l) (hg : w.grownBy w' (some g)) (hs : Sep a (some ⟨g, 0, none⟩)) : IsL w' a n c l :=
  IsL.grown (o := some ⟨g, 0, none⟩) (k := 0) (co := 0) h (by simpa [Value.ownBlock] using hg) hs
theorem info78 : (Try.prog.info? 78).map (·.size) = some 9 := by kernel_rfl
theorem grown_alloc {w w' : World} {r : Option Nat} (h : w.grownBy w' r) (o : Obj) : w.grownBy (w'.alloc o) r :=
  ⟨h.os, h.tape, h.output, Nat.le_trans h.size (by simp), fun k hk hn => ((World.grownBy_alloc w' o none).block k (Nat.lt_of_lt_of_le hk h.size) (by simp)).trans (h.block k hk hn)⟩

/-- Writes into a new block do not count. -/
theorem grown_new {w w' w'' : World} {r : Nat} {x : Option Nat} (h : w.grownBy w' x) (h2 : w'.grownBy w'' (some r)) (hr : w.heap.size ≤ r) : w.grownBy w'' x :=
  ⟨h2.os.trans h.os, h2.tape.trans h.tape, h2.output.trans h.output, Nat.le_trans h.size h2.size, fun k hk hn => (h2.block k (Nat.lt_of_lt_of_le hk h.size) (fun e => by cases e; omega)).trans (h.block k hk hn)⟩

set_option maxHeartbeats 2000000 in
set_option maxRecDepth 100000 in
theorem gap1_any (g p q k : Nat) (a a2 : Option Addr) (n c c2 : Nat) (l N L : List Int) (w : World) (hg : TabAt w g 78 L) (hL : L.length = 9) (h : IsL w a n c l) (h' : IsL w a2 n c2 N) (hp : w.cell? ⟨p, 0, none⟩ = some (.slice a n c)) (hq : w.cell? ⟨q, 0, none⟩ = some (.slice a2 n c2))
    (hk : k < n) (hr : 0 ≤ l.getD k 0 ∧ l.getD k 0 < 9) (hb : 0 ≤ L.getD (l.getD k 0).toNat 0 ∧ L.getD (l.getD k 0).toNat 0 ≤ 100) (hpg : p ≠ g) (hqg : q ≠ g) (hs : Sep a (some ⟨g, 0, none⟩)) (hs2 : Sep a2 (some ⟨g, 0, none⟩)) :
    Calls Try.prog 81 #[.int .i64 k, .pointer (some ⟨g, 0, none⟩), .pointer (some ⟨p, 0, none⟩), .pointer (some ⟨q, 0, none⟩)] w fun e w' => e = .returned (.agg ((nowS l N L k).map (Value.int .i64)).toArray) ∧ TabAt w' g 78 (nowS l N L k) ∧ w.grownBy w' (some g) := by
  obtain ⟨ρ, hρ⟩ : ∃ ρ : Nat, l.getD k 0 = ρ := ⟨(l.getD k 0).toNat, by omega⟩
  have hnow : nowS l N L k = if N.getD k 0 = 0 then (L.set ρ (L.getD ρ 0 + 1)).set ρ 0 else L.set ρ (L.getD ρ 0 + 1) := by
    unfold nowS; rw [hρ]; rfl
  rw [hρ] at hr hb
  have hglt := hg.lt
  obtain ⟨b1, o1, rfl, hb1, hc1⟩ := h.cells (by omega)
  obtain ⟨b2, o2, rfl, hb2, hc2⟩ := h'.cells (by omega)
  have hne1 : b1 ≠ g := hs _ _ rfl rfl
  have hne2 : b2 ≠ g := hs2 _ _ rfl rfl
  have y1 := hc1 k hk
  have y2 := hc2 k hk
  rw [hρ] at y1
  have hplt : p < w.heap.size := World.block_lt_of_cell? w _ hp
  have hqlt : q < w.heap.size := World.block_lt_of_cell? w _ hq
  obtain ⟨w1, hw1⟩ : ∃ w1 : World, w1 = w.alloc (.cells #[.int .i64 0, .int .i64 0, .int .i64 0, .int .i64 0, .int .i64 0, .int .i64 0, .int .i64 0, .int .i64 0, .int .i64 0] 78) := ⟨_, rfl⟩
  obtain ⟨r, hrr⟩ : ∃ r : Nat, r = w.heap.size := ⟨_, rfl⟩
  have hbw : Below r w w1 := by rw [hw1, hrr]; exact (Below.refl _ w).alloc (Nat.le_refl _) _
  have hgr : w.grownBy w1 (some g) := by rw [hw1]; exact grown_alloc (World.grownBy.refl w _) _
  have t1 : TabAt w1 r 78 (List.replicate 9 0) := by rw [hw1, hrr]; exact heap_alloc_new w _
  have tg : TabAt w1 g 78 L := hg.kept (hbw.block g (by omega))
  have x1 : w1.cell? ⟨b1, o1 + k, none⟩ = some (.int .i64 (ρ : Int)) := (hbw.cell (p := ⟨b1, o1 + k, none⟩) (by rw [hrr]; exact hb1)).trans y1
  have x2 : w1.cell? ⟨b2, o2 + k, none⟩ = some (.int .i64 (N.getD k 0)) := (hbw.cell (p := ⟨b2, o2 + k, none⟩) (by rw [hrr]; exact hb2)).trans y2
  have x3 : w1.cell? ⟨p, 0, none⟩ = some (.slice (some ⟨b1, o1, none⟩) n c) := (hbw.cell (p := ⟨p, 0, none⟩) (by rw [hrr]; exact hplt)).trans hp
  have x4 : w1.cell? ⟨q, 0, none⟩ = some (.slice (some ⟨b2, o2, none⟩) n c2) := (hbw.cell (p := ⟨q, 0, none⟩) (by rw [hrr]; exact hqlt)).trans hq
  have hcap := h.cap
  have hle := h.le
  have hcap' := h'.cap
  have hle' := h'.le
  have q1 : (k : Int) < (n : Int) := by omega
  have q2 : (ρ : Int) < 9 := by omega
  obtain ⟨x5, f5⟩ := tg.cell ρ (by omega)
  have hrg : r ≠ g := by omega
  rw [show ((ρ : Int)).toNat = ρ by omega] at hb
  have HNOW := Lib.hid hnow
  have HRR := Lib.hid hrr
  have HLL := Lib.hid hL
  generalize L.getD ρ 0 = v at *
  have tg2 := tg.set ρ (v + 1)
  have tg3 := tg2.set ρ 0
  have gr2 := grown_trans hgr (grown_setCell w1 g ρ (.int .i64 (v + 1)))
  have gr3 := grown_trans gr2 (grown_setCell _ g ρ (.int .i64 0))
  have t2 := t1.kept ((grown_setCell w1 g ρ (.int .i64 (v + 1))).block r t1.lt (by simp; omega))
  have t3 := t2.kept ((grown_setCell _ g ρ (.int .i64 0)).block r t2.lt (by simp; omega))
  generalize N.getD k 0 = z at *
  clear hρ hnow hL hc1 hc2 h h' y1 y2 hp hq hg hs hs2 hb1 hb2
  have hc6 : (w1.setCell ⟨g, ρ, none⟩ (.int .i64 (v + 1))).cell? ⟨g, ρ, none⟩ = some (.int .i64 (v + 1)) := World.cell?_setCell_same _ _ _ x5
  by_cases hz : z = 0
  · subst hz
    rw [if_pos rfl] at HNOW
    have HT : Hid (TabAt ((w1.setCell ⟨g, ρ, none⟩ (.int .i64 (v + 1))).setCell ⟨g, ρ, none⟩ (.int .i64 0)) g 78 (nowS l N L k)) := Lib.hid (by rw [HNOW.out]; exact tg3)
    have HLN : Hid (((nowS l N L k).map (Value.int .i64)).toArray.size = 9) := Lib.hid (by simp [nowS_len, HLL.out])
    have HF := Lib.hid (t3.setAll (nowS l N L k) (by rw [nowS_len, HLL.out]; rfl))
    have HTH : Hid (((w1.setCell ⟨g, ρ, none⟩ (.int .i64 (v + 1))).setCell ⟨g, ρ, none⟩ (.int .i64 0)).there r 0 ((nowS l N L k).map (Value.int .i64)).toArray.size) := Lib.hid (by rw [HLN.out]; simpa using t3.there)
    have H1 := Lib.hid (ints_one (nowS l N L k))
    have GR := Lib.hid gr3
    have T3 := Lib.hid t3
    generalize nowS l N L k = M at *
    clear tg tg2 tg3 t1 t2 t3 gr2 gr3 hgr HNOW
    go_enter Try.func81, Try.ntmps81
    go_upto_region 1 with (fail)
    simp only [← hrr, ← hw1]; clear hrr hw1
    go_wp2_with (first
      | (refine wpList_load_row rfl 78 _ rfl g rfl 78 _ _ _ HT.out Try.underlying78 rfl (by rw [HLN.out]; exact info78) ?_)
      | (refine wpList_store_mid rfl 78 _ _ rfl r 0 _ rfl rfl HTH.out (by rw [HLN.out]; exact info78) H1.out ?_))
    refine bodyPost_ret (v := .agg (M.map (Value.int .i64)).toArray) (results_cell_row (p := 5) (ty := 78) rfl _ _ r 78 _ _ _ rfl HF.out Try.underlying78 rfl (by rw [HLN.out]; exact info78)) rfl ⟨rfl, ?_, ?_⟩
    · exact HT.out.kept ((grown_setCells r _ 0 _).block g HT.out.lt (by simp; omega))
    · exact grown_new GR.out (grown_setCells r _ 0 _) (by rw [HRR.out]; exact Nat.le_refl _)
  · rw [if_neg hz] at HNOW
    have hz0 : (z == 0) = false := by simpa using hz
    clear hz
    have HT : Hid (TabAt (w1.setCell ⟨g, ρ, none⟩ (.int .i64 (v + 1))) g 78 (nowS l N L k)) := Lib.hid (by rw [HNOW.out]; exact tg2)
    have HLN : Hid (((nowS l N L k).map (Value.int .i64)).toArray.size = 9) := Lib.hid (by simp [nowS_len, HLL.out])
    have HF := Lib.hid (t2.setAll (nowS l N L k) (by rw [nowS_len, HLL.out]; rfl))
    have HTH : Hid ((w1.setCell ⟨g, ρ, none⟩ (.int .i64 (v + 1))).there r 0 ((nowS l N L k).map (Value.int .i64)).toArray.size) := Lib.hid (by rw [HLN.out]; simpa using t2.there)
    have H1 := Lib.hid (ints_one (nowS l N L k))
    have GR := Lib.hid gr2
    have T3 := Lib.hid t2
    generalize nowS l N L k = M at *
    clear tg tg2 tg3 t1 t2 t3 gr2 gr3 hgr HNOW
    go_enter Try.func81, Try.ntmps81
    go_upto_region 1 with (fail)
    simp only [← hrr, ← hw1]; clear hrr hw1
    go_wp2_with (first
      | (refine wpList_load_row rfl 78 _ rfl g rfl 78 _ _ _ HT.out Try.underlying78 rfl (by rw [HLN.out]; exact info78) ?_)
      | (refine wpList_store_mid rfl 78 _ _ rfl r 0 _ rfl rfl HTH.out (by rw [HLN.out]; exact info78) H1.out ?_))
    refine bodyPost_ret (v := .agg (M.map (Value.int .i64)).toArray) (results_cell_row (p := 5) (ty := 78) rfl _ _ r 78 _ _ _ rfl HF.out Try.underlying78 rfl (by rw [HLN.out]; exact info78)) rfl ⟨rfl, ?_, ?_⟩
    · exact HT.out.kept ((grown_setCells r _ 0 _).block g HT.out.lt (by simp; omega))
    · exact grown_new GR.out (grown_setCells r _ 0 _) (by rw [HRR.out]; exact Nat.le_refl _)
end Go.Proofs.Ytjedmiegcbdedaa
