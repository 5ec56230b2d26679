/- Walks of chapter 11: the closures of Gaps and Back. -/
import Derived.Test.YtjedmiegcbdedaaWp
import Derived.Test.YtjedmiegcbdedaaWj
import Derived.Test.YtjedmiegcbdedaaWe
namespace Go.Proofs.Ytjedmiegcbdedaa
open Go.RowKit Store11

theorem IsL.grownS {w w' : World} {a : Option Addr} {n c g : Nat} {l : List Int} (h : IsL w a n c l) (hg : w.grownBy w' (some g)) (hs : Sep a (some ⟨g, 0, none⟩)) : IsL w' a n c l :=
  IsL.grown (o := some ⟨g, 0, none⟩) (k := 0) (co := 0) h (by simpa [Value.ownBlock] using hg) hs
theorem info78 : (Try.prog.info? 78).map (·.size) = some 9 := by kernel_rfl
theorem grown_alloc {w w' : World} {r : Option Nat} (h : w.grownBy w' r) (o : Obj) : w.grownBy (w'.alloc o) r :=
  ⟨h.os, h.tape, h.output, Nat.le_trans h.size (by simp), fun k hk hn => ((World.grownBy_alloc w' o none).block k (Nat.lt_of_lt_of_le hk h.size) (by simp)).trans (h.block k hk hn)⟩

/-- Writes into a new block do not count. -/
theorem grown_new {w w' w'' : World} {r : Nat} {x : Option Nat} (h : w.grownBy w' x) (h2 : w'.grownBy w'' (some r)) (hr : w.heap.size ≤ r) : w.grownBy w'' x :=
  ⟨h2.os.trans h.os, h2.tape.trans h.tape, h2.output.trans h.output, Nat.le_trans h.size h2.size, fun k hk hn => (h2.block k (Nat.lt_of_lt_of_le hk h.size) (fun e => by cases e; omega)).trans (h.block k hk hn)⟩

set_option maxHeartbeats 2000000 in
set_option maxRecDepth 100000 in
theorem gap1_any (g p q k : Nat) (a a2 : Option Addr) (n c c2 : Nat) (l N L : List Int) (w : World) (hg : TabAt w g 78 L) (hL : L.length = 9) (h : IsL w a n c l) (h' : IsL w a2 n c2 N) (hp : w.cell? ⟨p, 0, none⟩ = some (.slice a n c)) (hq : w.cell? ⟨q, 0, none⟩ = some (.slice a2 n c2))
    (hk : k < n) (hr : 0 ≤ l.getD k 0 ∧ l.getD k 0 < 9) (hb : 0 ≤ L.getD (l.getD k 0).toNat 0 ∧ L.getD (l.getD k 0).toNat 0 ≤ 100) (hpg : p ≠ g) (hqg : q ≠ g) (hs : Sep a (some ⟨g, 0, none⟩)) (hs2 : Sep a2 (some ⟨g, 0, none⟩)) :
    Calls Try.prog 81 #[.int .i64 k, .pointer (some ⟨g, 0, none⟩), .pointer (some ⟨p, 0, none⟩), .pointer (some ⟨q, 0, none⟩)] w fun e w' => e = .returned (.agg ((nowS l N L k).map (Value.int .i64)).toArray) ∧ TabAt w' g 78 (nowS l N L k) ∧ w.grownBy w' (some g) := by
  obtain ⟨ρ, hρ⟩ : ∃ ρ : Nat, l.getD k 0 = ρ := ⟨(l.getD k 0).toNat, by omega⟩
  have hnow : nowS l N L k = if N.getD k 0 = 0 then (L.set ρ (L.getD ρ 0 + 1)).set ρ 0 else L.set ρ (L.getD ρ 0 + 1) := by
    unfold nowS; rw [hρ]; rfl
  rw [hρ] at hr hb
  have hglt := hg.lt
  obtain ⟨b1, o1, rfl, hb1, hc1⟩ := h.cells (by omega)
  obtain ⟨b2, o2, rfl, hb2, hc2⟩ := h'.cells (by omega)
  have hne1 : b1 ≠ g := hs _ _ rfl rfl
  have hne2 : b2 ≠ g := hs2 _ _ rfl rfl
  have y1 := hc1 k hk
  have y2 := hc2 k hk
  rw [hρ] at y1
  have hplt : p < w.heap.size := World.block_lt_of_cell? w _ hp
  have hqlt : q < w.heap.size := World.block_lt_of_cell? w _ hq
  obtain ⟨w1, hw1⟩ : ∃ w1 : World, w1 = w.alloc (.cells #[.int .i64 0, .int .i64 0, .int .i64 0, .int .i64 0, .int .i64 0, .int .i64 0, .int .i64 0, .int .i64 0, .int .i64 0] 78) := ⟨_, rfl⟩
  obtain ⟨r, hrr⟩ : ∃ r : Nat, r = w.heap.size := ⟨_, rfl⟩
  have hbw : Below r w w1 := by rw [hw1, hrr]; exact (Below.refl _ w).alloc (Nat.le_refl _) _
  have hgr : w.grownBy w1 (some g) := by rw [hw1]; exact grown_alloc (World.grownBy.refl w _) _
  have t1 : TabAt w1 r 78 (List.replicate 9 0) := by rw [hw1, hrr]; exact heap_alloc_new w _
  have tg : TabAt w1 g 78 L := hg.kept (hbw.block g (by omega))
  have x1 : w1.cell? ⟨b1, o1 + k, none⟩ = some (.int .i64 (ρ : Int)) := (hbw.cell (p := ⟨b1, o1 + k, none⟩) (by rw [hrr]; exact hb1)).trans y1
  have x2 : w1.cell? ⟨b2, o2 + k, none⟩ = some (.int .i64 (N.getD k 0)) := (hbw.cell (p := ⟨b2, o2 + k, none⟩) (by rw [hrr]; exact hb2)).trans y2
  have x3 : w1.cell? ⟨p, 0, none⟩ = some (.slice (some ⟨b1, o1, none⟩) n c) := (hbw.cell (p := ⟨p, 0, none⟩) (by rw [hrr]; exact hplt)).trans hp
  have x4 : w1.cell? ⟨q, 0, none⟩ = some (.slice (some ⟨b2, o2, none⟩) n c2) := (hbw.cell (p := ⟨q, 0, none⟩) (by rw [hrr]; exact hqlt)).trans hq
  have hcap := h.cap
  have hle := h.le
  have hcap' := h'.cap
  have hle' := h'.le
  have q1 : (k : Int) < (n : Int) := by omega
  have q2 : (ρ : Int) < 9 := by omega
  obtain ⟨x5, f5⟩ := tg.cell ρ (by omega)
  have hrg : r ≠ g := by omega
  rw [show ((ρ : Int)).toNat = ρ by omega] at hb
  have HNOW := Lib.hid hnow
  have HRR := Lib.hid hrr
  have HLL := Lib.hid hL
  generalize L.getD ρ 0 = v at *
  have tg2 := tg.set ρ (v + 1)
  have tg3 := tg2.set ρ 0
  have gr2 := grown_trans hgr (grown_setCell w1 g ρ (.int .i64 (v + 1)))
  have gr3 := grown_trans gr2 (grown_setCell _ g ρ (.int .i64 0))
  have t2 := t1.kept ((grown_setCell w1 g ρ (.int .i64 (v + 1))).block r t1.lt (by simp; omega))
  have t3 := t2.kept ((grown_setCell _ g ρ (.int .i64 0)).block r t2.lt (by simp; omega))
  generalize N.getD k 0 = z at *
  clear hρ hnow hL hc1 hc2 h h' y1 y2 hp hq hg hs hs2 hb1 hb2
  have hc6 : (w1.setCell ⟨g, ρ, none⟩ (.int .i64 (v + 1))).cell? ⟨g, ρ, none⟩ = some (.int .i64 (v + 1)) := World.cell?_setCell_same _ _ _ x5
  by_cases hz : z = 0
  · subst hz
    rw [if_pos rfl] at HNOW
    have HT : Hid (TabAt ((w1.setCell ⟨g, ρ, none⟩ (.int .i64 (v + 1))).setCell ⟨g, ρ, none⟩ (.int .i64 0)) g 78 (nowS l N L k)) := Lib.hid (by rw [HNOW.out]; exact tg3)
    have HLN : Hid (((nowS l N L k).map (Value.int .i64)).toArray.size = 9) := Lib.hid (by simp [nowS_len, HLL.out])
    have HF := Lib.hid (t3.setAll (nowS l N L k) (by rw [nowS_len, HLL.out]; rfl))
    have HTH : Hid (((w1.setCell ⟨g, ρ, none⟩ (.int .i64 (v + 1))).setCell ⟨g, ρ, none⟩ (.int .i64 0)).there r 0 ((nowS l N L k).map (Value.int .i64)).toArray.size) := Lib.hid (by rw [HLN.out]; simpa using t3.there)
    have H1 := Lib.hid (ints_one (nowS l N L k))
    have GR := Lib.hid gr3
    have T3 := Lib.hid t3
    generalize nowS l N L k = M at *
    clear tg tg2 tg3 t1 t2 t3 gr2 gr3 hgr HNOW
    go_enter Try.func81, Try.ntmps81
    go_upto_region 1 with (fail)
    simp only [← hrr, ← hw1]; clear hrr hw1
    go_wp2_with (first
      | (refine wpList_load_row rfl 78 _ rfl g rfl 78 _ _ _ HT.out Try.underlying78 rfl (by rw [HLN.out]; exact info78) ?_)
      | (refine wpList_store_mid rfl 78 _ _ rfl r 0 _ rfl rfl HTH.out (by rw [HLN.out]; exact info78) H1.out ?_))
    refine bodyPost_ret (v := .agg (M.map (Value.int .i64)).toArray) (results_cell_row (p := 5) (ty := 78) rfl _ _ r 78 _ _ _ rfl HF.out Try.underlying78 rfl (by rw [HLN.out]; exact info78)) rfl ⟨rfl, ?_, ?_⟩
    · exact HT.out.kept ((grown_setCells r _ 0 _).block g HT.out.lt (by simp; omega))
    · exact grown_new GR.out (grown_setCells r _ 0 _) (by rw [HRR.out]; exact Nat.le_refl _)
  · rw [if_neg hz] at HNOW
    have hz0 : (z == 0) = false := by simpa using hz
    clear hz
    have HT : Hid (TabAt (w1.setCell ⟨g, ρ, none⟩ (.int .i64 (v + 1))) g 78 (nowS l N L k)) := Lib.hid (by rw [HNOW.out]; exact tg2)
    have HLN : Hid (((nowS l N L k).map (Value.int .i64)).toArray.size = 9) := Lib.hid (by simp [nowS_len, HLL.out])
    have HF := Lib.hid (t2.setAll (nowS l N L k) (by rw [nowS_len, HLL.out]; rfl))
    have HTH : Hid ((w1.setCell ⟨g, ρ, none⟩ (.int .i64 (v + 1))).there r 0 ((nowS l N L k).map (Value.int .i64)).toArray.size) := Lib.hid (by rw [HLN.out]; simpa using t2.there)
    have H1 := Lib.hid (ints_one (nowS l N L k))
    have GR := Lib.hid gr2
    have T3 := Lib.hid t2
    generalize nowS l N L k = M at *
    clear tg tg2 tg3 t1 t2 t3 gr2 gr3 hgr HNOW
    go_enter Try.func81, Try.ntmps81
    go_upto_region 1 with (fail)
    simp only [← hrr, ← hw1]; clear hrr hw1
    go_wp2_with (first
      | (refine wpList_load_row rfl 78 _ rfl g rfl 78 _ _ _ HT.out Try.underlying78 rfl (by rw [HLN.out]; exact info78) ?_)
      | (refine wpList_store_mid rfl 78 _ _ rfl r 0 _ rfl rfl HTH.out (by rw [HLN.out]; exact info78) H1.out ?_))
    refine bodyPost_ret (v := .agg (M.map (Value.int .i64)).toArray) (results_cell_row (p := 5) (ty := 78) rfl _ _ r 78 _ _ _ rfl HF.out Try.underlying78 rfl (by rw [HLN.out]; exact info78)) rfl ⟨rfl, ?_, ?_⟩
    · exact HT.out.kept ((grown_setCells r _ 0 _).block g HT.out.lt (by simp; omega))
    · exact grown_new GR.out (grown_setCells r _ 0 _) (by rw [HRR.out]; exact Nat.le_refl _)
end Go.Proofs.Ytjedmiegcbdedaa
namespace Go.Proofs.Ytjedmiegcbdedaa
open Go.RowKit Store11

set_option maxHeartbeats 2000000 in
set_option maxRecDepth 100000 in
theorem back1_any (g p q k : Nat) (a a2 : Option Addr) (n c c2 : Nat) (l N L : List Int) (w : World) (hg : TabAt w g 78 L) (hL : L.length = 9) (h : IsL w a n c l) (h' : IsL w a2 n c2 N) (hp : w.cell? ⟨p, 0, none⟩ = some (.slice a n c)) (hq : w.cell? ⟨q, 0, none⟩ = some (.slice a2 n c2))
    (hk : k < n) (hr : 0 ≤ l.getD k 0 ∧ l.getD k 0 < 9) (hb : 0 ≤ L.getD (l.getD k 0).toNat 0 ∧ L.getD (l.getD k 0).toNat 0 ≤ 100) (hpg : p ≠ g) (hqg : q ≠ g) (hs : Sep a (some ⟨g, 0, none⟩)) (hs2 : Sep a2 (some ⟨g, 0, none⟩)) :
    Calls Try.prog 84 #[.int .i64 k, .pointer (some ⟨g, 0, none⟩), .pointer (some ⟨p, 0, none⟩), .pointer (some ⟨q, 0, none⟩)] w fun e w' => e = .returned (.agg (L.map (Value.int .i64)).toArray) ∧ TabAt w' g 78 (nowS l N L k) ∧ w.grownBy w' (some g) := by
  obtain ⟨ρ, hρ⟩ : ∃ ρ : Nat, l.getD k 0 = ρ := ⟨(l.getD k 0).toNat, by omega⟩
  have hnow : nowS l N L k = if N.getD k 0 = 0 then (L.set ρ (L.getD ρ 0 + 1)).set ρ 0 else L.set ρ (L.getD ρ 0 + 1) := by
    unfold nowS; rw [hρ]; rfl
  rw [hρ] at hr hb
  have hglt := hg.lt
  obtain ⟨b1, o1, rfl, hb1, hc1⟩ := h.cells (by omega)
  obtain ⟨b2, o2, rfl, hb2, hc2⟩ := h'.cells (by omega)
  have hne1 : b1 ≠ g := hs _ _ rfl rfl
  have hne2 : b2 ≠ g := hs2 _ _ rfl rfl
  have y1 := hc1 k hk
  have y2 := hc2 k hk
  rw [hρ] at y1
  have hplt : p < w.heap.size := World.block_lt_of_cell? w _ hp
  have hqlt : q < w.heap.size := World.block_lt_of_cell? w _ hq
  obtain ⟨r, hrr⟩ : ∃ r : Nat, r = w.heap.size := ⟨_, rfl⟩
  obtain ⟨w0, hw0⟩ : ∃ w0 : World, w0 = w.alloc (.cells #[.int .i64 0, .int .i64 0, .int .i64 0, .int .i64 0, .int .i64 0, .int .i64 0, .int .i64 0, .int .i64 0, .int .i64 0] 78) := ⟨_, rfl⟩
  have hsz0 : w0.heap.size = r + 1 := by rw [hw0, hrr]; simp
  have hbw0 : Below r w w0 := by rw [hw0, hrr]; exact (Below.refl _ w).alloc (Nat.le_refl _) _
  have hgr0 : w.grownBy w0 (some g) := by rw [hw0]; exact grown_alloc (World.grownBy.refl w _) _
  have tg0 : TabAt w0 g 78 L := hg.kept (hbw0.block g (by omega))
  have t0 : TabAt w0 r 78 (List.replicate 9 0) := by rw [hw0, hrr]; exact heap_alloc_new w _
  obtain ⟨w5, hw5⟩ : ∃ w5 : World, w5 = w0.alloc (.cells #[.int .i64 0, .int .i64 0, .int .i64 0, .int .i64 0, .int .i64 0, .int .i64 0, .int .i64 0, .int .i64 0, .int .i64 0] 78) := ⟨_, rfl⟩
  have ts5 : TabAt w5 (r + 1) 78 (List.replicate 9 0) := by rw [hw5, ← hsz0]; exact heap_alloc_new w0 _
  have hbw5 : Below (r + 1) w0 w5 := by rw [hw5]; exact (Below.refl _ w0).alloc (by omega) _
  have hLs : ((L.map (Value.int .i64)).toArray).size = 9 := by simp [hL]
  obtain ⟨w1, hw1⟩ : ∃ w1 : World, w1 = w5.setCells (r + 1) 0 (L.map (Value.int .i64)).toArray.toList := ⟨_, rfl⟩
  have ts : TabAt w1 (r + 1) 78 L := by rw [hw1]; exact ts5.setAll L (by rw [hL]; rfl)
  have hb51 : Below (r + 1) w5 w1 := by rw [hw1]; exact (Below.refl _ w5).grown (grown_setCells (r + 1) _ 0 w5) (by have := ts5.lt; omega) (fun k hk => by cases hk; exact Nat.le_refl _)
  have hbw : Below r w w1 := (hbw0.trans (hbw5.mono (by omega))).trans (hb51.mono (by omega))
  have hgr : w.grownBy w1 (some g) := by
    refine ⟨hbw.os, hbw.tape, hbw.output, hbw.size, fun j hj _ => hbw.block j (by omega)⟩
  have t1 : TabAt w1 r 78 (List.replicate 9 0) := (t0.kept (hbw5.block r (by omega))).kept (hb51.block r (by omega))
  have tg : TabAt w1 g 78 L := hg.kept (hbw.block g (by omega))
  have THS : Hid (w5.there (r + 1) 0 ((L.map (Value.int .i64)).toArray).size) := Lib.hid (by rw [hLs]; simpa using ts5.there)
  have TG0 := Lib.hid tg0
  have TS := Lib.hid ts
  have H1L := Lib.hid (ints_one L)
  have HLS := Lib.hid hLs
  have HW5 := Lib.hid hw5
  have x1 : w1.cell? ⟨b1, o1 + k, none⟩ = some (.int .i64 (ρ : Int)) := (hbw.cell (p := ⟨b1, o1 + k, none⟩) (by rw [hrr]; exact hb1)).trans y1
  have x2 : w1.cell? ⟨b2, o2 + k, none⟩ = some (.int .i64 (N.getD k 0)) := (hbw.cell (p := ⟨b2, o2 + k, none⟩) (by rw [hrr]; exact hb2)).trans y2
  have x3 : w1.cell? ⟨p, 0, none⟩ = some (.slice (some ⟨b1, o1, none⟩) n c) := (hbw.cell (p := ⟨p, 0, none⟩) (by rw [hrr]; exact hplt)).trans hp
  have x4 : w1.cell? ⟨q, 0, none⟩ = some (.slice (some ⟨b2, o2, none⟩) n c2) := (hbw.cell (p := ⟨q, 0, none⟩) (by rw [hrr]; exact hqlt)).trans hq
  have hcap := h.cap
  have hle := h.le
  have hcap' := h'.cap
  have hle' := h'.le
  have q1 : (k : Int) < (n : Int) := by omega
  have q2 : (ρ : Int) < 9 := by omega
  obtain ⟨x5, f5⟩ := tg.cell ρ (by omega)
  have hrg : r ≠ g := by omega
  rw [show ((ρ : Int)).toNat = ρ by omega] at hb
  have HNOW := Lib.hid hnow
  have HW0 := Lib.hid hw0
  have HRR := Lib.hid hrr
  have HLL := Lib.hid hL
  have ts2 := ts.kept ((grown_setCell w1 g ρ (.int .i64 (L.getD ρ 0 + 1))).block (r + 1) ts.lt (by simp; omega))
  have ts3 := ts2.kept ((grown_setCell _ g ρ (.int .i64 0)).block (r + 1) ts2.lt (by simp; omega))
  generalize L.getD ρ 0 = v at *
  have tg2 := tg.set ρ (v + 1)
  have tg3 := tg2.set ρ 0
  have gr2 := grown_trans hgr (grown_setCell w1 g ρ (.int .i64 (v + 1)))
  have gr3 := grown_trans gr2 (grown_setCell _ g ρ (.int .i64 0))
  have t2 := t1.kept ((grown_setCell w1 g ρ (.int .i64 (v + 1))).block r t1.lt (by simp; omega))
  have t3 := t2.kept ((grown_setCell _ g ρ (.int .i64 0)).block r t2.lt (by simp; omega))
  generalize N.getD k 0 = z at *
  clear hρ hnow hL hc1 hc2 h h' y1 y2 hp hq hg hs hs2 hb1 hb2
  have hc6 : (w1.setCell ⟨g, ρ, none⟩ (.int .i64 (v + 1))).cell? ⟨g, ρ, none⟩ = some (.int .i64 (v + 1)) := World.cell?_setCell_same _ _ _ x5
  by_cases hz : z = 0
  · subst hz
    rw [if_pos rfl] at HNOW
    have HT : Hid (TabAt ((w1.setCell ⟨g, ρ, none⟩ (.int .i64 (v + 1))).setCell ⟨g, ρ, none⟩ (.int .i64 0)) g 78 (nowS l N L k)) := Lib.hid (by rw [HNOW.out]; exact tg3)
    have HLN : Hid (((nowS l N L k).map (Value.int .i64)).toArray.size = 9) := Lib.hid (by simp [nowS_len, HLL.out])
    have HF := Lib.hid (t3.setAll L (by rw [HLL.out]; rfl))
    have HTH : Hid (((w1.setCell ⟨g, ρ, none⟩ (.int .i64 (v + 1))).setCell ⟨g, ρ, none⟩ (.int .i64 0)).there r 0 ((L.map (Value.int .i64)).toArray).size) := Lib.hid (by rw [HLS.out]; simpa using t3.there)
    have H1 := Lib.hid (ints_one (nowS l N L k))
    have GR := Lib.hid gr3
    have T3 := Lib.hid t3
    have TSF := Lib.hid ts3
    generalize nowS l N L k = M at *
    clear tg tg0 tg2 tg3 t0 t1 t2 t3 gr2 gr3 hgr HNOW ts ts2 ts3 ts5 hb51 hbw5 hgr0 hLs hbw hbw0
    have hw1' : w1 = (w0.alloc (.cells #[.int .i64 0, .int .i64 0, .int .i64 0, .int .i64 0, .int .i64 0, .int .i64 0, .int .i64 0, .int .i64 0, .int .i64 0] 78)).setCells w0.heap.size 0 (L.map (Value.int .i64)) := by rw [hw1, HW5.out, hsz0]
    have TH0 : Hid ((w0.alloc (.cells #[.int .i64 0, .int .i64 0, .int .i64 0, .int .i64 0, .int .i64 0, .int .i64 0, .int .i64 0, .int .i64 0, .int .i64 0] 78)).there w0.heap.size 0 ((L.map (Value.int .i64)).toArray).size) := Lib.hid (by rw [← HW5.out, hsz0]; exact THS.out)
    have HZ0 := Lib.hid hsz0
    clear hsz0 hw1 hw5
    go_enter Try.func84, Try.ntmps84
    go_upto_region 1 with (fail)
    simp only [← hrr, ← hw0]; clear hrr hw0
    go_upto_region 2 with (first
      | (refine wpList_load_row rfl 78 _ rfl g rfl 78 _ _ _ TG0.out Try.underlying78 rfl (by rw [HLS.out]; exact info78) ?_)
      | (refine wpList_store_mid rfl 78 _ _ rfl w0.heap.size 0 _ rfl rfl TH0.out (by rw [HLS.out]; exact info78) H1L.out ?_))
    simp only [← hw1']; simp only [HZ0.out]; clear hw1'
    go_wp2_with (first
      | (refine wpList_load_row rfl 78 _ rfl (r + 1) rfl 78 _ _ _ TSF.out Try.underlying78 rfl (by rw [HLS.out]; exact info78) ?_)
      | (refine wpList_store_mid rfl 78 _ _ rfl r 0 _ rfl rfl HTH.out (by rw [HLS.out]; exact info78) H1L.out ?_))
    refine bodyPost_ret (v := .agg (L.map (Value.int .i64)).toArray) (results_cell_row (p := 5) (ty := 78) rfl _ _ r 78 _ _ _ rfl HF.out Try.underlying78 rfl (by rw [HLS.out]; exact info78)) rfl ⟨rfl, ?_, ?_⟩
    · exact HT.out.kept ((grown_setCells r _ 0 _).block g HT.out.lt (by simp; omega))
    · exact grown_new GR.out (grown_setCells r _ 0 _) (by rw [HRR.out]; exact Nat.le_refl _)
  · rw [if_neg hz] at HNOW
    have hz0 : (z == 0) = false := by simpa using hz
    clear hz
    have HT : Hid (TabAt (w1.setCell ⟨g, ρ, none⟩ (.int .i64 (v + 1))) g 78 (nowS l N L k)) := Lib.hid (by rw [HNOW.out]; exact tg2)
    have HLN : Hid (((nowS l N L k).map (Value.int .i64)).toArray.size = 9) := Lib.hid (by simp [nowS_len, HLL.out])
    have HF := Lib.hid (t2.setAll L (by rw [HLL.out]; rfl))
    have HTH : Hid ((w1.setCell ⟨g, ρ, none⟩ (.int .i64 (v + 1))).there r 0 ((L.map (Value.int .i64)).toArray).size) := Lib.hid (by rw [HLS.out]; simpa using t2.there)
    have H1 := Lib.hid (ints_one (nowS l N L k))
    have GR := Lib.hid gr2
    have T3 := Lib.hid t2
    have TSF := Lib.hid ts2
    generalize nowS l N L k = M at *
    clear tg tg0 tg2 tg3 t0 t1 t2 t3 gr2 gr3 hgr HNOW ts ts2 ts3 ts5 hb51 hbw5 hgr0 hLs hbw hbw0
    have hw1' : w1 = (w0.alloc (.cells #[.int .i64 0, .int .i64 0, .int .i64 0, .int .i64 0, .int .i64 0, .int .i64 0, .int .i64 0, .int .i64 0, .int .i64 0] 78)).setCells w0.heap.size 0 (L.map (Value.int .i64)) := by rw [hw1, HW5.out, hsz0]
    have TH0 : Hid ((w0.alloc (.cells #[.int .i64 0, .int .i64 0, .int .i64 0, .int .i64 0, .int .i64 0, .int .i64 0, .int .i64 0, .int .i64 0, .int .i64 0] 78)).there w0.heap.size 0 ((L.map (Value.int .i64)).toArray).size) := Lib.hid (by rw [← HW5.out, hsz0]; exact THS.out)
    have HZ0 := Lib.hid hsz0
    clear hsz0 hw1 hw5
    go_enter Try.func84, Try.ntmps84
    go_upto_region 1 with (fail)
    simp only [← hrr, ← hw0]; clear hrr hw0
    go_upto_region 2 with (first
      | (refine wpList_load_row rfl 78 _ rfl g rfl 78 _ _ _ TG0.out Try.underlying78 rfl (by rw [HLS.out]; exact info78) ?_)
      | (refine wpList_store_mid rfl 78 _ _ rfl w0.heap.size 0 _ rfl rfl TH0.out (by rw [HLS.out]; exact info78) H1L.out ?_))
    simp only [← hw1']; simp only [HZ0.out]; clear hw1'
    go_wp2_with (first
      | (refine wpList_load_row rfl 78 _ rfl (r + 1) rfl 78 _ _ _ TSF.out Try.underlying78 rfl (by rw [HLS.out]; exact info78) ?_)
      | (refine wpList_store_mid rfl 78 _ _ rfl r 0 _ rfl rfl HTH.out (by rw [HLS.out]; exact info78) H1L.out ?_))
    refine bodyPost_ret (v := .agg (L.map (Value.int .i64)).toArray) (results_cell_row (p := 5) (ty := 78) rfl _ _ r 78 _ _ _ rfl HF.out Try.underlying78 rfl (by rw [HLS.out]; exact info78)) rfl ⟨rfl, ?_, ?_⟩
    · exact HT.out.kept ((grown_setCells r _ 0 _).block g HT.out.lt (by simp; omega))
    · exact grown_new GR.out (grown_setCells r _ 0 _) (by rw [HRR.out]; exact Nat.le_refl _)
end Go.Proofs.Ytjedmiegcbdedaa
