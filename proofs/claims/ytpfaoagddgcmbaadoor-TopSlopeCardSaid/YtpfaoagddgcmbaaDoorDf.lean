/- Walks of chapter 1 at the top seat: all carts come. -/
import Derived.Test.YtpfaoagddgcmbaaDoorDe
import Derived.Test.YtpfaoagddgcmbaaDoorLib7
namespace Go.Proofs.YtpfaoagddgcmbaaDoor
open Go.RowKit Dock01
set_option maxRecDepth 100000
theorem OwnG.but {α : Type} {f : α → Value} {X : Nat → Prop} {w w' : World} {e B : Nat} {a : Option Addr} {n c : Nat} {l : List α} (h : OwnG f w e B a n c l) (hb : But X w w') (hX : ∀ k, B ≤ k → ¬ X k) : OwnG f w' e B a n c l := by
  obtain ⟨h1, h2⟩ := h
  refine ⟨h1, ?_⟩
  rcases h2 with h2 | ⟨g, cap, cur, hv, hg, hh, r⟩
  · exact .inl h2
  · exact .inr ⟨g, cap, cur, hv, hg, by rw [hb.block g (Array.getElem?_eq_some_iff.1 hh).1 (hX g hg)]; exact hh, r⟩
theorem OwnG.weakenG {α : Type} {f : α → Value} {w : World} {e B B' : Nat} {a : Option Addr} {n c : Nat} {l : List α} (h : OwnG f w e B a n c l) (hB : B' ≤ B) : OwnG f w e B' a n c l := by
  obtain ⟨h1, h2⟩ := h
  refine ⟨h1, ?_⟩
  rcases h2 with h2 | ⟨g, cap, cur, hv, hg, r⟩
  · exact .inl h2
  · exact .inr ⟨g, cap, cur, hv, Nat.le_trans hB hg, r⟩
theorem fateV_one (x : Option (Nat × Nat)) : (fateV x).oneCell' = true := by cases x <;> rfl
theorem fateV_if (x : Option (Nat × Nat)) : ∃ T V, fateV x = .iface T V := by cases x <;> exact ⟨_, _, rfl⟩
theorem infoF : (Tryd.prog.info? 94).map (fun i => (i.zero, i.size, i.bytes)) = some (some .nilIface, 1, 16) := by kernel_rfl
theorem rowK_lt {bays : Nat} {l : List Int} (hb : bays ≤ 8) (hl : InL l ((bays : Int) - 1)) : ∀ k, k ≤ l.length → rowK bays l k < 256
  | 0, _ => by rw [rowK]; decide
  | k + 1, hk => by
    obtain ⟨h1, h2⟩ := hl k (by omega)
    have e : l.getD k 0 = ((l.getD k 0).toNat : Int) := by omega
    rw [rowK, e]
    exact takeT_lt hb (rowK_lt hb hl k (by omega)) (by omega)
set_option maxHeartbeats 4000000 in
theorem comes_any (a : Option Addr) (n c bays : Nat) (l : List Int) (w : World) (hT : Tab w) (h : IsL w a n c l) (hb1 : 1 ≤ bays) (hb8 : bays ≤ 8) (hn : n ≤ bays) (hl : InL l ((bays : Int) - 1)) :
    Calls Tryd.prog 61 #[.int .i64 (bays : Int), .slice a n c] w fun e w' => ∃ a' c', e = .returned (.tuple #[.slice a' n c', .int .i64 0]) ∧ OwnG fateV w' 94 w.heap.size a' n c' (fatesL bays l) ∧ Below w.heap.size w w' := by
  have HH := Lib.hid h
  have hle := h.le
  have hcap := h.cap
  have HL : Hid (l.length = n) := Lib.hid h.len
  have HI := Lib.hid hl
  have HT := Lib.hid hT
  have HC := Lib.hid (CheckD_ok a n c bays l w h (by omega) (by omega) (by omega) hl)
  clear h hl hT
  go_enter Tryd.func61, Tryd.ntmps61
  go_wp2_with fail
  refine HC.out.mono ?_
  rintro e w1 ⟨rfl, b1⟩
  have hs1 := b1.size
  go_wp2_with fail
  obtain ⟨g, hg⟩ : ∃ g, w1.heap.size = g := ⟨_, rfl⟩
  rw [hg]
  have hgs : w.heap.size ≤ g := by omega
  have hR0 : RowV (w1.alloc (.cells #[.int .i64 (bays : Int), .int .u64 0] 101)) g bays 0 := ArrV.new _ _ _ _ _ hg.symm rfl
  have hb0 : Below w.heap.size w (w1.alloc (.cells #[.int .i64 (bays : Int), .int .u64 0] 101)) := b1.alloc hs1 _
  have hz0 : g < (w1.alloc (.cells #[.int .i64 (bays : Int), .int .u64 0] 101)).heap.size := by simp; omega
  clear hg hs1
  generalize (w1.alloc (.cells #[.int .i64 (bays : Int), .int .u64 0] 101)) = w2 at *
  go_loopw [21, 8] (fun vi vo wr => ∃ (i : Nat) (a1 : Option Addr) (c1 : Nat), i ≤ n ∧ vi = .int .i64 (i : Int) ∧ vo = .slice a1 i c1 ∧ Hid (OwnG fateV wr 94 (g + 1) a1 i c1 (fateK bays l i)) ∧ Hid (RowV wr g bays (rowK bays l i)) ∧ Below w.heap.size w wr ∧ g < wr.heap.size) (fun vi _ _ => n - (intOf vi).toNat)
  case atStart => exact ⟨0, none, 0, by omega, rfl, rfl, Lib.hid (OwnG.nilG _ _ _), Lib.hid hR0, hb0, hz0⟩
  case round =>
    clear hR0 hb0 hz0
    obtain ⟨i, a1, c1, hi, rfl, rfl, hO, hR, hb, hz⟩ := hrel
    have w1 : IntKind.i64.wrap ((i : Int) + 1) = (i : Int) + 1 := IntWalk.i64_in _ (by omega)
    by_cases hlt : i < n
    · have q1 : (i : Int) < (n : Int) := by omega
      have hk := HH.out.below hb
      obtain ⟨b', o', rfl, hbl, hcell⟩ := hk.cells (by omega)
      have c1 := hcell i hlt
      obtain ⟨h1, h2⟩ := HI.out i (by rw [HL.out]; exact hlt)
      obtain ⟨x, hx⟩ : ∃ x : Nat, l.getD i 0 = (x : Int) := ⟨(l.getD i 0).toNat, by omega⟩
      rw [hx] at c1 h2
      have HX := Lib.hid hx
      have HC2 := Lib.hid (come_any g bays (rowK bays l i) x wr (HT.out.below hb) hR.out hb8 (rowK_lt hb8 HI.out i (by rw [HL.out]; omega)) (by omega))
      clear hk hcell h1 h2 hx
      go_wp2_with fail
      refine HC2.out.mono ?_
      rintro e w3 ⟨he, B3, R3⟩
      obtain ⟨T, V, hV⟩ := fateV_if (fateT bays (rowK bays l i) (x : Int))
      rw [hV] at he
      subst he
      have hO3 := hO.out.but B3 (fun k hk hX => by omega)
      have hb3 : Below w.heap.size w w3 := hb.trans (B3.below hb.size (fun k hk => by omega))
      have hz3 : g < w3.heap.size := Nat.lt_of_lt_of_le hz B3.size
      have hsz3 := hb3.size
      go_wp2_with (at_builtin; refine wl_app_gen Tryd.underlying89 infoF rfl (by omega) fateV_one (g + 1) (.tmp 25) (.tmp 28) rfl rfl rfl rfl (hO3.alloc _) (fateT bays (rowK bays l i) (x : Int)) (by simp [go_sem]; exact hV.symm) (by simp; omega) (by omega) ?_)
      intro a4 c4 w4 o4 g4 b4 v4
      have hR4 : RowV w4 g bays (rowK bays l (i + 1)) := by
        rw [rowK, HX.out]
        exact (b4.block g (by omega)).trans (R3.alloc _)
      have hO4 : OwnG fateV w4 94 (g + 1) a4 (i + 1) c4 (fateK bays l (i + 1)) := by
        rw [fateK, HX.out]; exact o4
      have hb4 : Below w.heap.size w w4 := (hb3.alloc hsz3 _).trans (b4.mono (by omega))
      have hz4 : g < w4.heap.size := Nat.lt_of_lt_of_le (by simp; omega) b4.size
      clear o4 g4 b4 v4 hR hO R3 hO3
      go_wp2_with fail
      exact ⟨⟨i + 1, a4, c4, by omega, by go_num, rfl, Lib.hid hO4, Lib.hid hR4, hb4, hz4⟩, by simp [intOf]; omega⟩
    · obtain rfl : i = n := by omega
      go_wp2
      go_ret2
      exact ⟨a1, c1, rfl, by rw [fatesL, HL.out]; exact hO.out.weakenG (by omega), hb⟩
end Go.Proofs.YtpfaoagddgcmbaaDoor
