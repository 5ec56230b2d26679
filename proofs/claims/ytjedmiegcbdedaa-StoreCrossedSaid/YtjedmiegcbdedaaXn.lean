/- Walks of chapter 11: StoreCrossed's closure. -/
import Derived.Test.YtjedmiegcbdedaaXe
import Derived.Test.YtjedmiegcbdedaaXd
import Derived.Test.YtjedmiegcbdedaaLibA
import Derived.Test.YtjedmiegcbdedaaLib8
import Derived.Test.YtjedmiegcbdedaaPp
import Derived.Test.YtjedmiegcbdedaaWu
import Derived.BigQuiet
namespace Go.Proofs.Ytjedmiegcbdedaa
open Go.RowKit Go.ChangeMaps Store11
abbrev VX : Value → Value := fun v => v
theorem cellX {w : World} {g : Nat} {t : TypeId} {l : List Value} (h : ArrV VX w g t l) (i : Nat) {v : Value} (hv : l[i]? = some v) : w.cell? ⟨g, i, none⟩ = some v := by
  obtain ⟨hi, e⟩ := List.getElem?_eq_some_iff.1 hv
  have := h.cell i v hi
  rw [this]
  simp [List.getD, hv]
theorem ArrV.blockX {α : Type} {f : α → Value} {w w' : World} {g : Nat} {t : TypeId} {l : List α} (h : ArrV f w g t l) (hb : w'.heap[g]? = w.heap[g]?) : ArrV f w' g t l := hb.trans h
/-- the blocks of StoreCrossed: the counts (a map), their box, good, how many were seen -/
structure CrS (w0 : World) (g N sz i : Nat) (f : List Int → Option Int) (w : World) : Prop where
  s4 : g + 4 ≤ w.heap.size
  hm : MapF enc2 3 w g N sz f
  hx : ArrV VX w (g + 1) 45 [.map (some g)]
  hg : ArrV VX w (g + 2) 4 [.bool true]
  hi : ArrV VX w (g + 3) 3 [.int .i64 (i : Int)]
  bel : Below g w0 w
namespace CrS
variable {w0 w w' : World} {g N sz i : Nat} {f : List Int → Option Int}
theorem newB (h : CrS w0 g N sz i f w) (hb : Below (g + 4) w w') : CrS w0 g N sz i f w' := by
  have hs := h.s4
  have k : ∀ b, b < g + 4 → w'.heap[b]? = w.heap[b]? := fun b hbb => hb.block b hbb
  exact ⟨Nat.le_trans h.s4 hb.size, h.hm.block (k _ (by omega)), h.hx.blockX (k _ (by omega)), h.hg.blockX (k _ (by omega)), h.hi.blockX (k _ (by omega)), h.bel.trans (hb.mono (by omega))⟩
theorem new (h : CrS w0 g N sz i f w) (hb : Below w.heap.size w w') : CrS w0 g N sz i f w' := h.newB (hb.mono h.s4)
theorem putg (h : CrS w0 g N sz i f w) : CrS w0 g N sz i f (w.setCell ⟨g + 2, 0, none⟩ (.bool true)) :=
  ⟨by rw [setCell_size]; exact h.s4, h.hm.setCell (by show g ≠ g + 2; omega) _, h.hx.other (by show g + 2 ≠ g + 1; omega) _, h.hg.set 0 (.bool true), h.hi.other (by show g + 2 ≠ g + 3; omega) _, h.bel.setCell (p := ⟨g + 2, 0, none⟩) (by show g ≤ g + 2; omega) _⟩
theorem puti (h : CrS w0 g N sz i f w) (x : Nat) : CrS w0 g N sz x f (w.setCell ⟨g + 3, 0, none⟩ (.int .i64 (x : Int))) :=
  ⟨by rw [setCell_size]; exact h.s4, h.hm.setCell (by show g ≠ g + 3; omega) _, h.hx.other (by show g + 3 ≠ g + 1; omega) _, h.hg.other (by show g + 3 ≠ g + 2; omega) _, h.hi.set 0 (.int .i64 (x : Int)), h.bel.setCell (p := ⟨g + 3, 0, none⟩) (by show g ≤ g + 3; omega) _⟩
theorem putm {N' sz' : Nat} {f' : List Int → Option Int} (h : CrS w0 g N sz i f w) (hg : w.grownBy w' (some g)) (hM : MapF enc2 3 w' g N' sz' f') : CrS w0 g N' sz' i f' w' := by
  have hs := h.s4
  have k : ∀ b, b < g + 4 → b ≠ g → w'.heap[b]? = w.heap[b]? := fun b hb hne => hg.block b (by omega) (by simpa using hne)
  exact ⟨Nat.le_trans h.s4 hg.size, hM, h.hx.blockX (k _ (by omega) (by omega)), h.hg.blockX (k _ (by omega) (by omega)), h.hi.blockX (k _ (by omega) (by omega)), h.bel.grown hg (by omega) (fun q hq => by cases hq; omega)⟩
end CrS
def CrI (w0 : World) (g n i : Nat) (w : World) : Prop := ∃ sz, CrS w0 g i sz i (fX ((allL n).take i)) w
theorem above_grownX {w w' : World} {B b : Nat} (hg : w.grownBy w' (some b)) (hb : b < B) : Above B w w' := ⟨hg.size, fun k hk hk2 => hg.block k hk2 (by simp; omega)⟩
theorem take_atX {n i : Nat} {l : List Int} (h : (allL n)[i]? = some l) : (allL n).take (i + 1) = (allL n).take i ++ [l] := by
  rw [List.take_add_one, h]; rfl
theorem enc2_ok {c d : Int} (hc : 0 ≤ c ∧ c < 16) (hd : 0 ≤ d ∧ d < 16) : (enc2).ok [c, d] := by
  refine ⟨rfl, ?_⟩
  intro x hx
  simp only [List.mem_cons, List.not_mem_nil, or_false] at hx
  rcases hx with rfl | rfl <;> exact WalkArith.wf_i64 (by omega)
set_option maxHeartbeats 16000000 in
set_option maxRecDepth 100000 in
theorem crs1 (w0 : World) (g n : Nat) (hn1 : 1 ≤ n) (hn : n < 8) (i : Nat) (l : List Int) (w : World) (a : Option Addr) (m c : Nat) (hl : (allL n)[i]? = some l) (hI : CrI w0 g n i w) (h1 : IsL w a m c l) (hx : ∀ x, a = some x → g + 4 ≤ x.block) :
    Calls Try.prog 48 #[.slice a m c, .pointer (some ⟨g + 1, 0, none⟩), .pointer (some ⟨g + 3, 0, none⟩), .pointer (some ⟨g + 2, 0, none⟩)] w fun e w2 => e = .returned (.tuple #[]) ∧ CrI w0 g n (i + 1) w2 ∧ Above (g + 4) w w2 := by
  have htk := take_atX hl
  have hm : l ∈ allL n := by obtain ⟨hi, ei⟩ := List.getElem?_eq_some_iff.1 hl; rw [← ei]; exact List.getElem_mem _
  obtain ⟨k1, k2, k3, k4⟩ := cross_get hn hn1 hm
  obtain ⟨sz, hI⟩ := hI
  have hil : i < 1000 := by
    have h9 := (List.getElem?_eq_some_iff.1 hl).1
    have := (cross_flat n hn hn1).2.2
    omega
  obtain ⟨L, hL⟩ : ∃ L, (allL n).take i = L := ⟨_, rfl⟩
  rw [hL] at htk hI
  have hsn := fX_snoc L l
  obtain ⟨x, ex⟩ : ∃ x, (cnX l).1 = x := ⟨_, rfl⟩
  obtain ⟨y, ey⟩ : ∃ y, (cnX l).2 = y := ⟨_, rfl⟩
  have h9 := chkL_zero k1
  have hlm := h1.len
  have HWf : Hid (Wf l) := Lib.hid (wf_small fun z hz => by
    obtain ⟨j, hj, rfl⟩ := List.mem_iff_getElem.1 hz
    have := chkL_bound k1 j hj
    simp only [List.getD, List.getElem?_eq_getElem hj, Option.getD_some] at this
    omega)
  have HCX := Lib.hid (larcs_any a m c l w h1 (by omega))
  have HC0 := Lib.hid k1
  have HCN : Hid (cnL l = ((cnX l).1, (cnX l).2)) := Lib.hid k2
  rw [ex, ey] at HCN
  rw [ex] at hsn k3
  rw [ey] at hsn k4
  rw [ex, ey] at HCX
  have hv0 : 0 ≤ hisX L x y := Nat.zero_le _
  have hvl : hisX L x y ≤ i := Nat.le_trans List.countP_le_length (by rw [← hL, List.length_take]; omega)
  have hfv := fX_get L x y
  obtain ⟨v, hv⟩ : ∃ v, hisX L x y = v := ⟨_, rfl⟩
  rw [hv] at hfv hvl hsn
  have HOK := Lib.hid (enc2_ok k3 k4)
  have HF := Lib.hid hI
  have HH := Lib.hid h1
  have HX := Lib.hid hx
  clear hl hI h1 hx hv0 k1 k2 hv hL hm h9 hlm
  go_enter Try.func48, Try.ntmps48
  go_wp2_with fail
  refine HCX.out.mono ?_
  rintro e w1 ⟨rfl, b1⟩
  have hF1 := HF.out.new b1
  obtain ⟨o0, o1, o2, st, hb0, hB⟩ := hF1.hm.bumps (t := 45) Try.underlying45 Try.underlying3 (fun u => by rfl) (by unfold maxLen; omega) [x, y] HOK.out ((v : Int) + 1) (WalkArith.wf_i64 (by omega))
  have hlt : g < w1.heap.size := by have := hF1.s4; omega
  have q1 : w1.drew.heap[g]? = some o0 := hb0
  obtain ⟨V1, hV1⟩ : ∃ V, setBlock w1.drew g o1 = V := ⟨_, rfl⟩
  obtain ⟨V2, hV2⟩ : ∃ V, setBlock V1 g o2 = V := ⟨_, rfl⟩
  have ho0 : ∃ es clock, o0 = .map es clock := by
    obtain ⟨D, ⟨es, clock, hh, _⟩, _⟩ := hF1.hm
    rw [hb0] at hh
    exact ⟨es, clock, by simpa using hh⟩
  obtain ⟨es, clock, rfl⟩ := ho0
  have hl1 : (Instr.lookup 45 (.map (some g)) (.agg #[.int .i64 x, .int .i64 y]) false).run Try.prog w1.drew = .ok (.int .i64 (v : Int)) w1.drew := by
    have := hB.look0 _ q1; rw [hfv] at this; exact this
  have he1 : (Instr.mapEntry 45 (.map (some g)) (.agg #[.int .i64 x, .int .i64 y])).run Try.prog w1.drew = .ok (.tuple #[.int .i64 (v : Int), .int .i64 (st : Int)]) V1 := by
    have := hB.entry _ q1; rw [hfv, hV1] at this; exact this
  have q3 : V1.heap[g]? = some o1 := by rw [← hV1]; exact setBlock_at q1
  have hl2 : (Instr.lookup 45 (.map (some g)) (.agg #[.int .i64 x, .int .i64 y]) false).run Try.prog V1 = .ok (.int .i64 (v : Int)) V1 := by
    have := hB.look1 _ q3; rw [hfv] at this; exact this
  have hs2 : (Instr.entryStore 45 (.map (some g)) (.int .i64 (st : Int)) (.int .i64 ((v : Int) + 1))).run Try.prog V1 = .ok () V2 := by
    have := hB.store _ q3; rw [hV2] at this; exact this
  have e9 : IntKind.i64.wrap ((v : Int) + 1) = (v : Int) + 1 := IntWalk.i64_in _ (by omega)
  have hg1 : w1.drew.grownBy V1 (some g) := by
    rw [← hV1]
    exact ⟨rfl, rfl, rfl, by simp [setBlock], fun k hk hne => heap_setBlock_other q1 _ (by simpa [eq_comm] using hne)⟩
  have hh2 : V2.heap[g]? = some o2 ∧ ∀ k, k ≠ g → V2.heap[k]? = V1.heap[k]? := by
    have hlv : g < V1.heap.size := (Array.getElem?_eq_some_iff.1 q3).1
    rw [← hV2]
    refine ⟨?_, fun k hk => ?_⟩
    · show (V1.heap.setIfInBounds g o2)[g]? = _
      rw [Array.getElem?_setIfInBounds_self_of_lt hlv]
    · show (V1.heap.setIfInBounds g o2)[k]? = _
      rw [Array.getElem?_setIfInBounds_ne (Ne.symm hk)]
  have hg2 : V1.grownBy V2 (some g) := by
    refine ⟨?_, ?_, ?_, ?_, fun k hk hne => hh2.2 k (by simpa [eq_comm] using hne)⟩ <;> rw [← hV2]
    · rfl
    · rfl
    · rfl
    · simp [setBlock]
  have hg3 := (grown_trans hg1 hg2)
  have hF2 : CrS w0 g (i + 1) (if (fX L [x, y]).isSome then sz else sz + 1) i (fX (L ++ [l])) V2 := by
    have h9 := CrS.putm (hF1.newB (Below.refl _ _).drew) hg3 (hB.maps V2 hh2.1)
    rw [hsn]; exact h9
  have A2 := (Above.of_below (b1.trans (Below.refl _ _).drew) (B := g + 4)).trans (above_grownX hg3 (by omega : g < g + 4))
  have z1 := cellX hF1.hx 0 rfl
  have HF2 := Lib.hid hF2
  have HA2 := Lib.hid A2
  clear hB hF1 HF hF2 A2 hg1 hg2 hg3 hh2 q1 q3 hV1 hV2 hfv hsn b1 hb0 hlt
  go_upto_region 1 with (fail)
  go_region
  have ei : ((i + 1 : Nat) : Int) = (i : Int) + 1 := by omega
  have z2 := cellX HF2.out.hg 0 rfl
  have z3 := cellX HF2.out.hi 0 rfl
  clear hl1 he1 hl2 hs2 z1
  by_cases h3 : i % 3 = 0
  · have t1 : (i : Int) % 3 = 0 := by omega
    have h2 := HH.out.above HA2.out HX.out
    clear h3
    go_wp2_with fail
    refine (Arcs_c _ _ _ _ h2 HCN.out HC0.out HWf.out).mono ?_
    rintro e w3 ⟨rfl, b3⟩
    have hF3 := HF2.out.new b3
    clear z2 z3
    have z2 := cellX hF3.hg 0 rfl
    have y2 := hF3.hg.frozen 0
    have t2 : (x == x) = true := by simp
    have t3 : (y == y) = true := by simp
    have HF8 := Lib.hid hF3.putg
    have HA8 := Lib.hid (Above.setCell (HA2.out.trans (Above.of_below b3 (B := g + 4))) (p := ⟨g + 2, 0, none⟩) (by show g + 2 < g + 4; omega) (.bool true))
    clear hF3 b3 h2
    go_upto_region 5 with (fail)
    obtain ⟨w9, hw9⟩ : ∃ W, w3.setCell ⟨g + 2, 0, none⟩ (.bool true) = W := ⟨_, rfl⟩
    try simp only [hw9]
    rw [hw9] at HF8 HA8
    clear hw9 z2 y2
    have hF9 := HF8.out
    have A9 := HA8.out
    have z3 := cellX hF9.hi 0 rfl
    have z4 := hF9.hi.frozen 0
    have hF10 := hF9.puti (i + 1)
    have A10 := Above.setCell A9 (p := ⟨g + 3, 0, none⟩) (by show g + 3 < g + 4; omega) (.int .i64 ((i + 1 : Nat) : Int))
    rw [ei] at hF10 A10
    have HF10 : Hid (CrI w0 g n (i + 1) _) := Lib.hid ⟨_, by rw [htk]; exact hF10⟩
    have HA10 := Lib.hid A10
    clear hF9 A9 hF10 A10
    go_wp2_with fail
    go_end0
    exact ⟨rfl, HF10.out, HA10.out⟩
  · obtain ⟨r, hr, hr1⟩ : ∃ r : Nat, (i : Int) % 3 = (r : Int) ∧ 0 < r := ⟨i % 3, by omega, by omega⟩
    have t1 : ((r : Int) == 0) = false := by simp; omega
    have hF9 := HF2.out
    have A9 := HA2.out
    clear h3 z3
    have z3 := cellX hF9.hi 0 rfl
    have z4 := hF9.hi.frozen 0
    have hF10 := hF9.puti (i + 1)
    have A10 := Above.setCell A9 (p := ⟨g + 3, 0, none⟩) (by show g + 3 < g + 4; omega) (.int .i64 ((i + 1 : Nat) : Int))
    rw [ei] at hF10 A10
    have HF10 : Hid (CrI w0 g n (i + 1) _) := Lib.hid ⟨_, by rw [htk]; exact hF10⟩
    have HA10 := Lib.hid A10
    clear hF9 A9 hF10 A10
    go_wp2_with fail
    go_end0
    exact ⟨rfl, HF10.out, HA10.out⟩
end Go.Proofs.Ytjedmiegcbdedaa
