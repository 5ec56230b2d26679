/- Walks of chapter 9: the bales of a set. -/
import Derived.Test.YtbhjphcomppjgaaDoorWa
import Derived.Test.YtbhjphcomppjgaaDoorPi
namespace Go.Proofs.YtbhjphcomppjgaaDoor
open Go.RowKit Beetle09

theorem Tab.below {w w' : World} {B : Nat} (h : Tab w) (hb : Below B w w') (hB : 0 < B) : Tab w' := fun j hj => by
  rw [hb.cell (p := ⟨0, j, none⟩) hB]; exact h j hj
theorem Tab.pos {w : World} (h : Tab w) : 0 < w.heap.size := World.block_lt_of_cell? w _ (h 0 (by decide))
theorem Tab.to {w w' : World} (h : Tab w) (hb : Below w.heap.size w w') : Tab w' := h.below hb h.pos
theorem els_lt {N s x : Nat} {pre r : List Nat} (h : els N s = pre ++ x :: r) : x < N ∧ s.testBit x = true := mem_els.1 (by rw [h]; simp)

set_option maxHeartbeats 2000000 in
theorem list_of (s : Nat) (w : World) (hT : Tab w) (hs : s < 2 ^ 25) : Calls Tryd.prog 60 #[.int .u32 (s : Int)] w fun e w' => ∃ a c, e = .returned (.slice a (pcN 25 s) c) ∧ OwnL w' 3 w.heap.size a (pcN 25 s) c (li (els 25 s)) ∧ Below w.heap.size w w' := by
  obtain ⟨L, hL⟩ : ∃ L, els 25 s = L := ⟨_, rfl⟩
  have hn := els_len 25 s
  rw [hL] at hn ⊢
  have HN := Lib.hid hn
  have HL := Lib.hid hL
  have HT := Lib.hid hT
  have HL25 : L.length ≤ 25 := by rw [hn]; exact pcN_le _ _
  have HS := Lib.hid hs
  clear hn hL hT hs
  go_enter Tryd.func60, Tryd.ntmps60
  go_wp2_with fail
  go_loopw [0, 3] (fun vs vo wr => ∃ (t n : Nat) (a : Option Addr) (c : Nat) (pre : List Nat), vs = .int .u32 (t : Int) ∧ vo = .slice a n c ∧ Hid (t < 2 ^ 25 ∧ L = pre ++ els 25 t) ∧ Hid (OwnL wr 3 w.heap.size a n c (li pre)) ∧ Below w.heap.size w wr) (fun vs _ _ => pcN 25 (intOf vs).toNat)
  case atStart => exact ⟨s, 0, none, 0, [], rfl, rfl, Lib.hid ⟨HS.out, HL.out.symm⟩, Lib.hid (OwnL.nilL _ _ _), Below.refl _ _⟩
  case round =>
    obtain ⟨t, n, a, c, pre, rfl, rfl, hP, hO, hb⟩ := hrel
    have hsz := hb.size
    by_cases h0 : t = 0
    · subst h0
      have e1 : (((0 : Nat) : Int) != 0) = false := by decide
      have F : Hid (pre = L) := Lib.hid (by rw [hP.out.2, els_zero, List.append_nil])
      obtain rfl : n = pcN 25 s := by have := hO.out.len; rw [li_len, F.out, HN.out] at this; exact this.symm
      go_wp2
      go_ret
      exact ⟨_, _, rfl, by rw [← F.out]; exact hO.out, hb⟩
    · have h0' : 0 < t := by omega
      have e1 : ((t : Int) != 0) = true := by simp; omega
      have ht25 := hP.out.1
      have hst := els_step (N := 25) h0' ht25 (by decide)
      have ht32 : t < 4294967296 := Nat.lt_of_lt_of_le ht25 (by decide)
      obtain ⟨_, _, hlow, _⟩ := low_spec h0' ht32
      obtain ⟨u, hu⟩ : ∃ u, t &&& (t - 1) = u := ⟨_, rfl⟩
      have f1 : bits .and .u32 (t : Int) (((t - 1 : Nat)) : Int) = (u : Int) := by rw [u32_and_nat t (t - 1) ht32 (by omega), hu]
      have f2 : IntKind.u32.wrap ((t : Int) - 1) = ((t - 1 : Nat) : Int) := by rw [wrap_u32']; omega
      rw [hu] at hst
      have hul : u < 2 ^ 25 := by rw [← hu]; exact Nat.lt_of_le_of_lt Nat.and_le_left ht25
      have HM : Hid (pcN 25 u < pcN 25 t) := Lib.hid (by rw [← els_len, ← els_len, hst, List.length_cons]; exact Nat.lt_succ_self _)
      have HC := Lib.hid (tz_any t wr (HT.out.to hb) h0' ht32)
      obtain ⟨k, hk⟩ : ∃ k, Lib.ctz 32 t = k := ⟨_, rfl⟩
      rw [hk] at hst HC
      have HP2 : Hid (u < 2 ^ 25 ∧ L = (pre ++ [k]) ++ els 25 u) := Lib.hid ⟨hul, by rw [hP.out.2, hst]; simp⟩
      have hnl : n ≤ 25 := by
        have h1 := hO.out.len
        have h2 := congrArg List.length hP.out.2
        rw [List.length_append] at h2
        rw [li_len] at h1
        omega
      generalize t - 1 = t1 at f1 f2
      clear hst hlow hu hul ht25 hk h0
      have hO1 := hO.out
      go_wp2_with (first
        | (go_at_call 55; refine HC.out.mono ?_; rintro e w9 ⟨rfl, rfl⟩)
        | (at_builtin; refine wl_app_own Tryd.underlying22 elem3 w.heap.size (.tmp 10) (.tmp 13) rfl rfl rfl rfl (hO1.alloc _) (isL_one _ _ _) (by simp; omega) (by omega) ?_))
      intro a2 c2 w3 ho3 hg3 hb3 _
      have hO3 : Hid (OwnL w3 3 w.heap.size a2 (n + 1) c2 (li (pre ++ [k]))) := Lib.hid (by rw [li_app]; exact ho3)
      have hb4 := (hb.alloc hsz (.cells #[.int .i64 (k : Int)] 3)).trans hb3
      clear ho3 hg3 hb3 hO1 hO
      go_wp2
      go_roundw
      case rel => first | exact ⟨u, n + 1, a2, c2, pre ++ [k], rfl, rfl, HP2, hO3, hb4⟩ | ((repeat apply Exists.intro); exact ⟨⟨u, n + 1, a2, c2, pre ++ [k], rfl, rfl, HP2, hO3, hb4⟩, rfl⟩)
      case measure => (simp [intOf]; exact HM.out)
end Go.Proofs.YtbhjphcomppjgaaDoor
