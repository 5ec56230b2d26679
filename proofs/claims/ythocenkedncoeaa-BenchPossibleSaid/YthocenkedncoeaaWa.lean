/- Walks of chapter 06, first part: the bench's own list. -/
import Derived.Test.YthocenkedncoeaaRows
import Derived.Test.YthocenkedncoeaaLib
import Derived.Test.YthocenkedncoeaaSpec
namespace Go.Proofs.Ythocenkedncoeaa
open Go.RowKit Bench06

theorem elem3 : (Try.prog.info? 3).map (fun i => (i.zero, i.size, i.bytes)) = some (some (.int .i64 0), 1, 8) := by kernel_rfl

set_option maxHeartbeats 400000 in
theorem full_any (r : Int) (w : World) (h0 : 0 ≤ r) (h1 : r ≤ 20) :
    Calls Try.prog 63 #[.int .i64 r] w fun e w' => ∃ a c, e = .returned (.slice a r.toNat c) ∧ OwnL w' 3 w.heap.size a r.toNat c (rng r.toNat) ∧ Below w.heap.size w w' := by
  go_enter Try.func63, Try.ntmps63
  go_wp2
  go_loopw [3, 6] (fun v i wr => ∃ (k : Nat) (a : Option Addr) (c : Nat), (k : Int) ≤ r ∧ i = .int .i64 k ∧ v = .slice a k c ∧ OwnL wr 3 w.heap.size a k c (rng k) ∧ Below w.heap.size w wr) (fun _ i _ => (r - intOf i).toNat)
  case atStart => exact ⟨0, none, 0, by omega, rfl, rfl, OwnL.nilL _ _ _, Below.refl _ _⟩
  case round =>
    obtain ⟨k, a, c, hk, rfl, rfl, hown, hb⟩ := hrel
    have hsz := hb.size
    by_cases hlt : (k : Int) < r
    · go_wp2_with (at_builtin; refine wl_app_own Try.underlying65 elem3 w.heap.size (.tmp 9) (.tmp 11) rfl rfl rfl rfl (hown.alloc _) (isL_one _ _ _) (by simp; omega) (by omega) ?_)
      intro a2 c2 w1 hown1 hg1 hb1 _
      have hb2 := (hb.alloc hsz (.cells #[.int .i64 k] 3)).trans hb1
      clear hg1 hb1 hown
      rw [← rng_succ] at hown1
      go_wp2
      go_roundw
      case rel => exact ⟨k + 1, a2, c2, by omega, by go_num, rfl, hown1, hb2⟩
      case measure => simp [intOf]; omega
    · go_wp2
      go_ret
      obtain rfl : k = r.toNat := by omega
      exact ⟨a, c, rfl, hown, hb⟩

set_option maxHeartbeats 400000 in
theorem gone_any (a : Option Addr) (n c : Nat) (l : List Int) (k : Int) (w : World) (hl : IsL w a n c l) (h0 : 0 ≤ k) (h1 : k < n) (hn : n ≤ 20) :
    Calls Try.prog 64 #[.slice a n c, .int .i64 k] w fun e w' => ∃ a' c', e = .returned (.slice a' (n - 1) c') ∧ IsL w' a' (n - 1) c' (rotL l k.toNat) ∧ Below w.heap.size w w' ∧ Via w a a' := by
  have hc := hl.le
  obtain ⟨k, rfl⟩ := Int.eq_ofNat_of_zero_le h0
  have e1 : ((k : Int) + 1).toNat = k + 1 := by omega
  have s1 : (0 : Int) ≤ (k : Int) + 1 := by omega
  have s2 : (k : Int) + 1 ≤ (n : Int) := by omega
  have s3 : (n : Int) ≤ (c : Int) := by omega
  have s4 : (k : Int) ≤ (c : Int) := by omega
  go_enter Try.func64, Try.ntmps64
  go_wp2
  have hw1 : IntKind.i64.wrap ((k : Int) + 1) = (k : Int) + 1 := IntWalk.i64_in _ (by omega)
  go_still_tail 12, (by kernel_rfl)
  clear hw1
  have c1 := hl.drew.cut (k + 1) n n (by omega) (by omega) (by omega) (by omega)
  have c2 := hl.drew.pre k k (by omega) (by omega) (by omega)
  have hbd : Below w.heap.size w w.drew := (Below.refl _ _).drew
  have hlen := hl.len
  change wpList _ _ _ _ _ w.drew
  generalize w.drew = w2 at *
  refine wl_app_full Try.underlying65 elem3 (.tmp 12) (.tmp 16) rfl rfl rfl rfl c1 c2 (by omega) ?_
  intro a2 c3 w3 h3 hb3 hv3
  have hn1 : n - (k + 1) + k = n - 1 := by omega
  rw [hn1] at h3 ⊢
  have hb4 := hbd.trans (hb3.mono hbd.size)
  have hv4 : Via w a a2 := by
    intro x hx
    rcases hv3 x hx with ⟨y, hy, hyx⟩ | h
    · left
      by_cases hq : n = k + 1
      · rw [if_pos hq] at hy; exact ⟨y, hy, hyx⟩
      · rw [if_neg hq] at hy
        obtain ⟨z, hz, rfl⟩ := Option.map_eq_some_iff.1 hy
        exact ⟨z, hz, hyx⟩
    · exact .inr (Nat.le_trans hbd.size h)
  have h5 : IsL w3 a2 (n - 1) c3 (rotL l k) := by rw [← hlen, List.take_length] at h3; rw [← hlen]; exact h3
  clear c1 c2 s1 s2 s3 s4 e1 hn1 hlen h3 hv3
  generalize (if n = k + 1 then a else Option.map (fun x => { block := x.block, off := x.off + (k + 1) }) a) = q
  go_wp2
  go_ret
  exact ⟨a2, c3, rfl, h5, hb4, hv4⟩
end Go.Proofs.Ythocenkedncoeaa
