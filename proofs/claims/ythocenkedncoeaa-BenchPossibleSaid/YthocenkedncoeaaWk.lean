/- Walks of chapter 06: slices.Delete of one element, of a row of the call's own. -/
import Derived.Test.YthocenkedncoeaaWa
import Derived.Test.YthocenkedncoeaaLib
import Derived.Deep.RegionLaw
import Derived.Shelf.RegionOpenPlain
import Derived.Lib.SliceRun
namespace Go.Proofs.Ythocenkedncoeaa
open Go.RowKit Bench06

theorem erase_take_drop (l : List Int) (k : Nat) : l.eraseIdx k = l.take k ++ l.drop (k + 1) := List.eraseIdx_eq_take_drop_succ l k

set_option maxHeartbeats 4000000 in
set_option maxRecDepth 1000000 in
theorem delete_j (g n c B k j : Nat) (l : List Int) (w : World) (h : OwnL w 3 B (some ⟨g, 0, none⟩) n c l) (hk : k < n) (hj : j = k + 1) :
    Calls Try.prog 42 #[.slice (some ⟨g, 0, none⟩) n c, .int .i64 k, .int .i64 j] w fun e w' => e = .returned (.slice (some ⟨g, 0, none⟩) (n - 1) c) ∧ OwnL w' 3 B (some ⟨g, 0, none⟩) (n - 1) c (l.eraseIdx k) ∧ w.grownBy w' (some g) := by
  obtain ⟨i0, hi0, hz0, hz1, hz2⟩ := info_parts elem3
  obtain ⟨cur, hg, hh, hnc, hcm, hcs, hl, hx, hs, hf⟩ := h.parts
  have hm : c ≤ 9223372036854775807 := by simpa [maxLen] using hcm
  obtain ⟨news, hnews⟩ : ∃ news, news = (l.drop j).map (Value.int IntKind.i64) := ⟨_, rfl⟩
  have hlen : news.length = n - j := by rw [hnews]; simp [hl]
  have hget : ∀ t, t < n - j → news[t]? = some (.int .i64 (l.getD (j + t) 0)) := by
    intro t ht
    have : j + t < l.length := by omega
    rw [hnews, List.getElem?_map, List.getElem?_drop]
    simp [List.getD, this]
  obtain ⟨A, hA, hsrc⟩ : ∃ A : Addr, (if c = j then some (⟨g, 0, none⟩ : Addr) else some ⟨g, j, none⟩) = some A ∧ Hid (∀ t u, news[t]? = some u → w.drew.cell? (A.add t) = some u) := by
    by_cases hq : c = j
    · refine ⟨⟨g, 0, none⟩, by simp [hq], fun t u hu => ?_⟩
      have h0 : news.length = 0 := by rw [hlen]; omega
      rw [List.length_eq_zero_iff.1 h0] at hu
      simp at hu
    · refine ⟨⟨g, j, none⟩, by simp [hq], fun t u hu => ?_⟩
      have ht : t < n - j := by
        have := (List.getElem?_eq_some_iff.1 hu).1
        rwa [hlen] at this
      rw [hget t ht] at hu
      rw [add_lit0]
      exact (hx _ (by omega)).trans hu
  have s1 : Hid (news.length = (n - j) * 1) := by rw [Nat.mul_one]; exact hlen
  have s2 : Hid (∀ u ∈ news, u.oneCell' = true) := by
    intro u hu
    rw [hnews] at hu
    obtain ⟨x, _, rfl⟩ := List.mem_map.1 hu
    rfl
  have s3 : Hid (∀ t, t < news.length → (w.drew.cell? ⟨g, 0 + k * 1 + t, none⟩).isSome = true ∧ w.drew.frozen? ⟨g, 0 + k * 1 + t, none⟩ = false) := by
    intro t ht
    rw [hlen] at ht
    exact ⟨hs _ (by omega), hf _⟩
  obtain ⟨W1, hW1⟩ : ∃ W1, W1 = w.drew.setCells g (0 + k * 1) news := ⟨_, rfl⟩
  -- what W1 holds
  have hg1 : w.grownBy W1 (some g) := by rw [hW1]; exact grown_trans (grown_drew w _) (grown_setCells g news _ _)
  obtain ⟨cur1, hh1, hcs1⟩ : ∃ cur1, W1.heap[g]? = some (.cells cur1 3 (0, 0)) ∧ cur1.size = c := by
    rw [hW1]
    obtain ⟨c1, q1, q2⟩ := setCells_own news (0 + k * 1) w.drew cur hh
    exact ⟨c1, q1, by omega⟩
  have hx1 : ∀ i, i < n - 1 → W1.cell? ⟨g, i, none⟩ = some (.int .i64 ((l.eraseIdx k).getD i 0)) := by
    intro i hi
    rw [hW1]
    by_cases hik : i < k
    · rw [World.cell?_setCells_out g _ _ _ _ (fun _ _ => .inl (by show i < 0 + k * 1; omega))]
      refine (hx i (by omega)).trans ?_
      simp [List.getD, List.getElem?_eraseIdx, hik]
    · have := World.cell?_setCells_in g news (0 + k * 1) w.drew (fun j hj => (s3.out j hj).1) (i - k) (by omega)
      rw [show 0 + k * 1 + (i - k) = i by omega] at this
      rw [this]
      have h2 := hget (i - k) (by omega)
      rw [List.getElem?_eq_getElem (by omega)] at h2
      rw [h2, show j + (i - k) = i + 1 by omega]
      simp [List.getD, List.getElem?_eraseIdx, hik]
  have hs1 : ∀ i, i < c → (W1.cell? ⟨g, i, none⟩).isSome = true := by
    intro i hi
    rw [World.cell?]; simp only [hh1]; simp; omega
  have hf1 : ∀ i, W1.frozen? ⟨g, i, none⟩ = false := by intro i; simp [World.frozen?, hh1]
  have hel : (l.eraseIdx k).length = n - 1 := by rw [List.length_eraseIdx_of_lt (by omega), hl]
  have hm1 : k + (n - j) = n - 1 := by omega
  have hcl : ∀ ty, (Builtin.clear_ #[22] ty #[.slice (some ⟨g, k + (n - j), none⟩) (n - (k + (n - j))) (c - (k + (n - j)))]).run Try.prog W1 = .ok (.tuple #[]) (W1.setCells g (k + (n - j)) (List.replicate (n - (k + (n - j))) (.int .i64 0))) :=
    fun ty => Lib.run_clear_slice W1 _ _ ty _ Try.underlying22 (fun w => by simp [go_sem]) rfl rfl g (k + (n - j)) _ _ (by omega) (fun t ht => hs1 _ (by omega)) (fun t ht => hf1 _)
  have fin : OwnL (W1.setCells g (k + (n - j)) (List.replicate (n - (k + (n - j))) (.int .i64 0))) 3 B (some ⟨g, 0, none⟩) (n - 1) c (l.eraseIdx k) ∧ w.grownBy (W1.setCells g (k + (n - j)) (List.replicate (n - (k + (n - j))) (.int .i64 0))) (some g) := by
    refine ⟨?_, grown_trans hg1 (grown_setCells _ _ _ _)⟩
    obtain ⟨c2, q1, q2⟩ := setCells_own (List.replicate (n - (k + (n - j))) (.int .i64 0)) (k + (n - j)) W1 cur1 hh1
    refine own_of_cells hg q1 (by omega) hcm (by omega) hel fun i hi => ?_
    rw [World.cell?_setCells_out g _ _ _ _ (fun _ _ => .inl (by show i < k + (n - j); omega))]
    exact hx1 i hi
  have HM := Lib.hid hm1
  clear hm1
  have HF := Lib.hid fin
  have hW : Hid (W1 = w.drew.setCells g (0 + k * 1) news) := hW1
  have hkc : k ≤ c := by omega
  have hk1c : j ≤ c := by omega
  have hkj : k < j := by omega
  have mixed : Try.prog.follows Departure.mixedOrders = true := by kernel_rfl
  have hjn : j ≤ n := by omega
  have HJ := Lib.hid hj
  clear hW1 hh1 hx1 hs1 hf1 hg1 hget hnews hlen fin hel hx hs hf hh h hcs hcs1 hj cur cur1
  go_enter Try.func42, Try.ntmps42
  go_wp2_with fail
  go_region_law_o (refine step_append_room rfl (.tmp 22) (.tmp 25) 22 rfl 3 i0 1 Try.underlying22 hi0 hz1 g 0 k c (by simp [Act.eval, Act.put]) A (n - j) (c - j) news (by simp [Act.eval, Act.put]) s1.out hsrc.out s2.out (by omega) s3.out ?_; rw [← hW.out])
  go_wp2
  go_ret
  exact ⟨by rw [HM.out]; rfl, HF.out⟩

theorem delete_one (g n c B k : Nat) (l : List Int) (w : World) (h : OwnL w 3 B (some ⟨g, 0, none⟩) n c l) (hk : k < n) :
    Calls Try.prog 42 #[.slice (some ⟨g, 0, none⟩) n c, .int .i64 k, .int .i64 ((k : Int) + 1)] w fun e w' => e = .returned (.slice (some ⟨g, 0, none⟩) (n - 1) c) ∧ OwnL w' 3 B (some ⟨g, 0, none⟩) (n - 1) c (l.eraseIdx k) ∧ w.grownBy w' (some g) :=
  delete_j g n c B k (k + 1) l w h hk rfl
end Go.Proofs.Ythocenkedncoeaa
