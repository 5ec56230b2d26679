/- Walks of chapter 9: one number is taken out of a list. -/
import Derived.Test.YtbhjphcomppjgaaDoorWj
import Derived.Lib.SliceRun
import Derived.Laws.IdiomCopy
import Derived.Deep.RegionLaw
import Derived.Shelf.RegionOpenPlain
namespace Go.Proofs.YtbhjphcomppjgaaDoor
open Go.RowKit Beetle09
theorem zero3 : ∀ w, (zeroValue 3).run Tryd.prog w = .ok (.int .i64 0) w := by intro w; kernel_rfl
set_option maxHeartbeats 4000000 in
set_option maxRecDepth 1000000 in
theorem Delete_any (B g n c i j : Nat) (l : List Int) (w : World) (h : OwnL w 3 B (some ⟨g, 0, none⟩) n c l) (hi : i < n) (hj : j = i + 1) :
    Calls Tryd.prog 45 #[.slice (some ⟨g, 0, none⟩) n c, .int .i64 (i : Int), .int .i64 (j : Int)] w fun e w' => e = .returned (.slice (some ⟨g, 0, none⟩) (n - 1) c) ∧ IsL w' (some ⟨g, 0, none⟩) (n - 1) c (l.eraseIdx i) ∧ w.grownBy w' (some g) := by
  obtain ⟨cur, hBg, hh, hnc, hcm, hcs, hl, hx, hs, hf⟩ := h.parts
  have hm : c ≤ 9223372036854775807 := by simpa [maxLen] using hcm
  obtain ⟨i0, hi0, hz0, hz1, hz2⟩ := info_parts elem3
  have mixed : Tryd.prog.follows Departure.mixedOrders = true := by kernel_rfl
  obtain ⟨news, hnews⟩ : ∃ news, news = (l.drop j).map (Value.int .i64) := ⟨_, rfl⟩
  have hlen : news.length = n - j := by rw [hnews]; simp [hl]
  have hget : ∀ t, t < n - j → news[t]? = some (.int .i64 (l.getD (j + t) 0)) := by
    intro t ht
    rw [hnews, List.getElem?_map, List.getElem?_drop, List.getElem?_eq_getElem (by omega)]
    simp [List.getD, show j + t < l.length by omega]
  obtain ⟨A, hA, hsrc⟩ : ∃ A : Addr, (if c = j then some (⟨g, 0, none⟩ : Addr) else some ⟨g, j, none⟩) = some A ∧ Hid (∀ t u, news[t]? = some u → w.drew.cell? (A.add t) = some u) := by
    by_cases h : c = j
    · refine ⟨⟨g, 0, none⟩, by simp [h], Lib.hid fun t u hu => ?_⟩
      have h0 : news.length = 0 := by rw [hlen]; omega
      rw [List.length_eq_zero_iff.1 h0] at hu
      simp at hu
    · refine ⟨⟨g, j, none⟩, by simp [h], Lib.hid fun t u hu => ?_⟩
      have ht : t < n - j := by
        have := (List.getElem?_eq_some_iff.1 hu).1
        rwa [hlen] at this
      rw [hget t ht] at hu
      rw [add_lit0]
      exact (hx (j + t) (by omega)).trans hu
  have s1 : Hid (news.length = (n - j) * 1) := Lib.hid (by rw [Nat.mul_one]; exact hlen)
  have s2 : Hid (∀ u ∈ news, u.oneCell' = true) := Lib.hid (by
    intro u hu
    rw [hnews] at hu
    obtain ⟨x, _, rfl⟩ := List.mem_map.1 hu
    rfl)
  have s3 : Hid (∀ t, t < news.length → (w.drew.cell? ⟨g, 0 + i * 1 + t, none⟩).isSome = true ∧ w.drew.frozen? ⟨g, 0 + i * 1 + t, none⟩ = false) := Lib.hid (by
    intro t ht
    rw [hlen] at ht
    exact ⟨hs _ (by omega), hf _⟩)
  obtain ⟨W1, hW1⟩ : ∃ W1, W1 = w.drew.setCells g (0 + i * 1) news := ⟨_, rfl⟩
  have hin : ∀ t, t < n - j → W1.cell? ⟨g, i + t, none⟩ = some (.int .i64 (l.getD (j + t) 0)) := fun t ht => by
    have h1 := World.cell?_setCells_in g news (0 + i * 1) w.drew (fun k hk => by rw [hlen] at hk; exact hs _ (by omega)) t (by rw [hlen]; exact ht)
    rw [← hW1] at h1
    rw [show i + t = 0 + i * 1 + t by omega, h1, ← List.getElem?_eq_getElem, hget t ht]
  have hout : ∀ k, k < i ∨ n - 1 ≤ k → W1.cell? ⟨g, k, none⟩ = w.cell? ⟨g, k, none⟩ := fun k hk => by
    rw [hW1, World.cell?_setCells_out g news (0 + i * 1) w.drew ⟨g, k, none⟩ (fun _ _ => by simp only []; rw [hlen]; omega)]
    rfl
  have hfz : ∀ k, W1.frozen? ⟨g, k, none⟩ = false := fun k => by
    rw [hW1, World.frozen?_setCells]; exact hf k
  have hcl : ∀ ty, (Builtin.clear_ #[22] ty #[.slice (some ⟨g, i + (n - j), none⟩) (n - (i + (n - j))) (c - (i + (n - j)))]).run Tryd.prog W1 = .ok (.tuple #[]) (W1.setCells g (i + (n - j)) (List.replicate (n - (i + (n - j))) (.int .i64 0))) :=
    fun ty => Lib.run_clear_slice W1 _ _ ty _ Tryd.underlying22 zero3 rfl rfl g (i + (n - j)) _ _ (by omega) (fun t ht => by rw [hout _ (by omega)]; exact hs _ (by omega)) (fun t ht => hfz _)
  have hW : Hid (W1 = w.drew.setCells g (0 + i * 1) news) := Lib.hid hW1
  have HFIN : Hid (IsL (W1.setCells g (i + (n - j)) (List.replicate (n - (i + (n - j))) (.int .i64 0))) (some ⟨g, 0, none⟩) (n - 1) c (l.eraseIdx i) ∧ w.grownBy (W1.setCells g (i + (n - j)) (List.replicate (n - (i + (n - j))) (.int .i64 0))) (some g)) := Lib.hid (by
    refine ⟨⟨by rw [List.length_eraseIdx_of_lt (by omega)]; omega, by omega, hm, (fun e => by cases e), fun hp => ⟨g, 0, rfl, ?_, fun k hk => ?_⟩⟩, ?_⟩
    · have := (grown_setCells g (List.replicate (n - (i + (n - j))) (.int .i64 0)) (i + (n - j)) W1).size
      have h2 := (grown_setCells g news (0 + i * 1) w.drew).size
      rw [← hW1] at h2
      have h3 := (Array.getElem?_eq_some_iff.1 hh).1
      have h4 : w.drew.heap.size = w.heap.size := rfl
      omega
    · rw [Nat.zero_add, World.cell?_setCells_out g _ (i + (n - j)) W1 ⟨g, k, none⟩ (fun _ _ => by simp only []; omega)]
      by_cases hki : k < i
      · rw [hout k (.inl hki), hx k (by omega)]
        congr 2
        simp only [List.getD, List.getElem?_eraseIdx_of_lt hki]
      · have := hin (k - i) (by omega)
        rw [show i + (k - i) = k by omega] at this
        rw [this]
        congr 2
        have e1 : j + (k - i) = k + 1 := by omega
        simp only [List.getD, List.getElem?_eraseIdx_of_ge (show i ≤ k by omega)]
        rw [e1]
    · rw [hW1]
      exact grown_trans (grown_trans (grown_drew w (some g)) (grown_setCells g news _ _)) (grown_setCells g _ _ _))
  have HNN : Hid (n - 1 = i + (n - j)) := Lib.hid (by omega)
  have hic : i ≤ c := by omega
  have hjc : j ≤ c := by omega
  have hjn : j ≤ n := by omega
  have hne : ¬ i = j := by omega
  have hlt : i < j := by omega
  clear hW1 hh hx hs hf hget hnews hlen hin hout hfz h hj hcs hl
  go_enter Tryd.func45, Tryd.ntmps45
  go_wp2_with fail
  go_region_law_o (refine step_append_room (by rfl) (.tmp 22) (.tmp 25) 22 (by rfl) 3 i0 1 Tryd.underlying22 hi0 hz1 g 0 i c ?_ A (n - j) (c - j) news ?_ s1.out hsrc.out s2.out (by omega) s3.out ?_; go_simp; go_simp; rw [← hW.out])
  go_wp2
  go_ret
  refine ⟨by rw [HNN.out]; rfl, HFIN.out⟩
end Go.Proofs.YtbhjphcomppjgaaDoor
