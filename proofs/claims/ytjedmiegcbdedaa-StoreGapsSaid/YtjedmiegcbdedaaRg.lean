/- Walks of chapter 11: the reference's arcs and crossings. -/
import Derived.Test.YtjedmiegcbdedaaXe
import Derived.Test.YtjedmiegcbdedaaPx
import Derived.Test.YtjedmiegcbdedaaRb
namespace Go.Proofs.Ytjedmiegcbdedaa
open Go.RowKit Store11

theorem OwnP.drewN {w : World} {e B : Nat} {a : Option Addr} {n c : Nat} {A : List (Int × Int)} (h : OwnP w e B a n c A) (k : Nat) : OwnP (w.drewN k) e B a n c A := h.below (belowN (Below.refl _ _) k)
theorem cell_at (w : World) (cs : Array Value) (t : TypeId) (b k : Nat) (v : Value) (hb : b = w.heap.size) (hv : cs[k]? = some v) : (w.alloc (.cells cs t)).cell? ⟨b, k, none⟩ = some v := by subst hb; simp [go_sem, hv]
set_option maxHeartbeats 4000000 in
set_option maxRecDepth 100000 in
theorem rarcs_any (a : Option Addr) (n c : Nat) (l : List Int) (w : World) (h : IsL w a n c l) (hn : n ≤ 100) :
    Calls Try.prog 93 #[.slice a n c] w fun e w' => ∃ a' m c', e = .returned (.slice a' m c') ∧ OwnP w' 49 w.heap.size a' m c' (arcP l) ∧ m ≤ n ∧ Below w.heap.size w w' := by
  have hl := h.len
  have HL := Lib.hid hl
  clear hl
  go_enter Try.func93, Try.ntmps93
  go_wp2_with fail
  go_loopw [4, 3] (fun vi va wr => ∃ (i m : Nat) (a' : Option Addr) (c' : Nat), i ≤ n ∧ m ≤ i ∧ vi = .int .i64 (i : Int) ∧ va = .slice a' m c' ∧ Hid (OwnP wr 49 w.heap.size a' m c' (arcU l i)) ∧ Below w.heap.size w wr) (fun vi _ _ => n - (intOf vi).toNat)
  case atStart => exact ⟨0, 0, none, 0, by omega, by omega, rfl, rfl, Lib.hid (OwnP.nilP _ _ _), Below.refl _ _⟩
  case round =>
    obtain ⟨i, m, a', c', hi, hm, rfl, rfl, hO, hb⟩ := hrel
    by_cases hlt : i < n
    · have q0 : (i : Int) < (n : Int) := by omega
      have d0 : decide (i < n) = true := by simpa using hlt
      go_wp2_with fail
      go_loopw [5, 3] (fun vk va wr => ∃ k : Nat, i < k ∧ k ≤ n ∧ vk = .int .i64 (k : Int) ∧ va = .slice a' m c' ∧ Hid (∀ t, i < t → t < k → l.getD t 0 ≠ l.getD i 0) ∧ Hid (OwnP wr 49 w.heap.size a' m c' (arcU l i)) ∧ Below w.heap.size w wr) (fun vk _ _ => n - (intOf vk).toNat)
      case atStart => exact ⟨i + 1, by omega, by omega, by go_num, rfl, Lib.hid (fun t h1 h2 => by omega), hO, hb⟩
      case round =>
        clear hO hb
        obtain ⟨k, hik, hk, rfl, rfl, hD, hO, hb⟩ := hrel
        by_cases hkn : k < n
        · have g := h.below hb
          obtain ⟨b, o, rfl, _, hc⟩ := g.cells (by omega)
          have x1 := hc i hlt
          have x2 := hc k hkn
          have q1 : (k : Int) < (n : Int) := by omega
          have d1 : decide (k < n) = true := by simpa using hkn
          obtain ⟨u1, hu1⟩ : ∃ u, l.getD i 0 = u := ⟨_, rfl⟩
          obtain ⟨u2, hu2⟩ : ∃ u, l.getD k 0 = u := ⟨_, rfl⟩
          rw [hu1] at x1 hD
          rw [hu2] at x2
          have hsz := hb.size
          by_cases hu : u1 = u2
          · subst hu
            have e1 : (u1 == u1) = true := by simp
            have HA : Hid (arcU l (i + 1) = arcU l i ++ [((i : Int), (k : Int))]) := Lib.hid (arcU_hit ⟨hik, by rw [HL.out]; exact hkn, by rw [hu1, hu2], fun t ht1 ht2 => by rw [hu1]; exact hD.out t ht2 ht1⟩)
            have hO2 := hO.out
            clear hu1 hu2 hc hO
            go_wp2_with fail
            go_quiet (fail)
            go_wp2_with (at_builtin; refine wl_app_pair Try.underlying82 info49 w.heap.size (.tmp 29) (.tmp 33) rfl rfl rfl rfl ((hO2.drewN _).alloc _) (i : Int) (k : Int) (cell_at _ _ _ _ 0 _ rfl rfl) (cell_at _ _ _ _ 1 _ rfl rfl) (by (first | (simp; omega) | exact Nat.le_trans hsz (Nat.le_succ _) | omega)) (by omega) ?_)
            intro a2 c2 w3 ho2 hg2 hb2
            have hO4 : Hid (OwnP w3 49 w.heap.size a2 (m + 1) c2 (arcU l (i + 1))) := Lib.hid (by rw [HA.out]; exact ho2)
            have hb4 := ((belowN hb _).alloc hsz (.cells #[.int .i64 (i : Int), .int .i64 (k : Int)] 49)).trans hb2
            clear hg2 hb2 hO2 ho2 hb
            go_wp2
            go_roundw
            case rel => first | exact ⟨i + 1, m + 1, a2, c2, by omega, by omega, by go_num, rfl, hO4, hb4⟩ | ((repeat apply Exists.intro); exact ⟨⟨i + 1, m + 1, a2, c2, by omega, by omega, by go_num, rfl, hO4, hb4⟩, rfl⟩)
            case measure => (simp [intOf] <;> omega)
          · have e1 : (u1 == u2) = false := by simpa using hu
            have hD2 : Hid (∀ t, i < t → t < k + 1 → l.getD t 0 ≠ l.getD i 0) := Lib.hid (fun t h1 h2 => by
              by_cases e : t = k
              · rw [e, hu1, hu2]; exact fun e => hu e.symm
              · rw [hu1]; exact hD.out t h1 (by omega))
            clear hu1 hu2 hc hu
            go_wp2_with fail
            go_quiet (fail)
            go_wp2
            go_roundw
            case rel => first | exact ⟨k + 1, by omega, by omega, by go_num, rfl, hD2, Lib.hid (hO.out.drewN _), belowN hb _⟩ | ((repeat apply Exists.intro); exact ⟨⟨k + 1, by omega, by omega, by go_num, rfl, hD2, Lib.hid (hO.out.drewN _), belowN hb _⟩, rfl⟩)
            case measure => (simp [intOf] <;> omega)
        · obtain rfl : k = n := by omega
          have HA : Hid (arcU l (i + 1) = arcU l i) := Lib.hid (arcU_miss (fun t h1 h2 => hD.out t h1 (by rw [HL.out] at h2; exact h2)))
          go_wp2
          go_roundw
          case rel => first | exact ⟨i + 1, m, a', c', by omega, by omega, by go_num, rfl, by rw [HA.out]; exact hO, hb⟩ | ((repeat apply Exists.intro); exact ⟨⟨i + 1, m, a', c', by omega, by omega, by go_num, rfl, by rw [HA.out]; exact hO, hb⟩, rfl⟩)
          case measure => (simp [intOf] <;> omega)
    · obtain rfl : i = n := by omega
      have HR : Hid (arcP l = arcU l i) := Lib.hid (by rw [arcP, HL.out])
      go_wp2
      go_ret
      exact ⟨_, _, _, rfl, by rw [HR.out]; exact hO.out, hm, hb⟩
end Go.Proofs.Ytjedmiegcbdedaa
