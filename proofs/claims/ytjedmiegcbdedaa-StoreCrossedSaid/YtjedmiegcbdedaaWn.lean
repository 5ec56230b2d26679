/- Walks of chapter 11: Number. -/
import Derived.Test.YtjedmiegcbdedaaWm
import Derived.Test.YtjedmiegcbdedaaWh
import Derived.Test.YtjedmiegcbdedaaPa
namespace Go.Proofs.Ytjedmiegcbdedaa
open Go.RowKit Store11

theorem drop_len (l : List Int) (k j : Nat) (h : l.length = k + 1 + j) : (l.drop (k + 1)).length = j := by simp; omega

set_option maxHeartbeats 1000000 in
set_option maxRecDepth 100000 in
theorem Number_any (a : Option Addr) (n c : Nat) (l : List Int) (w : World) (h : IsL w a n c l) :
    Calls Try.prog 18 #[.slice a n c] w fun e w' => e = .returned (.tuple #[.int .i64 (numV l), .int .i64 (chkL l)]) ∧ Below w.heap.size w w' := by
  have hl := h.len
  by_cases hz : chkL l = 0
  · have hl9 := chkL_zero hz
    rw [hl] at hl9
    have hg0 : chkG ((0 : Nat) : Int) (l.drop 0) = 0 := by
      have : chkL l = chkG 0 l := by rw [chkL, if_neg (by rw [hl]; unfold sizeE; split <;> (try split) <;> omega)]
      rw [List.drop_zero, ← hz, this]; rfl
    have HG0 := Lib.hid hg0
    have HZ := Lib.hid hz
    have HV : Hid (numV l = numG l 0) := Lib.hid (by rw [numV, if_pos hz])
    obtain ⟨M, hM⟩ : ∃ M, M = ENDS := ⟨_, rfl⟩
    have HM := Lib.hid hM
    have HL := Lib.hid hl
    have HN0 : Hid ((0 : Int) + numG (l.drop 0) 0 = numG l 0) := Lib.hid (by simp)
    clear hM hl hz hg0
    go_enter Try.func18, Try.ntmps18
    go_wp2_with (first
      | (go_at_call 21; refine (Check_any a n c l _ h).mono ?_; rintro e w1 ⟨rfl, rfl⟩; rw [HZ.out])
      | (go_at_call 64; refine (ends_M HM _).mono ?_; rintro e w2 ⟨rfl, hb2⟩)
      | (refine wpList_store_mid rfl 65 _ _ rfl w2.heap.size 0 _ rfl rfl (there65 HM w2) (info65M HM) (ints_one _) ?_))
    have hT := laid65 HM w2
    have hbt : Below w.heap.size w ((w2.alloc (.cells Try.zeroCells65 65)).setCells w2.heap.size 0 ((M.map (Value.int .i64)).toArray).toList) :=
      (hb2.alloc hb2.size _).grown (grown_setCells w2.heap.size _ 0 _) (by have h2 := hb2.size; simp; omega) (fun k hk => by cases hk; exact hb2.size)
    generalize (w2.alloc (.cells Try.zeroCells65 65)).setCells w2.heap.size 0 ((M.map (Value.int .i64)).toArray).toList = w3 at *
    generalize w2.heap.size = g at *
    have HT := Lib.hid hT
    have h3 := h.below hbt
    clear hT hb2 h
    go_loop [6, 7, 18] (fun vs vx vk => ∃ (k x : Nat) (s : Int), k ≤ n ∧ x ≤ k ∧ 0 ≤ s ∧ s ≤ 1000000 * (k : Int) ∧ vk = .int .i64 (k : Int) ∧ vx = .int .i64 (x : Int) ∧ vs = .int .i64 s ∧ Hid (s + numG (l.drop k) x = numG l 0) ∧ Hid (chkG (x : Int) (l.drop k) = 0)) (fun _ _ vk => n - (intOf vk).toNat)
    case atStart => exact ⟨0, 0, 0, by omega, by omega, by omega, by omega, rfl, rfl, rfl, HN0, HG0⟩
    case round =>
      clear HN0 HG0
      obtain ⟨k, x, s, hk, hx, hs0, hs1, rfl, rfl, rfl, hN, hC⟩ := hrel
      have hcap := h3.cap
      have hle := h3.le
      by_cases hlt : k < n
      · obtain ⟨b, o, rfl, hb, hc⟩ := h3.cells (by omega)
        have x1 := hc k hlt
        have hdr := drop_getD l k (by rw [HL.out]; exact hlt)
        have hcg := hC.out
        have hnn := hN.out
        obtain ⟨j, hj⟩ : ∃ j, n = k + 1 + j := ⟨n - (k + 1), by omega⟩
        have hlen : (l.drop (k + 1)).length = j := drop_len l k j (by rw [HL.out, hj])
        rw [hdr] at hcg hnn
        rw [numG, hlen] at hnn
        generalize l.getD k 0 = r at *
        have hr : 0 ≤ r ∧ r ≤ x := by
          rw [chkG] at hcg
          split at hcg
          · omega
          · split at hcg
            · omega
            · omega
        have hr2 : chkG (max x (r.toNat + 1) : Nat) (l.drop (k + 1)) = 0 := by
          rw [chkG, if_neg (by omega), if_neg (by omega)] at hcg
          split at hcg
          · rw [show ((max x (r.toNat + 1) : Nat) : Int) = (x : Int) + 1 by omega]; exact hcg
          · rw [show ((max x (r.toNat + 1) : Nat) : Int) = (x : Int) by omega]; exact hcg
        have he := endN_small x (by omega) j (by omega) (by omega)
        obtain ⟨x2, _⟩ := HT.out.cell (x * 10 + j) (by rw [ends_len]; omega)
        change w3.cell? ⟨g, x * 10 + j, none⟩ = some (.int .i64 (endN x j)) at x2
        generalize endN x j = each at *
        obtain ⟨ρ, rfl⟩ : ∃ ρ : Nat, r = ρ := ⟨r.toNat, by omega⟩
        rw [show ((ρ : Int)).toNat = ρ by omega] at hr2 hnn
        obtain ⟨q, hq⟩ : ∃ q, (ρ : Int) * each = q := ⟨_, rfl⟩
        have hq0 : 0 ≤ q ∧ q ≤ 1000000 := by
          rw [← hq]
          have h1 := Int.mul_le_mul (show (ρ : Int) ≤ 10 by omega) he.2 (by omega) (by omega)
          have h2 := Int.mul_nonneg (show (0 : Int) ≤ (ρ : Int) by omega) (show 0 ≤ each by omega)
          omega
        rw [hq] at hnn
        have hjj : (n : Int) - 1 - (k : Int) = (j : Int) := by omega
        have HN2 : Hid ((s + q) + numG (l.drop (k + 1)) (max x (ρ + 1)) = numG l 0) := Lib.hid (by omega)
        have HC2 := Lib.hid hr2
        have q1 : (k : Int) < (n : Int) := by omega
        have q2 : (0 : Int) ≤ (n : Int) - 1 - (k : Int) := by omega
        have j10 : j < 10 := by omega
        have x10 : x < 10 := by omega
        clear hc hdr hcg hnn hlen hj hr2
        rcases (by omega : ρ = x ∨ ρ + 1 = x ∨ ρ + 1 < x) with rfl | rfl | hlt2
        · rw [show max ρ (ρ + 1) = ρ + 1 by omega] at HN2 HC2
          go_wp2
          go_round
          case rel => exact ⟨k + 1, ρ + 1, s + q, by omega, by omega, by omega, by omega, by go_num, by go_num, rfl, HN2, HC2⟩
          case measure => simp [intOf]; omega
        · rw [show max (ρ + 1) (ρ + 1) = ρ + 1 by omega] at HN2 HC2
          go_wp2
          go_round
          case rel => exact ⟨k + 1, ρ + 1, s + q, by omega, by omega, by omega, by omega, by go_num, by go_num, rfl, HN2, HC2⟩
          case measure => simp [intOf]; omega
        · rw [show max x (ρ + 1) = x by omega] at HN2 HC2
          go_wp2
          go_round
          case rel => exact ⟨k + 1, x, s + q, by omega, by omega, by omega, by omega, by go_num, by go_num, rfl, HN2, HC2⟩
          case measure => simp [intOf]; omega
      · obtain rfl : k = n := by omega
        have HF : Hid (s = numV l) := Lib.hid (by
          have := hN.out
          rw [List.drop_of_length_le (by rw [HL.out]; exact Nat.le_refl _), numG] at this
          rw [HV.out, ← this]; omega)
        clear hN hC
        go_wp2
        go_ret2
        exact ⟨ret_ii HF.out HZ.out.symm, hbt⟩
  · have hq : (chkL l != 0) = true := by simpa using hz
    have HV : Hid (0 = numV l) := Lib.hid (by rw [numV, if_neg hz])
    clear hz hl
    go_enter Try.func18, Try.ntmps18
    go_wp2_with (go_at_call 21; refine (Check_any a n c l _ h).mono ?_; rintro e w1 ⟨rfl, rfl⟩)
    go_ret2
    exact ⟨ret_ii HV.out rfl, Below.refl _ _⟩
end Go.Proofs.Ytjedmiegcbdedaa
