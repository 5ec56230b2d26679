/- Walks of the references of chapter 11: Number. -/
import Derived.Test.YtjedmiegcbdedaaRb
namespace Go.Proofs.Ytjedmiegcbdedaa
open Go.RowKit Store11

theorem chkL_many {l : List Int} (h : chkL l = 0) : chkG ((0 : Nat) : Int) (l.drop 0) = 0 := by
  have h2 : sizeE l.length = 0 := by
    unfold chkL at h
    split at h
    · exact absurd h (by assumption)
    · omega
  have : chkL l = chkG 0 l := by rw [chkL, if_neg (by omega)]
  rw [List.drop_zero, ← h, this]; rfl

set_option maxHeartbeats 4000000 in
set_option maxRecDepth 100000 in
theorem rNumber_any (a : Option Addr) (n c : Nat) (l : List Int) (w : World) (h : IsL w a n c l) :
    Calls Try.prog 19 #[.slice a n c] w fun e w' => e = .returned (.tuple #[.int .i64 (numV l), .int .i64 (chkL l)]) ∧ Below w.heap.size w w' := by
  have hl := h.len
  by_cases hz : chkL l = 0
  · have hl9 := chkL_zero hz
    rw [hl] at hl9
    have HG0 := Lib.hid (chkL_many hz)
    have HZ := Lib.hid hz
    have HV : Hid (numV l = numG l 0) := Lib.hid (by rw [numV, if_pos hz])
    have HL := Lib.hid hl
    have HBD : Hid (∀ j, j < n → 0 ≤ l.getD j 0 ∧ l.getD j 0 ≤ j) := Lib.hid fun j hj => chkL_bound hz j (by omega)
    have HN0 : Hid ((0 : Int) + numG (l.drop 0) 0 = numG l 0) := Lib.hid (by simp)
    clear hl hz
    go_enter Try.func19, Try.ntmps19
    go_wp2_with (go_at_call 22; refine (rCheck_any a n c l _ h).mono ?_; rintro e w1 ⟨rfl, hb1⟩; rw [HZ.out])
    go_loopw [5, 6] (fun vs vk wr => ∃ (k x : Nat) (s : Int), k ≤ n ∧ x ≤ k ∧ 0 ≤ s ∧ s ≤ 1000000 * (k : Int) ∧ vk = .int .i64 (k : Int) ∧ vs = .int .i64 s ∧ Hid (manyL (l.take k) = (x : Int)) ∧ Hid (s + numG (l.drop k) x = numG l 0) ∧ Hid (chkG (x : Int) (l.drop k) = 0) ∧ Below w.heap.size w wr) (fun _ vk _ => n - (intOf vk).toNat)
    case atStart => exact ⟨0, 0, 0, by omega, by omega, by omega, by omega, rfl, rfl, Lib.hid (by simp [manyL]), HN0, HG0, hb1⟩
    case round =>
      clear HN0 HG0 hb1
      obtain ⟨k, x, s, hk, hx, hs0, hs1, rfl, rfl, hm, hN, hC, hb⟩ := hrel
      have hcap := h.cap
      have hle := h.le
      by_cases hlt : k < n
      · have hdr := drop_getD l k (by rw [HL.out]; exact hlt)
        have hcg := hC.out
        have hnn := hN.out
        have hmt := manyL_take l k (by rw [HL.out]; exact hlt)
        obtain ⟨j, hj⟩ : ∃ j, n = k + 1 + j := ⟨n - (k + 1), by omega⟩
        have hlen : (l.drop (k + 1)).length = j := by simp; rw [HL.out]; omega
        rw [hdr] at hcg hnn
        rw [numG, hlen] at hnn
        obtain ⟨r, hre⟩ : ∃ r, l.getD k 0 = r := ⟨_, rfl⟩
        rw [hre] at hcg hnn hmt
        have HRE := Lib.hid hre
        have hr : 0 ≤ r ∧ r ≤ x := by
          rw [chkG] at hcg
          split at hcg
          · omega
          · split at hcg
            · omega
            · omega
        have hr2 : chkG (max x (r.toNat + 1) : Nat) (l.drop (k + 1)) = 0 := by
          rw [chkG, if_neg (by omega), if_neg (by omega)] at hcg
          split at hcg
          · rw [show ((max x (r.toNat + 1) : Nat) : Int) = (x : Int) + 1 by omega]; exact hcg
          · rw [show ((max x (r.toNat + 1) : Nat) : Int) = (x : Int) by omega]; exact hcg
        have he := endN_small x (by omega) j (by omega) (by omega)
        have hie := intoR_end j (by omega) x (by omega) (by omega)
        obtain ⟨each, hea⟩ : ∃ each, endN x j = each := ⟨_, rfl⟩
        rw [hea] at he hnn hie
        have HEV : Hid (∀ z : Int, z = (j : Int) → intoR (x : Int) z.toNat (-1) = each) := Lib.hid (fun z hz => by rw [hz, show ((j : Int)).toNat = j by omega]; exact hie)
        have HM2 : Hid (manyL (l.take (k + 1)) = ((max x (r.toNat + 1) : Nat) : Int)) := Lib.hid (by rw [hmt, hm.out]; omega)
        have HNN : Hid (s + (r * each + numG (l.drop (k + 1)) (max x (r.toNat + 1))) = numG l 0) := Lib.hid hnn
        have HC2 := Lib.hid hr2
        have q1 : (k : Int) < (n : Int) := by omega
        have q2 : (k : Int) ≤ (c : Int) := by omega
        have hre9 : 0 ≤ r * each ∧ r * each ≤ 900000 := by
          have h1 := Int.mul_le_mul (show r ≤ 9 by omega) he.2 (by omega) (by omega)
          have h2 := Int.mul_nonneg hr.1 (show 0 ≤ each by omega)
          omega
        have hj1 : n ≤ k + 1 + j := by omega
        have hj2 : k + 1 + j ≤ n := by omega
        clear hdr hcg hnn hmt hlen hr2 hea hie hre hN hC hj
        have hd9 : decide ((k : Int) < (n : Int)) = true := by simpa using q1
        go_wp2_with fail
        go_loopw [5, 7] (fun vs vr wr => ∃ ρ : Nat, (ρ : Int) ≤ r ∧ vr = .int .i64 (ρ : Int) ∧ vs = .int .i64 (s + (ρ : Int) * each) ∧ Below w.heap.size w wr) (fun _ vr _ => 100 - (intOf vr).toNat)
        case atStart => exact ⟨0, by omega, rfl, by simp, hb⟩
        case round =>
          clear hb
          obtain ⟨ρ, hρ, rfl, rfl, hb⟩ := hrel
          have h' := h.below hb
          obtain ⟨b, o, rfl, _, hc⟩ := h'.cells (by omega)
          have x1 := hc k hlt
          rw [HRE.out] at x1
          by_cases hρr : (ρ : Int) < r
          · obtain ⟨q, hq⟩ : ∃ q, (ρ : Int) * each = q := ⟨_, rfl⟩
            have hq2 : ((ρ : Int) + 1) * each = q + each := by rw [← hq, Int.add_mul, Int.one_mul]
            have hq0 : 0 ≤ q ∧ q + each ≤ 900000 := by
              have h1 := Int.mul_le_mul_of_nonneg_right (show (ρ : Int) + 1 ≤ r by omega) (show 0 ≤ each by omega)
              have h2 := Int.mul_nonneg (show (0 : Int) ≤ ρ by omega) (show 0 ≤ each by omega)
              omega
            have HQ2 := Lib.hid hq2
            have hsz := hb.size
            have o0 := own_lit wr 3 w.heap.size hsz ([] : List Int) #[] 0 rfl rfl (by omega)
            have hpre := (h'.pre k c (by omega) (by omega) (Nat.le_refl _)).alloc (.cells #[] 3)
            have HPR := Lib.hid hpre
            have HBB : Hid (∀ i, i < k → 0 ≤ l.getD i 0 ∧ l.getD i 0 ≤ 100) := Lib.hid fun i hi => by have := HBD.out i (by omega); omega
            clear hc hpre hq2
            rw [hq]
            go_wp2_with (at_builtin; refine wl_app_own Try.underlying22 elem3 w.heap.size (.tmp 28) (.tmp 31) rfl rfl rfl rfl o0 HPR.out (by simp; omega) (by omega) ?_)
            intro a2 c2 w2 o2 hg2 hb2 hv2
            have k2 := (hb.alloc hsz (.cells #[] 3)).trans hb2
            have hsz2 := k2.size
            clear hg2 hv2 hb2 o0 HPR
            go_wp2_with (at_builtin; refine wl_app_own Try.underlying22 elem3 w.heap.size (.tmp 32) (.tmp 34) rfl rfl rfl rfl (o2.alloc _) (isL_one _ _ _) (by simp; omega) (by omega) ?_)
            intro a3 c3 w3 o3 hg3 hb3 hv3
            have k3 := (k2.alloc hsz2 (.cells #[.int .i64 (ρ : Int)] 3)).trans hb3
            have i3 := o3.isL
            have hml : manyL (l.take k ++ [(ρ : Int)]) = (x : Int) := by rw [manyL_snoc, hm.out]; omega
            have HML := Lib.hid hml
            have hbd3 : ∀ i, i < k + 1 → -1000000 ≤ (l.take k ++ [(ρ : Int)]).getD i 0 ∧ (l.take k ++ [(ρ : Int)]).getD i 0 ≤ 1000000 := by
              intro i hi
              have hlk : (l.take k).length = k := by simp; rw [HL.out]; omega
              by_cases hik : i < k
              · have e : (l.take k ++ [(ρ : Int)]).getD i 0 = l.getD i 0 := by
                  rw [List.getD, List.getElem?_append_left (by omega), ← List.getD, take_getD l k i hik]
                rw [e]; have := HBB.out i hik; omega
              · have e : (l.take k ++ [(ρ : Int)]).getD i 0 = (ρ : Int) := by
                  rw [List.getD, List.getElem?_append_right (by omega), hlk, show i - k = 0 by omega]; rfl
                rw [e]; omega
            have HB3 := Lib.hid hbd3
            clear hml hbd3 hg3 hv3 hb3 o2 o3
            go_wp2_with fail
            refine (many_any _ _ _ _ _ i3 HB3.out).mono ?_
            rintro e w' ⟨rfl, rfl⟩
            rw [HML.out]
            go_wp2_with fail
            refine (rinto_c _ _ _ each _ (by omega) (by omega) (by omega) (HEV.out _ (by omega))).mono ?_
            rintro e w' ⟨rfl, rfl⟩
            clear i3
            go_wp2
            go_roundw
            case rel => first | exact ⟨ρ + 1, by omega, by go_num, by rw [show ((ρ + 1 : Nat) : Int) = (ρ : Int) + 1 by omega, HQ2.out]; go_num, k3⟩ | ((repeat apply Exists.intro); exact ⟨⟨ρ + 1, by omega, by go_num, by rw [show ((ρ + 1 : Nat) : Int) = (ρ : Int) + 1 by omega, HQ2.out]; go_num, k3⟩, rfl⟩)
            case measure => simp [intOf]; omega
          · have hrr : r = (ρ : Int) := by omega
            have HRR := Lib.hid hrr
            have HN3 : Hid ((s + (ρ : Int) * each) + numG (l.drop (k + 1)) (max x (r.toNat + 1)) = numG l 0) := Lib.hid (by rw [← HNN.out, ← hrr]; omega)
            have hq9 : 0 ≤ (ρ : Int) * each ∧ (ρ : Int) * each ≤ 900000 := by rw [← hrr]; exact hre9
            obtain ⟨y, hy⟩ : ∃ y, s + (ρ : Int) * each = y := ⟨_, rfl⟩
            have hy0 : 0 ≤ y ∧ y ≤ 1000000 * ((k : Int) + 1) := by omega
            rw [hy] at HN3 ⊢
            have hmx : max x (r.toNat + 1) ≤ k + 1 := by omega
            clear hy hq9 hrr hc hre9
            go_wp2_with fail
            go_roundw
            case rel => exact ⟨k + 1, max x (r.toNat + 1), y, by omega, hmx, hy0.1, by omega, by go_num, rfl, HM2, HN3, HC2, hb⟩
            case measure => simp [intOf]; omega
      · obtain rfl : k = n := by omega
        have HF : Hid (s = numV l) := Lib.hid (by
          have := hN.out
          rw [List.drop_of_length_le (by rw [HL.out]; exact Nat.le_refl _), numG] at this
          rw [HV.out, ← this]; omega)
        clear hN hC
        go_wp2
        go_ret2
        exact ⟨ret_ii HF.out HZ.out.symm, hb⟩
  · have hq : (chkL l != 0) = true := by simpa using hz
    have HV : Hid (0 = numV l) := Lib.hid (by rw [numV, if_neg hz])
    clear hz hl
    go_enter Try.func19, Try.ntmps19
    go_wp2_with (go_at_call 22; refine (rCheck_any a n c l _ h).mono ?_; rintro e w1 ⟨rfl, hb1⟩)
    go_ret2
    exact ⟨ret_ii HV.out rfl, hb1⟩
end Go.Proofs.Ytjedmiegcbdedaa
