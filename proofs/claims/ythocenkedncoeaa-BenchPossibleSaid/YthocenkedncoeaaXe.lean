/- Walks of chapter 06: BenchPossible's closure, all orders. -/
import Derived.Test.YthocenkedncoeaaXd
namespace Go.Proofs.Ythocenkedncoeaa
open Go.RowKit Go.ChangeMaps Bench06

set_option maxHeartbeats 8000000 in
set_option maxRecDepth 100000 in
theorem poss_put (g m x p q n N sz : Nat) (hn : n < 7) (h1 : 1 ≤ n) : ∀ (k : Nat) (pre : List Int) (a : Option Addr) (c : Nat) (w : World), k + pre.length = n → (∀ l ∈ goP n k pre, l ∈ allP n) → PoS g m x p q n N sz (metF n (lcmTo n)) w → IsL w a pre.length c pre → (∀ y, a = some y → y.block ≠ p) →
    Calls Try.prog 39 #[.slice a pre.length c, .pointer (some ⟨g, 0, none⟩), .pointer (some ⟨q, 0, none⟩), .pointer (some ⟨p, 0, none⟩), .pointer (some ⟨x, 0, none⟩)] w fun e w2 => e = .returned (.tuple #[]) ∧ w.grownBy w2 (some p) ∧ ArrV VP w2 p 4 [.bool true] := by
  intro k
  induction k with
  | zero =>
    intro pre a c w hk hsub hS hL hX
    have hl : pre ∈ allP n := hsub pre (by simp [goP])
    obtain rfl : pre.length = n := by omega
    have hO := leaf_of hn h1 hl
    by_cases h0 : (countL pre).2 = 0
    · exact poss_yes g m x p q _ N sz a c pre w hn h1 hO hS hL hX h0
    · exact poss_no g m x p q _ N sz a c pre w hn h1 hO hS hL hX h0
  | succ k ih =>
    intro pre a c w hk hsub hS hL hX
    have hle := hL.le
    have hcap := hL.cap
    obtain ⟨j, hj⟩ : ∃ j, pre.length = j := ⟨_, rfl⟩
    have HJ := Lib.hid hj
    rw [hj] at hk hle ⊢
    have q0 : (j : Int) < (n : Int) := by omega
    have HIH : Hid (∀ r : Nat, r < n → (r : Int) ∉ pre → ∀ a2 (b2 : Nat) c2 w2, b2 = j + 1 → PoS g m x p q n N sz (metF n (lcmTo n)) w2 → IsL w2 a2 b2 c2 (pre ++ [(r : Int)]) → (∀ y, a2 = some y → y.block ≠ p) →
        Calls Try.prog 39 #[.slice a2 b2 c2, .pointer (some ⟨g, 0, none⟩), .pointer (some ⟨q, 0, none⟩), .pointer (some ⟨p, 0, none⟩), .pointer (some ⟨x, 0, none⟩)] w2 fun e w3 => e = .returned (.tuple #[]) ∧ w2.grownBy w3 (some p) ∧ ArrV VP w3 p 4 [.bool true]) := Lib.hid (by
      intro r hr hm a2 b2 c2 w2 hb2 hS2 hL2 hX2
      subst hb2
      have hlen : (pre ++ [(r : Int)]).length = j + 1 := by simp [HJ.out]
      have := ih (pre ++ [(r : Int)]) a2 c2 w2 (by rw [hlen]; omega) (fun l hl => hsub l (by
        rw [goP, List.mem_flatMap]
        exact ⟨r, List.mem_range.2 hr, by rw [if_neg hm]; exact hl⟩)) hS2 (by rw [hlen]; exact hL2) hX2
      rw [hlen] at this
      exact this)
    have HS := Lib.hid hS
    have HL := Lib.hid hL
    have HX := Lib.hid hX
    have z1 := cellP hS.hn 0 rfl
    have G0 := Lib.hid hS.hg
    clear hS hL hX ih hsub hj
    go_enter Try.func39, Try.ntmps39
    go_wp2_with fail
    clear z1
    go_loopw [25] (fun vr wr => ∃ r : Nat, r ≤ n ∧ vr = .int .i64 (r : Int) ∧ w.grownBy wr (some p) ∧ Hid (ArrV VP wr p 4 [.bool true])) (fun vr _ => n - (intOf vr).toNat)
    case atStart => exact ⟨0, by omega, rfl, World.grownBy.refl _ _, G0⟩
    case round =>
      obtain ⟨r, hr, rfl, hg, hG⟩ := hrel
      have hS5 := HS.out.grown hg hG.out
      have hL5 : IsL wr a j c pre := by
        have := IsL.grown (o := some ⟨p, 0, none⟩) (k := 0) (co := 0) HL.out (by simpa [Value.ownBlock] using hg) (fun y z hy hz => by cases hz; exact HX.out y hy)
        rw [HJ.out] at this
        exact this
      by_cases hlt : r < n
      · have q1 : (r : Int) < (n : Int) := by omega
        by_cases hm : (r : Int) ∈ pre
        · have HM := Lib.hid hm
          clear hm
          go_wp2_with (go_at_call 40; refine (contains_yes _ _ _ _ _ _ hL5 HM.out).mono ?_; rintro e w9 ⟨rfl, rfl⟩)
          go_roundw
          case rel => first | exact ⟨r + 1, by omega, by go_num, hg, hG⟩ | ((repeat apply Exists.intro); exact ⟨⟨r + 1, by omega, by go_num, hg, hG⟩, rfl⟩)
          case measure => simp [intOf]; omega
        · have HM := Lib.hid hm
          clear hm
          have z2 := cellP hS5.hq 0 rfl
          have zq := World.block_lt_of_cell? wr _ z2
          have HS5 := Lib.hid hS5
          have HL5 := Lib.hid hL5
          clear hS5
          go_wp2_with (go_at_call 40; refine (contains_no _ _ _ _ _ _ hL5 HM.out).mono ?_; rintro e w9 ⟨rfl, rfl⟩)
          clear hL5
          have gp : p < wr.heap.size := hG.out.lt
          obtain ⟨E, hE⟩ : ∃ E, Obj.cells #[] 3 = E := ⟨_, rfl⟩
          have HA1 : Hid (OwnL (wr.alloc (.cells #[] 3)).drew 3 wr.heap.size (some ⟨wr.heap.size, 0, none⟩) 0 0 []) := Lib.hid (own_lit wr 3 wr.heap.size (Nat.le_refl _) [] #[] 0 rfl rfl (by omega)).drew
          have HB1 : Hid (OwnL ((wr.alloc (.cells #[] 3)).alloc (.cells #[.int .i64 (r : Int)] 3)).drew 3 wr.heap.size (some ⟨wr.heap.size, 0, none⟩) 0 0 []) := Lib.hid ((own_lit wr 3 wr.heap.size (Nat.le_refl _) [] #[] 0 rfl rfl (by omega)).alloc _).drew
          have HC1 : Hid (OwnL ((wr.alloc (.cells #[.int .i64 (r : Int)] 3)).alloc (.cells #[] 3)).drew 3 wr.heap.size (some ⟨wr.heap.size + 1, 0, none⟩) 0 0 []) := Lib.hid (by
            have := own_lit (wr.alloc (.cells #[.int .i64 (r : Int)] 3)) 3 wr.heap.size (by simp) ([] : List Int) #[] 0 rfl rfl (by omega)
            simpa using this.drew)
          have HB2 : Hid (IsL ((wr.alloc (.cells #[] 3)).alloc (.cells #[.int .i64 (r : Int)] 3)).drew (some ⟨wr.heap.size + 1, 0, none⟩) 1 1 [(r : Int)]) := Lib.hid (isL_oneAt (wr.alloc (.cells #[] 3)) (r : Int) 3 (wr.heap.size + 1) (by simp)).drew
          have HC2 : Hid (IsL ((wr.alloc (.cells #[.int .i64 (r : Int)] 3)).alloc (.cells #[] 3)).drew (some ⟨wr.heap.size, 0, none⟩) 1 1 [(r : Int)]) := Lib.hid ((isL_oneAt wr (r : Int) 3 wr.heap.size rfl).alloc _).drew
          have KA : Hid (Below wr.heap.size wr (wr.alloc (.cells #[] 3)).drew) := Lib.hid ((Below.refl _ wr).alloc (Nat.le_refl _) _).drew
          have KB : Hid (Below wr.heap.size wr ((wr.alloc (.cells #[] 3)).alloc (.cells #[.int .i64 (r : Int)] 3)).drew) := Lib.hid (((Below.refl _ wr).alloc (Nat.le_refl _) _).alloc (by simp) _).drew
          have KC : Hid (Below wr.heap.size wr ((wr.alloc (.cells #[.int .i64 (r : Int)] 3)).alloc (.cells #[] 3)).drew) := Lib.hid (((Below.refl _ wr).alloc (Nat.le_refl _) _).alloc (by simp) _).drew
          have SB : Hid (Sep (some ⟨wr.heap.size + 1, 0, none⟩) (some ⟨wr.heap.size, 0, none⟩)) := Lib.hid (by rintro y z hy hz; cases hy; cases hz; simp)
          have hsm : 0 + j ≤ 17592186044416 := by omega
          have hsm2 : j + 1 ≤ 17592186044416 := by omega
          have HLN : Hid (j + 1 = j + 1) := Lib.hid rfl
          have hsm3 : 0 + j + 1 ≤ 17592186044416 := by omega
          have HLN2 : Hid (0 + j + 1 = j + 1) := Lib.hid (by omega)
          have HZ : Hid (0 + j = j) := Lib.hid (Nat.zero_add j)
          have HNIL : Hid ([] ++ pre = pre) := Lib.hid (List.nil_append _)
          have HNE : Hid (∀ a4 : Option Addr, (∀ y, a4 = some y → wr.heap.size ≤ y.block) → ∀ y, a4 = some y → y.block ≠ p) := Lib.hid (fun a4 h y hy => Nat.ne_of_gt (Nat.lt_of_lt_of_le gp (h y hy)))
          have HKQ : Hid (∀ w4 w5, Below wr.heap.size wr w4 → w4.grownBy w5 (some p) → w5.cell? ⟨q, 0, none⟩ = some (.func (.func 39) #[] #[.pointer (some ⟨g, 0, none⟩), .pointer (some ⟨q, 0, none⟩), .pointer (some ⟨p, 0, none⟩), .pointer (some ⟨x, 0, none⟩)])) := Lib.hid (fun w4 w5 k4 g5 => by
            have h := HS5.out.new k4
            exact cellP (h.hq.grown g5 (by simpa using h.nq)) 0 rfl)
          clear hE E
          go_region_held3 (fun w' => w'.cell? ⟨q, 0, none⟩ = some (.func (.func 39) #[] #[.pointer (some ⟨g, 0, none⟩), .pointer (some ⟨q, 0, none⟩), .pointer (some ⟨p, 0, none⟩), .pointer (some ⟨x, 0, none⟩)])) (first | go_keep | exact (k3.cell (p := ⟨q, 0, none⟩) zq).trans z2 | exact (k4.cell (p := ⟨q, 0, none⟩) zq).trans z2 | exact HKQ.out _ _ k4 g5)
            (first
              | (go_at_call 39; refine (HIH.out r hlt HM.out a4 (j + 1) c4 w4 HLN.out (HS5.out.new k4) o8.isL N4).mono ?_; rintro e w5 ⟨rfl, g5, h5⟩)
              | (go_at_call 39; refine (HIH.out r hlt HM.out a4 (0 + j + 1) c4 w4 HLN2.out (HS5.out.new k4) o4.isL N4).mono ?_; rintro e w5 ⟨rfl, g5, h5⟩)
              | (refine step_app_own Try.underlying22 elem3 wr.heap.size (.tmp 33) (.tmp 34) ?_ ?_ ?_ ?_ HA1.out (HL5.out.below KA.out) KA.out.size hsm ?_; rfl; rfl; rfl; rfl; intro a3 c3 w3 o3 g3 b3 v3; have o9 := o3; rw [HNIL.out] at o9; rw [HZ.out, HNIL.out] at o3; have k3 := KA.out.trans b3)
              | (refine step_app_own Try.underlying22 elem3 wr.heap.size (.tmp 33) (.tmp 34) ?_ ?_ ?_ ?_ HB1.out (HL5.out.below KB.out) KB.out.size hsm ?_; rfl; rfl; rfl; rfl; intro a3 c3 w3 o3 g3 b3 v3; have o9 := o3; rw [HNIL.out] at o9; rw [HZ.out, HNIL.out] at o3; have k3 := KB.out.trans b3)
              | (refine step_app_own Try.underlying22 elem3 wr.heap.size (.tmp 33) (.tmp 34) ?_ ?_ ?_ ?_ HC1.out (HL5.out.below KC.out) KC.out.size hsm ?_; rfl; rfl; rfl; rfl; intro a3 c3 w3 o3 g3 b3 v3; have o9 := o3; rw [HNIL.out] at o9; rw [HZ.out, HNIL.out] at o3; have k3 := KC.out.trans b3)
              | (refine step_app_own Try.underlying22 elem3 wr.heap.size (.tmp 35) (.tmp 37) ?_ ?_ ?_ ?_ (o3.alloc (.cells #[.int .i64 (r : Int)] 3)) (isL_one w3 (r : Int) 3) (k3.alloc k3.size (.cells #[.int .i64 (r : Int)] 3)).size hsm2 ?_; rfl; rfl; rfl; rfl; intro a4 c4 w4 o4 g4 b4 v4; have k4 := (k3.alloc k3.size (.cells #[.int .i64 (r : Int)] 3)).trans b4; have o8 := o4; have N4 := HNE.out a4 (fun y hy => (o4.lt y hy).1))
              | (refine step_app_own Try.underlying22 elem3 wr.heap.size (.tmp 35) (.tmp 37) ?_ ?_ ?_ ?_ o9 (IsL.grown HB2.out g3 SB.out) k3.size hsm3 ?_; rfl; rfl; rfl; rfl; intro a4 c4 w4 o4 g4 b4 v4; have k4 := k3.trans b4; have o8 := o4; rw [HLN2.out] at o8; have N4 := HNE.out a4 (fun y hy => (o4.lt y hy).1))
              | (refine step_app_own Try.underlying22 elem3 wr.heap.size (.tmp 35) (.tmp 37) ?_ ?_ ?_ ?_ o9 (IsL.grown HC2.out g3 SB.out.symm) k3.size hsm3 ?_; rfl; rfl; rfl; rfl; intro a4 c4 w4 o4 g4 b4 v4; have k4 := k3.trans b4; have o8 := o4; rw [HLN2.out] at o8; have N4 := HNE.out a4 (fun y hy => (o4.lt y hy).1)))
          all_goals (
            have hg6 := grown_trans hg (grown_trans (grown_of_below (r := some p) k4) g5)
            have HG6 := Lib.hid h5
            clear k4 g5 h5 o4 o8 N4 g4 b4 v4 o3 o9 g3 b3 v3 k3
            go_wp2_with fail
            go_roundw
            all_goals first | exact ⟨r + 1, by omega, by go_num, hg6, HG6⟩ | ((repeat apply Exists.intro); exact ⟨⟨r + 1, by omega, by go_num, hg6, HG6⟩, rfl⟩) | exact ⟨⟨r + 1, by omega, by go_num, hg6, HG6⟩, by simp [intOf]; omega⟩ | (simp [intOf]; omega))
      · obtain rfl : r = n := by omega
        have hz := hG.out
        clear hS5 hL5
        go_wp2_with fail
        (try simp only [Exit.inBlock, Exit.then])
        refine bodyPost_ret (results_none rfl _ _ _) rfl ?_
        exact ⟨rfl, hg, hz⟩
end Go.Proofs.Ythocenkedncoeaa
