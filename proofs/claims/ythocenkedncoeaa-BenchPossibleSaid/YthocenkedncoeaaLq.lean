/- Chapter 06: the walk of BenchPossible. -/
import Derived.Test.YthocenkedncoeaaXe
import Derived.Test.YthocenkedncoeaaLib
import Derived.Laws.EntriesVeiled
namespace Go.Proofs.Ythocenkedncoeaa
open Go.RowKit Go.ChangeMaps Bench06
/-- the blocks of BenchPossible while counts are tried: how many, the map, its box -/
structure PoL (g m n N sz : Nat) (f : List Int → Option Int) (w : World) : Prop where
  hn : ArrV VP w g 3 [.int .i64 (n : Int)]
  hm : MapF enc6 3 w m N sz f
  hx : ArrV VP w (m + 1) 40 [.map (some m)]
  ng : g < m
namespace PoL
variable {g m n N sz : Nat} {f : List Int → Option Int} {w w' : World}
theorem new (h : PoL g m n N sz f w) (hb : Below w.heap.size w w') : PoL g m n N sz f w' := ⟨h.hn.below hb, h.hm.below hb, h.hx.below hb, h.ng⟩
theorem put {N' sz' : Nat} {f' : List Int → Option Int} (h : PoL g m n N sz f w) (hg : w.grownBy w' (some m)) (hM : MapF enc6 3 w' m N' sz' f') : PoL g m n N' sz' f' w' :=
  ⟨h.hn.grown hg (by have := h.ng; simp; omega), hM, h.hx.grown hg (by simp), h.ng⟩
end PoL
theorem all_sub (n : Nat) : ∀ l ∈ goP n n [], l ∈ allP n := fun l h => h

set_option maxHeartbeats 8000000 in
set_option maxRecDepth 100000 in
theorem BenchPossible_u (b : Int) (w : World) (hb : 0 ≤ b ∧ b ≤ 255) : Calls Try.prog 7 #[.int .u8 b] w fun e w' => e = .returned (.bool true) ∧ Below w.heap.size w w' := by
  obtain ⟨n, hn, hn1, hn7⟩ : ∃ n : Nat, 1 + b % 6 = (n : Int) ∧ 1 ≤ n ∧ n < 7 := ⟨(1 + b % 6).toNat, by omega, by omega, by omega⟩
  obtain ⟨L1, L2⟩ := lcm_small n hn7 hn1
  have hper : Hid (∀ k, 1 ≤ k → ordL n (k + lcmTo n) = ordL n k) := Lib.hid (fun k hk => by have := ordL_period n k 1 hk; rwa [Nat.one_mul] at this)
  have hnew : Hid (∀ k, k < lcmTo n → metF n k (padP (ordL n (k + 1))) = none) := Lib.hid (fun k hk => met_new hn7 hn1 hk)
  have hall : Hid (∀ k, metF n (lcmTo n) = metF n k → True) := Lib.hid (fun _ _ => trivial)
  have hcom := Lib.hid (fun w => common_any n w hn1 hn7)
  obtain ⟨L, hL⟩ : ∃ L, lcmTo n = L := ⟨_, rfl⟩
  have HL := Lib.hid hL
  rw [hL] at L1 L2 hper hnew hcom
  have hord := Lib.hid (fun k => ordL_length n k)
  have hbd : Hid (∀ k, ∀ y ∈ ordL n k, 0 ≤ y ∧ y < (n : Int)) := Lib.hid (fun k y hy => (mem_rng n y).1 (ordL_mem n k y hy))
  clear hall hL
  go_enter Try.func7, Try.ntmps7
  go_wp2_with fail
  have A1 : ArrV VP (w.alloc (.cells #[.int .i64 (n : Int)] 3)) w.heap.size 3 [.int .i64 (n : Int)] := ArrV.new w _ _ _ _ rfl rfl
  have k1 : Below w.heap.size w (w.alloc (.cells #[.int .i64 (n : Int)] 3)) := (Below.refl _ w).alloc (Nat.le_refl _) _
  generalize w.alloc (.cells #[.int .i64 (n : Int)] 3) = w1 at *
  refine (Orders_ok _ _ (by omega) (by omega)).mono ?_
  rintro e w2 ⟨rfl, b2⟩
  rw [Int.toNat_natCast, HL.out]
  have A2 := A1.below b2
  have k2 := k1.trans (b2.mono k1.size)
  have z1 := cellP A2 0 rfl
  clear A1 k1 b2
  go_wp2_with fail
  refine (hcom.out _).mono ?_
  rintro e w3 ⟨rfl, b3⟩
  have A3 := A2.below b3
  have k3 := k2.trans (b3.mono k2.size)
  have hsz := A3.lt
  have hmk := @run_makeMap Try.prog
  clear A2 k2 b3 z1
  go_wp2_with fail
  have P0 : PoL w.heap.size w3.heap.size n 0 0 (metF n 0) ((w3.alloc (.map #[] 0)).alloc (.cells #[.map (some w3.heap.size)] 40)) :=
    ⟨(A3.alloc _).alloc _, (MapF.made (E := enc6) (e := 3) w3).alloc _, ArrV.new _ _ _ _ _ (by simp) rfl, hsz⟩
  have k4 : Below w.heap.size w ((w3.alloc (.map #[] 0)).alloc (.cells #[.map (some w3.heap.size)] 40)) := (k3.alloc k3.size _).alloc (by have := k3.size; simp; omega) _
  generalize ((w3.alloc (.map #[] 0)).alloc (.cells #[.map (some w3.heap.size)] 40)) = w4 at *
  have hmg := k3.size
  obtain ⟨m, hm⟩ : ∃ m, w3.heap.size = m := ⟨_, rfl⟩
  rw [hm] at P0 hsz hmg
  simp only [hm]
  clear A3 k3 hmk hm
  have P0' := Lib.hid P0
  clear P0
  go_loopw [8] (fun vk wr => ∃ (k sz : Nat), k ≤ L ∧ vk = .int .i64 ((k : Int) + 1) ∧ Hid (PoL w.heap.size m n k sz (metF n k) wr) ∧ Below w.heap.size w wr) (fun vk _ => L + 2 - (intOf vk).toNat)
  case atStart => exact ⟨0, 0, by omega, rfl, P0', k4⟩
  case round =>
    clear P0' k4
    obtain ⟨k, sz, hk, rfl, hP, hbl⟩ := hrel
    by_cases hlt : k < L
    · have q1 : (k : Int) + 1 ≤ (L : Int) := by omega
      have e1 : (((k + 1 : Nat)) : Int) = (k : Int) + 1 := by omega
      have e2 : ((k : Int) + 1).toNat = k + 1 := by omega
      have e3 : ((k : Int) + 1 + (L : Int)).toNat = (k + 1) + L := by omega
      have E2 := Lib.hid e2
      have E3 := Lib.hid e3
      have hC := counts_any n (k + 1) wr hn1 (by omega) (by omega) (by omega)
      rw [e1] at hC
      have HC := Lib.hid hC
      have z1 := cellP hP.out.hn 0 rfl
      clear e1 e2 e3 hC
      go_wp2_with fail
      refine HC.out.mono ?_
      rintro e w5 ⟨ao, co, at_, T, rfl, lo, _, _, b5⟩
      have P5 := hP.out.new b5
      have k5 := hbl.trans (b5.mono hbl.size)
      clear z1 HC b5
      have z1 := cellP P5.hn 0 rfl
      go_wp2_with fail
      refine (Order_ok _ _ _ (by omega) (by omega) (by omega) (by omega)).mono ?_
      rintro e w6 ⟨a1, c1, rfl, o1, b6⟩
      rw [Int.toNat_natCast, E2.out] at o1
      rw [Int.toNat_natCast]
      have P6 := P5.new b6
      have k6 := k5.trans (b6.mono k5.size)
      have lo6 := lo.below b6
      have l1 := o1.isL
      clear z1 b6 P5 k5 lo o1
      have z1 := cellP P6.hn 0 rfl
      have w9 : IntKind.i64.wrap ((k : Int) + 1 + (L : Int)) = (k : Int) + 1 + (L : Int) := IntWalk.i64_in _ (by omega)
      go_wp2_with fail
      refine (Order_ok _ _ _ (by omega) (by omega) (by omega) (by omega)).mono ?_
      rintro e w7 ⟨a2, c2, rfl, o2, b7⟩
      rw [Int.toNat_natCast, E3.out, hper.out _ (by omega)] at o2
      rw [Int.toNat_natCast]
      have P7 := P6.new b7
      have k7 := k6.trans (b7.mono k6.size)
      have lo7 := lo6.below b7
      have l17 := l1.below b7
      have l2 := o2.isL
      clear z1 b7 P6 k6 lo6 l1 o2 w9
      go_wp2_with fail
      refine (same_yes _ _ _ _ _ _ _ _ _ l17 lo7 rfl).mono ?_
      rintro e w8 ⟨rfl, b8⟩
      have P8 := P7.new b8
      have k8 := k7.trans (b8.mono k7.size)
      have lo8 := lo7.below b8
      have l28 := l2.below b8
      clear b8 P7 k7 lo7 l17 l2
      go_wp2_with fail
      refine (same_yes _ _ _ _ _ _ _ _ _ l28 lo8 rfl).mono ?_
      rintro e w10 ⟨rfl, b10⟩
      have P10 := P8.new b10
      have k10 := k8.trans (b10.mono k8.size)
      have l10 := lo8.below b10
      clear b10 P8 k8 lo8 l28
      obtain ⟨bo, oo, rfl, hb0, _⟩ := l10.cells (by omega)
      have hle := l10.le
      have hcap := l10.cap
      have hln := hord.out (k + 1)
      have hbb := hbd.out (k + 1)
      have hnw := hnew.out k hlt
      have hMS : Hid (metF n (k + 1) = fun y => if y = padP (ordL n (k + 1)) then some ((k : Int) + 1) else metF n k y) := Lib.hid (funext fun y => by rw [metF])
      obtain ⟨l, hl⟩ : ∃ l, ordL n (k + 1) = l := ⟨_, rfl⟩
      rw [hl] at l10 hln hbb hnw hMS
      have C4 : Hid (∀ j v, (l.map (Value.int .i64))[j]? = some v → (w10.alloc (.cells #[.int .i64 0, .int .i64 0, .int .i64 0, .int .i64 0, .int .i64 0, .int .i64 0] 43)).cell? ((⟨bo, oo, none⟩ : Addr).add j) = some v) := Lib.hid (fun j v hv => by
        have := news_of_isL l10 j v hv
        rw [((Below.refl w10.heap.size w10).alloc (Nat.le_refl _) _).cell (World.block_lt_of_cell? w10 _ this)]
        exact this)
      obtain ⟨y0, y1, y2, y3, y4, y5, hy⟩ := pad_six (l := l) (by rw [hln]; omega)
      have hkey := pad_ok hln (by omega) hbb
      rw [hy] at hnw hkey hMS
      have hpad := pad_splice l (by rw [hln]; omega)
      rw [hy] at hpad
      have C1 : Hid ((l.map (Value.int .i64)).length = Nat.min n 6) := Lib.hid (by rw [List.length_map, hln]; exact (Nat.min_eq_left (by omega)).symm)
      have C2 : Hid (0 + (l.map (Value.int .i64)).length ≤ (List.replicate 6 (Value.int .i64 0)).length) := Lib.hid (by rw [List.length_map, hln, List.length_replicate]; omega)
      have C3 : Hid (∀ v ∈ l.map (Value.int .i64), v.oneCell' = true) := Lib.hid (by intro v hv; obtain ⟨z, _, rfl⟩ := List.mem_map.1 hv; rfl)
      have HP := Lib.hid hpad
      have HK := Lib.hid hkey
      have HNW := Lib.hid hnw
      have P10' := Lib.hid P10
      clear hpad hkey hnw hy hln hbb hl l10 P10
      go_wp2_with (refine wpList_copy_splice rfl (.tmp 80) (.tmp 81) 22 22 rfl 3 Try.underlying22 cells3r (some ⟨w10.heap.size, 0, none⟩) (some ⟨bo, oo, none⟩) 6 6 n co rfl rfl w10.heap.size 0 (List.replicate 6 (Value.int .i64 0)) 43 (heap_alloc_new w10 _) (l.map (Value.int .i64)) C1.out (fun _ => ⟨rfl, ⟨bo, oo, none⟩, rfl, C4.out⟩) C2.out C3.out w10.heap.size w10 ((Below.refl w10.heap.size w10).alloc (Nat.le_refl _) _) (Nat.le_refl _) ?_)
      intro w11 hw11 b11
      have A11 : ArrV (Value.int .i64) w11 w10.heap.size 43 [y0, y1, y2, y3, y4, y5] := by
        have := hw11.out; rw [HP.out] at this; exact this
      have P11 := P10'.out.new b11
      have k11 := k10.trans (b11.mono k10.size)
      clear hw11 C1 C2 C3 C4 P10' k10 b11 HP
      have x0 := A11.cell 0 0 (by simp)
      have x1 := A11.cell 1 0 (by simp)
      have x2 := A11.cell 2 0 (by simp)
      have x3 := A11.cell 3 0 (by simp)
      have x4 := A11.cell 4 0 (by simp)
      have x5 := A11.cell 5 0 (by simp)
      simp only [List.getD, List.getElem?_cons_zero, List.getElem?_cons_succ, Option.getD_some] at x0 x1 x2 x3 x4 x5
      have z2 := cellP P11.hx 0 rfl
      have hlk : (Instr.lookup 40 (.map (some m)) (.agg #[.int .i64 y0, .int .i64 y1, .int .i64 y2, .int .i64 y3, .int .i64 y4, .int .i64 y5]) false).run Try.prog w11 = .ok (.int .i64 0) w11 := by
        have := MapF.run Try.underlying40 Try.underlying3 (by rfl) P11.hm [y0, y1, y2, y3, y4, y5] HK.out
        rw [HNW.out] at this
        exact this
      obtain ⟨w12, hup, hM12, hg12⟩ := MapF.update Try.underlying40 Try.underlying3 P11.hm (by unfold maxLen; omega) [y0, y1, y2, y3, y4, y5] HK.out ((k : Int) + 1) (WalkArith.wf_i64 (by omega))
      have hup : (Instr.mapUpdate 40 (.map (some m)) (.agg #[.int .i64 y0, .int .i64 y1, .int .i64 y2, .int .i64 y3, .int .i64 y4, .int .i64 y5]) (.int .i64 ((k : Int) + 1))).run Try.prog w11 = .ok () w12 := hup
      rw [← hMS.out] at hM12
      have P12 : Hid (PoL w.heap.size m n (k + 1) _ (metF n (k + 1)) w12) := Lib.hid (P11.put hg12 hM12)
      have k12 := k11.grown hg12 k11.size (fun q hq => by cases hq; exact hmg)
      clear P11 A11 k11 hg12 hM12
      go_wp2_with fail
      clear x0 x1 x2 x3 x4 x5 z2 hlk hup
      go_roundw
      case rel => first | exact ⟨k + 1, _, by omega, by go_num, P12, k12⟩ | ((repeat apply Exists.intro); exact ⟨⟨k + 1, _, by omega, by go_num, P12, k12⟩, rfl⟩)
      case measure => simp [intOf]; omega
    · obtain rfl : k = L := by omega
      have q1 : ¬ (k : Int) + 1 ≤ (k : Int) := by omega
      have P13 := hP.out
      rw [← HL.out] at P13
      have W0 : PoS w.heap.size m (m + 1) wr.heap.size (wr.heap.size + 1) n (lcmTo n) sz (metF n (lcmTo n)) ((wr.alloc (.cells #[.bool true] 4)).alloc (.cells #[.func (.func 39) #[] #[.pointer (some ⟨w.heap.size, 0, none⟩), .pointer (some ⟨wr.heap.size + 1, 0, none⟩), .pointer (some ⟨wr.heap.size, 0, none⟩), .pointer (some ⟨m + 1, 0, none⟩)]] 44)) := by
        refine ⟨(P13.hn.alloc _).alloc _, (P13.hm.alloc _).alloc _, (P13.hx.alloc _).alloc _, (ArrV.new (f := VP) wr #[.bool true] 4 [.bool true] wr.heap.size rfl rfl).alloc _, ArrV.new _ _ _ _ _ (by simp) rfl, ?_, ?_, ?_, by omega⟩
        · have := P13.hn.lt; omega
        · have := P13.hm.lt; omega
        · have := P13.hx.lt; omega
      have k13 : Below w.heap.size w ((wr.alloc (.cells #[.bool true] 4)).alloc (.cells #[.func (.func 39) #[] #[.pointer (some ⟨w.heap.size, 0, none⟩), .pointer (some ⟨wr.heap.size + 1, 0, none⟩), .pointer (some ⟨wr.heap.size, 0, none⟩), .pointer (some ⟨m + 1, 0, none⟩)]] 44)) := (hbl.alloc hbl.size _).alloc (by have := hbl.size; simp; omega) _
      have hbs := hbl.size
      obtain ⟨p, hp⟩ : ∃ p, wr.heap.size = p := ⟨_, rfl⟩
      have W0' := Lib.hid W0
      have K13 := Lib.hid k13
      clear W0 k13 hP P13 hp
      go_wp2_with fail
      refine (poss_put w.heap.size m (m + 1) wr.heap.size (wr.heap.size + 1) n (lcmTo n) sz hn7 hn1 n [] none 0 _ (by simp) (all_sub n) W0'.out (IsL.nilL _) (by simp)).mono ?_
      rintro e w20 ⟨rfl, g20, A20⟩
      have k20 := K13.out.grown g20 K13.out.size (fun q hq => by cases hq; exact hbs)
      have z9 := cellP A20 0 rfl
      clear g20 W0' K13 A20 hbs
      go_wp2_with fail
      refine (works_any _).mono ?_
      rintro e w21 ⟨rfl, b21⟩
      have k21 := k20.trans (b21.mono k20.size)
      go_wp2
      go_ret
      exact ⟨rfl, k21⟩
theorem BenchPossible_any (a0 : Int) (w0 : (Lit.int .u8 a0).wf = true) (w : World) : Calls Try.prog 7 #[.int .u8 a0] w fun e w' => e = .returned (.bool true) ∧ Below w.heap.size w w' :=
  BenchPossible_u a0 w (by simp [Lit.wf, IntKind.min, IntKind.max, IntKind.signed, IntKind.bits] at w0; omega)
end Go.Proofs.Ythocenkedncoeaa
