/- TopSpaced: the law. -/
import Derived.Test.YtpfaoagddgcmbaaDoorBn
import Derived.RegionTactic
import Derived.BigRegion
import Derived.Deep.RegionWith
import Derived.Deep.RegionLaw
import Derived.Shelf.RegionOpenPlain
import Derived.StillTailTactics
import Derived.Deep.RegionHeld3
namespace Go.Proofs.YtpfaoagddgcmbaaDoor
open Go.RowKit Heap02 Grade03
set_option maxRecDepth 100000
section
variable {P : Program} {t e : TypeId} (ht : P.underlying t = some (.slice e))
  (he : (P.info? e).map (fun i => (i.zero, i.size, i.bytes)) = some (some (.agg #[.int .i64 0, .int .i64 0]), 2, 16))
include ht he
theorem step_app_heap8 {w : World} {ops : Array Oper} {o : Oper} {ac : Act} {K : Act → World → Prop} {Q : Exit → Act → World → Prop} {E : Prop} (B : Nat) {a : Option Addr} {n c g : Nat} {A : List Hp} (x y : Int)
    (s z : Operand) (hg : o.guard = none) (ho : o.op = .call { callee := .builtin .append, args := #[s, z], argTypes := #[t, t] })
    (hs : ac.eval s = .slice a n c) (hz : ac.eval z = .slice (some ⟨g, 0, none⟩) 1 1) (h : OwnP w e B a n c A) (h0 : w.cell? ⟨g, 0, none⟩ = some (.int .i64 x)) (h1 : w.cell? ⟨g, 1, none⟩ = some (.int .i64 y)) (hB : B ≤ w.heap.size) (hsmall : n + 1 ≤ 1000000)
    (hK : ∀ a2 c2 w', OwnP w' e B a2 (n + 1) c2 (A ++ [(x, y)]) → w.grownBy w' (Value.slice a n c).ownBlock → Below B w w' → K (ac.put o.dst (.slice a2 (n + 1) c2)) w') :
    if Region.wanted o (yielded ops ac.tmps) = true then Oper.wp P o ac w K Q else E := by
  have hw : Region.wanted o (yielded ops ac.tmps) = true := by simp [Region.wanted, hg]
  rw [if_pos hw]
  obtain ⟨a2, c2, w', hr, h2, h3, h4, h5⟩ := run_app_heap ht he w B o.type a n c g A x y h h0 h1 hB hsmall
  unfold Oper.wp
  simp [execOp, ho, resolve, invoke, builtin, hs, hz, hr, Result.andThen]
  exact hK _ _ _ h2 h4 ((Below.refl _ _).grown h4 hB (fun k hk => (World.ownsRow.lt h k hk).1))
end
/-- rows of two types lie in two blocks -/
theorem own_sep {w : World} {e e' B B' : Nat} {a a' : Option Addr} {n n' c c' : Nat} {l : List Int} {A : List Hp} (hne : e ≠ e') (h : OwnL w e B a n c l) (h' : OwnP w e' B' a' n' c' A) : Sep a a' := by
  rintro x y rfl rfl hxy
  rcases h.2 with ⟨hv, _⟩ | ⟨g, cap, cur, hv, _, hb, _⟩
  · cases hv
  · rcases h'.2 with ⟨hv', _⟩ | ⟨g', cap', cur', hv', _, hb', _⟩
    · cases hv'
    · cases hv
      cases hv'
      simp only [] at hxy
      subst hxy
      rw [hb] at hb'
      simp at hb'
      exact hne hb'.2
theorem sep_flip {a o : Option Addr} (h : Sep a o) : Sep o a := h.symm
set_option maxHeartbeats 8000000 in
theorem TopSpaced_any (bx kx : Int) (w : World) (hT : Tab w) (hb0 : 0 ≤ bx ∧ bx < 256) (hk0 : 0 ≤ kx ∧ kx < 256) :
    Calls Tryd.prog 6 #[.int .u8 bx, .int .u8 kx] w fun e w' => e = .returned (.bool true) ∧ Below w.heap.size w w' := by
  obtain ⟨hb00, hb01⟩ := hb0
  obtain ⟨hk00, hk01⟩ := hk0
  have m1 := Int.emod_nonneg bx (b := 16) (by omega)
  have m2 := Int.emod_lt_of_pos bx (b := 16) (by omega)
  obtain ⟨n, hn⟩ : ∃ n : Nat, 1 + bx % 16 = (n : Int) := ⟨(1 + bx % 16).toNat, by omega⟩
  have n1 : 1 ≤ n := by omega
  have n16 : n ≤ 16 := by omega
  have w1 : IntKind.i64.wrap (1 + bx % 16) = (n : Int) := by rw [hn]; exact IntWalk.i64_in _ (by omega)
  obtain ⟨mn, hmn⟩ : ∃ mn, min (n : Int) 10 = mn := ⟨_, rfl⟩
  have mn1 : 1 ≤ mn ∧ mn ≤ 10 ∧ mn ≤ n := by rw [← hmn]; omega
  obtain ⟨mn1, mn2, mn3⟩ := mn1
  have m3 := Int.emod_nonneg kx (b := mn) (by omega)
  have m4 := Int.emod_lt_of_pos kx (b := mn) (by omega)
  obtain ⟨k, hk⟩ : ∃ k : Nat, 1 + kx % mn = (k : Int) := ⟨(1 + kx % mn).toNat, by omega⟩
  have k1 : 1 ≤ k := by omega
  have k10 : k ≤ 10 := by omega
  have kn : k ≤ n := by omega
  have w2 : IntKind.i64.wrap (1 + kx % mn) = (k : Int) := by rw [hk]; exact IntWalk.i64_in _ (by omega)
  have q0 : (0 : Int) < mn := by omega
  have HT := Lib.hid hT
  have mixed : Tryd.prog.follows Departure.mixedOrders = true := by kernel_rfl
  clear m1 m2 m3 m4 hn hT hk
  go_enter Tryd.func6, Tryd.ntmps6
  go_wp2_with fail
  clear hmn w1 w2 q0 mn1 mn2 mn3
  go_loopw [27, 8, 7] (fun vi vp vh wr => ∃ (j : Nat) (ap : Option Addr) (cp : Nat) (ah : Option Addr) (ch : Nat), j ≤ k ∧ vi = .int .i64 (j : Int) ∧ vp = .slice ap j cp ∧ vh = .slice ah j ch ∧ Hid (OwnL wr 3 w.heap.size ap j cp (spL n k j)) ∧ Hid (OwnP wr 27 w.heap.size ah j ch (spH n k j)) ∧ Below w.heap.size w wr) (fun vi _ _ _ => k - (intOf vi).toNat)
  case atStart => exact ⟨0, none, 0, none, 0, by omega, rfl, rfl, rfl, Lib.hid (OwnL.nilL _ _ _), Lib.hid (OwnP.nilP _ _ _), Below.refl _ _⟩
  case round =>
    obtain ⟨j, ap, cp, ah, ch, hj, rfl, rfl, rfl, hP, hH, kr⟩ := hrel
    have w9 : IntKind.i64.wrap ((j : Int) + 1) = (j : Int) + 1 := IntWalk.i64_in _ (by omega)
    have hsr := kr.size
    by_cases hlt : j < k
    · have q1 : (j : Int) < (k : Int) := by omega
      have HPL := Lib.hid (fun w => Place_ok n k j w n16 k1 kn k10 hlt)
      have hone := (sp_facts n16 k1 kn k10 hlt).one
      have HPN := Lib.hid (spL_next n k j)
      have HHN := Lib.hid (spH_next n k j)
      have hp : spP n k j = ((j + 1) * n + k - 1) / k - 1 := rfl
      have hf : spF n k j = j * n / k := rfl
      have hx : spX n k j = ((spF n k j : Int), (spP n k j : Int)) := rfl
      obtain ⟨P, hPe⟩ : ∃ P, spP n k j = P := ⟨_, rfl⟩
      obtain ⟨F, hFe⟩ : ∃ F, spF n k j = F := ⟨_, rfl⟩
      rw [hPe] at HPL HPN hp hx
      rw [hFe] at hf hx
      rw [hx] at HHN
      obtain ⟨m, hm⟩ : ∃ m, (j + 1) * n = m := ⟨_, rfl⟩
      have hm2 : m ≤ 10 * 16 := by rw [← hm]; exact Nat.mul_le_mul (by omega) n16
      obtain ⟨m0, hm0⟩ : ∃ m0, j * n = m0 := ⟨_, rfl⟩
      have hm3 : m0 ≤ 10 * 16 := by rw [← hm0]; exact Nat.mul_le_mul (by omega) n16
      rw [hm] at hone hp
      rw [hm0] at hf
      obtain ⟨q, hq⟩ : ∃ q, (m + k - 1) / k = q := ⟨_, rfl⟩
      rw [hq] at hone hp
      have hqb : q ≤ 200 := by rw [← hq]; exact Nat.le_trans (Nat.div_le_self _ _) (by omega)
      have hFb : F ≤ 200 := by rw [hf]; exact Nat.le_trans (Nat.div_le_self _ _) (by omega)
      have HQ : Hid ((P : Int) = (q : Int) - 1) := Lib.hid (by omega)
      obtain ⟨m5, hm5⟩ : ∃ m5, m + k - 1 = m5 := ⟨_, rfl⟩
      have u1 : IntKind.i64.wrap ((j : Int) * (n : Int)) = (m0 : Int) := by
        have : (j : Int) * (n : Int) = (m0 : Int) := by rw [← hm0]; push_cast; rfl
        rw [this]; exact IntWalk.i64_in _ (by omega)
      have u2 : IntKind.i64.wrap (((j : Int) + 1) * (n : Int)) = (m : Int) := by
        have : ((j : Int) + 1) * (n : Int) = (m : Int) := by rw [← hm]; push_cast; rfl
        rw [this]; exact IntWalk.i64_in _ (by omega)
      have u3 : IntKind.i64.wrap ((m : Int) + (k : Int)) = (m : Int) + (k : Int) := IntWalk.i64_in _ (by omega)
      have u4 : IntKind.i64.wrap ((m : Int) + (k : Int) - 1) = (m5 : Int) := by rw [IntWalk.i64_in _ (by omega)]; omega
      have q2 : (0 : Int) < (k : Int) := by omega
      have q3 : ¬ (k : Int) = 0 := by omega
      have q4 : ¬ k = 0 := by omega
      have d1 : (m0 : Int).tdiv (k : Int) = (F : Int) := by rw [Int.tdiv_eq_ediv_of_nonneg (by omega), hf]; omega
      have d2 : (m5 : Int).tdiv (k : Int) = (q : Int) := by rw [Int.tdiv_eq_ediv_of_nonneg (by omega), ← hm5, ← hq]; omega
      have d3 : (m0 : Int) / (k : Int) = (F : Int) := by rw [hf]; omega
      have d4 : (m5 : Int) / (k : Int) = (q : Int) := by rw [← hm5, ← hq]; omega
      have u5 : IntKind.i64.wrap (F : Int) = (F : Int) := IntWalk.i64_in _ (by omega)
      have u6 : IntKind.i64.wrap (q : Int) = (q : Int) := IntWalk.i64_in _ (by omega)
      have u7 : IntKind.i64.wrap ((q : Int) - 1) = (q : Int) - 1 := IntWalk.i64_in _ (by omega)
      have U : Hid (IntKind.i64.wrap ((j : Int) * (n : Int)) = (m0 : Int) ∧ IntKind.i64.wrap (((j : Int) + 1) * (n : Int)) = (m : Int) ∧ IntKind.i64.wrap ((m : Int) + (k : Int)) = (m : Int) + (k : Int) ∧ IntKind.i64.wrap ((m : Int) + (k : Int) - 1) = (m5 : Int) ∧ (m0 : Int).tdiv (k : Int) = (F : Int) ∧ (m5 : Int).tdiv (k : Int) = (q : Int) ∧ (m0 : Int) / (k : Int) = (F : Int) ∧ (m5 : Int) / (k : Int) = (q : Int) ∧ IntKind.i64.wrap (F : Int) = (F : Int) ∧ IntKind.i64.wrap (q : Int) = (q : Int) ∧ IntKind.i64.wrap ((q : Int) - 1) = (q : Int) - 1) := Lib.hid ⟨u1, u2, u3, u4, d1, d2, d3, d4, u5, u6, u7⟩
      have hO1 := hP.out
      have hj10 : j + 1 ≤ 1000000 := by omega
      clear hp hf hx hPe hFe hm hm0 hq hm5 hone hm2 hm3 u1 u2 u3 u4 d1 d2 d3 d4 u5 u6 u7 hP
      go_wp2_with fail
      refine (HPL.out _).mono ?_
      rintro e x1 ⟨rfl, rfl⟩
      go_wp2_with (at_builtin; refine wl_app_own Tryd.underlying23 elem3 w.heap.size (.tmp 39) (.tmp 41) rfl rfl rfl rfl (hO1.alloc _) (isL_oneAt _ _ 3 _ rfl) (by simp; omega) (by omega) ?_)
      intro a5 c5 x5 o5 g5 b5 v5
      have hP5 : Hid (OwnL x5 3 w.heap.size a5 (j + 1) c5 (spL n k (j + 1))) := Lib.hid (by rw [HPN.out]; exact o5)
      have hH5 : OwnP x5 27 w.heap.size ah j ch (spH n k j) := OwnP.grownP (hH.out.alloc _) g5 (sep_flip (own_sep (w := wr) (by decide) hO1 hH.out))
      have kr5 := (kr.alloc hsr (.cells #[.int .i64 (P : Int)] 3)).trans b5
      clear o5 g5 b5 v5 hO1 kr hH
      have hO9 := (hH5.alloc (.cells #[.int .i64 (F : Int), .int .i64 ((q : Int) - 1)] 27)).drew
      have c9 : (x5.alloc (.cells #[.int .i64 (F : Int), .int .i64 ((q : Int) - 1)] 27)).drew.cell? ⟨x5.heap.size, 0, none⟩ = some (.int .i64 (F : Int)) := by simp [go_sem]
      have c10 : (x5.alloc (.cells #[.int .i64 (F : Int), .int .i64 ((q : Int) - 1)] 27)).drew.cell? ⟨x5.heap.size, 1, none⟩ = some (.int .i64 ((q : Int) - 1)) := by simp [go_sem]
      have hB9 : w.heap.size ≤ (x5.alloc (.cells #[.int .i64 (F : Int), .int .i64 ((q : Int) - 1)] 27)).drew.heap.size := by have := kr5.size; simp; omega
      have kr9 := (kr5.alloc kr5.size (.cells #[.int .i64 (F : Int), .int .i64 ((q : Int) - 1)] 27)).drew
      have HO9 := Lib.hid hO9
      have HB9 := Lib.hid hB9
      have HKR9 := Lib.hid kr9
      have HH5 := Lib.hid hH5
      clear hO9 hB9 kr9 hH5 kr5
      go_wp2_with fail
      obtain ⟨u1, u2, u3, u4, d1, d2, d3, d4, u5, u6, u7⟩ := U.out
      go_region_law (first | (refine step_app_heap8 Tryd.underlying25 info27 w.heap.size (F : Int) ((q : Int) - 1) (.tmp 43) (.tmp 60) ?_ ?_ ?_ ?_ HO9.out c9 c10 HB9.out hj10 ?_; rfl; rfl; rfl; rfl; intro a11 c11 w11 o11 g11 b11))
      all_goals
        clear u1 u2 u3 u4 d1 d2 d3 d4 u5 u6 u7 c9 c10
        have HH11 : Hid (OwnP w11 27 w.heap.size a11 (j + 1) c11 (spH n k (j + 1))) := Lib.hid (by rw [HHN.out, HQ.out]; exact o11)
        have HP11 : Hid (OwnL w11 3 w.heap.size a5 (j + 1) c5 (spL n k (j + 1))) := Lib.hid (OwnL.grown ((hP5.out.alloc _).drew) g11 (own_sep (w := x5) (by decide) hP5.out HH5.out))
        have kr11 := HKR9.out.trans b11
        clear o11 g11 b11
        go_wp2_with fail
        exact ⟨⟨j + 1, a5, c5, a11, c11, by omega, by go_num, rfl, rfl, HP11, HH11, kr11⟩, by simp [intOf]; omega⟩
    · obtain rfl : j = k := by omega
      have hL := hP.out.isL
      have hHh := hH.out.isH
      have HOK := Lib.hid (sp_ok n16 k1 kn k10)
      have HF := Lib.hid (sp_feas n16 k1 kn k10)
      have HPN := Lib.hid (sp_plan n16 k1 kn k10)
      have HEND : Hid (∀ E, EndH (spH n j j) E → E ≤ (n : Int) - 1 ∧ (((j - 1) * n / j : Nat) : Int) ≤ E ∧ 0 ≤ E) := Lib.hid (fun E hE => ⟨(sp_end hE n16 k1 kn k10).1, (sp_end hE n16 k1 kn k10).2, hE.pos⟩)
      obtain ⟨kk, hkk⟩ : ∃ kk, j - 1 = kk := ⟨_, rfl⟩
      rw [hkk] at HEND
      have HV : Hid ((spL n j j).getD kk 0 = (n : Int) - 1) := Lib.hid (by
        rw [spL_get (by omega)]
        have := (sp_facts n16 k1 kn k10 (show kk < j by omega)).last (by omega)
        omega)
      have w3 : IntKind.i64.wrap ((j : Int) - 1) = (kk : Int) := by rw [IntWalk.i64_in _ (by omega)]; omega
      have w4 : IntKind.i64.wrap ((n : Int) - 1) = (n : Int) - 1 := IntWalk.i64_in _ (by omega)
      have q1 : (kk : Int) < (j : Int) := by omega
      have q1' : kk < j := by omega
      obtain ⟨m1, hm1⟩ : ∃ m1, kk * n = m1 := ⟨_, rfl⟩
      have hm2 : m1 ≤ 10 * 16 := by rw [← hm1]; exact Nat.mul_le_mul (by omega) n16
      rw [hm1] at HEND
      have u1 : IntKind.i64.wrap ((kk : Int) * (n : Int)) = (m1 : Int) := by
        have : (kk : Int) * (n : Int) = (m1 : Int) := by rw [← hm1]; push_cast; rfl
        rw [this]; exact IntWalk.i64_in _ (by omega)
      have q2 : (0 : Int) < (j : Int) := by omega
      obtain ⟨F1, hF1⟩ : ∃ F1, m1 / j = F1 := ⟨_, rfl⟩
      rw [hF1] at HEND
      have hFb : F1 ≤ 200 := by rw [← hF1]; exact Nat.le_trans (Nat.div_le_self _ _) (by omega)
      have d1 : (m1 : Int) / (j : Int) = (F1 : Int) := by rw [← hF1]; omega
      have HU1 := Lib.hid u1
      have HD1 := Lib.hid d1
      have HW3 := Lib.hid w3
      have HW4 := Lib.hid w4
      clear hkk hm1 hF1 hm2 hP hH u1 d1 w3 w4
      go_wp2_with fail
      refine (Fewest_any _ _ _ _ wr hHh k1 k10 HOK.out HF.out).mono ?_
      rintro e w12 ⟨rfl, b12⟩
      have hH12 := hHh.below b12
      have hL12 := hL.below b12
      have k12 := kr.trans (b12.mono kr.size)
      clear hHh hL kr b12
      go_wp2_with fail
      refine (Finish_any _ _ _ _ w12 hH12 k1 k10 HOK.out HF.out).mono ?_
      rintro e w13 ⟨E, rfl, b13, hE⟩
      obtain ⟨e1, e2, e3⟩ := HEND.out E hE
      have hH13 := hH12.below b13
      have hL13 := hL12.below b13
      have k13 := k12.trans (b13.mono k12.size)
      clear hH12 hL12 k12 b13 hE
      go_wp2_with fail
      refine (Verify_any _ _ _ _ _ _ _ w13 hH13 hL13 k10 HOK.out HPN.out).mono ?_
      rintro e w14 ⟨rfl, b14⟩
      have hL14 := hL13.below b14
      have k14 := k13.trans (b14.mono k13.size)
      have hcap := hL14.cap
      have hle := hL14.le
      obtain ⟨b', o', rfl, _, hcell⟩ := hL14.cells (by omega)
      have c1 := hcell kk q1'
      rw [HV.out] at c1
      have u1 := HU1.out
      have d1 := HD1.out
      have w3 := HW3.out
      have w4 := HW4.out
      have q3 : (((n : Int) - 1) == ((n : Int) - 1)) = true := by simp
      clear hcell hL13 hL14 hH13 k13 b14
      go_wp2_with fail
      refine (bandWorks_any _ (HT.out.below k14)).mono ?_
      rintro e w15 ⟨rfl, b15⟩
      have k15 := k14.trans (b15.mono k14.size)
      go_wp2_with fail
      go_ret
      exact ⟨rfl, k15⟩
end Go.Proofs.YtpfaoagddgcmbaaDoor
