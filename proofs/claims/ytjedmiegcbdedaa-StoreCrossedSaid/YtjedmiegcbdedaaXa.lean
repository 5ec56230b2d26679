/- Walks of chapter 11: all divisions. -/
import Derived.Test.YtjedmiegcbdedaaWe
import Derived.Test.YtjedmiegcbdedaaWf
import Derived.Test.YtjedmiegcbdedaaPk
import Derived.Test.YtjedmiegcbdedaaLib7
import Derived.Laws.EntriesVeiled
import Derived.IntWalk
namespace Go.Proofs.Ytjedmiegcbdedaa
open Go.RowKit Store11

theorem Clip_any (a : Option Addr) (n c : Nat) (w : World) (hn : n ≤ c) (hc : c ≤ 9223372036854775807) : Calls Try.prog 86 #[.slice a n c] w fun e w' => e = .returned (.slice a n n) ∧ w = w' := by
  have h1 : (n : Int) ≤ (c : Int) := by omega
  go_enter Try.func86, Try.ntmps86
  go_wp2
  go_ret
  exact ⟨rfl, rfl⟩
theorem Above.trans {B : Nat} {w w1 w2 : World} (h : Above B w w1) (h' : Above B w1 w2) : Above B w w2 :=
  ⟨Nat.le_trans h.size h'.size, fun k hk hk2 => (h'.block k hk (Nat.lt_of_lt_of_le hk2 h.size)).trans (h.block k hk hk2)⟩
theorem IsL.above {w w' : World} {a : Option Addr} {n c B : Nat} {l : List Int} (h : IsL w a n c l) (hA : Above B w w') (hB : ∀ x, a = some x → B ≤ x.block) : IsL w' a n c l := by
  refine ⟨h.len, h.le, h.cap, h.nil, fun hp => ?_⟩
  obtain ⟨b, o, ha, hb, hc⟩ := h.cells hp
  refine ⟨b, o, ha, Nat.lt_of_lt_of_le hb hA.size, fun i hi => ?_⟩
  rw [World.cell?_of_block (w := w) (hA.block b (hB _ ha) hb)]
  exact hc i hi
theorem Above.cell {w w' : World} {B : Nat} (hA : Above B w w') {p : Addr} (hB : B ≤ p.block) {v : Value} (h : w.cell? p = some v) : w'.cell? p = some v := by
  rw [World.cell?_of_block (w := w) (hA.block _ hB (World.block_lt_of_cell? w _ h))]; exact h

theorem IsL.clip {w : World} {a : Option Addr} {n c : Nat} {l : List Int} (h : IsL w a n c l) : IsL w a n n l :=
  ⟨h.len, Nat.le_refl _, Nat.le_trans h.le h.cap, fun ha => by have := h.nil ha; have := h.le; omega, h.cells⟩

set_option maxHeartbeats 4000000 in
set_option maxRecDepth 100000 in
theorem put_all (n B np ep pp : Nat) (F : Nat) (caps : Array Value) (total : List (List Int)) (Inv : Nat → World → Prop) (hn : n ≤ 20) (hBn : B ≤ np) (hBe : B ≤ ep) (hBp : B ≤ pp)
    (hcf : ∀ (args : Array Value) (w : World), (callFunc F args).run Try.prog w = .ok (.enter F args) w)
    (stab : Hid (∀ i w1 w2, Inv i w1 → Below B w1 w2 → Inv i w2))
    (heach : Hid (∀ (i : Nat) (l : List Int) w1 a m c, total[i]? = some l → Inv i w1 → IsL w1 a m c l → (∀ x, a = some x → B ≤ x.block) → B ≤ w1.heap.size → Calls Try.prog F (#[.slice a m c] ++ caps) w1 fun e w2 => e = .returned (.tuple #[]) ∧ Inv (i + 1) w2 ∧ Above B w1 w2)) :
    ∀ (m : Nat) (pre : List Int) (k i : Nat) (a : Option Addr) (c : Nat) (w : World), m + pre.length = n → k ≤ pre.length → (∀ t, t < (goL m pre k).length → total[i + t]? = (goL m pre k)[t]?) → Inv i w → IsL w a pre.length c pre → (∀ x, a = some x → B ≤ x.block) → B ≤ w.heap.size →
      w.cell? ⟨np, 0, none⟩ = some (.int .i64 n) → w.cell? ⟨ep, 0, none⟩ = some (.func (.func F) #[] caps) → w.cell? ⟨pp, 0, none⟩ = some (.func (.func 85) #[] #[.pointer (some ⟨np, 0, none⟩), .pointer (some ⟨ep, 0, none⟩), .pointer (some ⟨pp, 0, none⟩)]) →
      Calls Try.prog 85 #[.slice a pre.length c, .int .i64 k, .pointer (some ⟨np, 0, none⟩), .pointer (some ⟨ep, 0, none⟩), .pointer (some ⟨pp, 0, none⟩)] w fun e w' => e = .returned (.tuple #[]) ∧ Inv (i + (goL m pre k).length) w' ∧ Above B w w' := by
  intro m
  induction m with
  | zero =>
    intro pre k i a c w hmp hk ht hI hL hA hBw c1 c2 c3
    have hcl := heach.out i pre w a pre.length c (by have := ht 0 (by simp [goL]); simpa [goL] using this) hI hL hA hBw
    have HC := Lib.hid hcl
    have hpn : pre.length = n := by omega
    have HT : Hid (i + (goL 0 pre k).length = i + 1) := Lib.hid (by simp [goL])
    rw [hpn] at HC ⊢
    have e1 : ((n : Int) == (n : Int)) = true := by simp
    clear hcl hmp hpn ht heach stab hL
    go_enter Try.func85, Try.ntmps85
    go_wp2_with fail
    refine HC.out.mono ?_
    rintro e w2 ⟨rfl, hI2, hA2⟩
    go_wp2
    (try simp only [Exit.inBlock, Exit.then])
    refine bodyPost_ret (results_none rfl _ _ _) rfl ?_
    exact ⟨rfl, by rw [HT.out]; exact hI2, hA2⟩
  | succ m ih =>
    intro pre k i a c w hmp hk ht hI hL hA hBw c1 c2 c3
    have hcap := hL.cap
    have hle := hL.le
    have e1 : ((pre.length : Int) == (n : Int)) = false := by simp; omega
    have HL := Lib.hid hL
    have HA := Lib.hid hA
    have HIH := Lib.hid ih
    have HT := Lib.hid ht
    have H0 : Hid (offL m pre k 0 = 0) := Lib.hid rfl
    obtain ⟨j, hj⟩ : ∃ j, pre.length = j := ⟨_, rfl⟩
    have HJ := Lib.hid hj
    rw [hj] at hmp hk hle e1 ⊢
    clear ih ht hL hA hj heach
    go_enter Try.func85, Try.ntmps85
    go_wp2_with fail
    go_loopw [7] (fun vr wr => ∃ r : Nat, r ≤ k + 1 ∧ vr = .int .i64 (r : Int) ∧ Inv (i + offL m pre k r) wr ∧ Above B w wr) (fun vr _ => 50 - (intOf vr).toNat)
    case atStart => exact ⟨0, by omega, rfl, by rw [H0.out]; exact hI, Above.refl _ _⟩
    case round =>
      clear hI
      obtain ⟨r, hr, rfl, hI, hAb⟩ := hrel
      have hBr : B ≤ wr.heap.size := Nat.le_trans hBw hAb.size
      have z1 := hAb.cell hBn c1
      have z2 := hAb.cell hBe c2
      have z3 := hAb.cell hBp c3
      by_cases hrk : r ≤ k
      · have hI0 := HL.out.above hAb HA.out
        rw [HJ.out] at hI0
        have HI0 := Lib.hid hI0
        have HS : Hid (∀ a2 c2 w2 (kk : Nat) (q : Int), kk = max k (r + 1) → q = (kk : Int) → Below wr.heap.size wr w2 → IsL w2 a2 (j + 1) c2 (pre ++ [(r : Int)]) → (∀ x, a2 = some x → B ≤ x.block) →
            Calls Try.prog 85 #[.slice a2 (j + 1) c2, .int .i64 q, .pointer (some ⟨np, 0, none⟩), .pointer (some ⟨ep, 0, none⟩), .pointer (some ⟨pp, 0, none⟩)] w2 fun e w' => e = .returned (.tuple #[]) ∧ Inv (i + offL m pre k (r + 1)) w' ∧ Above B wr w') := Lib.hid (by
          intro a2 c2 w2 kk q hkk hq hb hi ha2
          subst hq
          subst hkk
          have hlen : (pre ++ [(r : Int)]).length = j + 1 := by simp [HJ.out]
          have hlp : ∀ (p : Nat) v, wr.cell? ⟨p, 0, none⟩ = some v → w2.cell? ⟨p, 0, none⟩ = some v := fun p v hv => by
            rw [hb.cell (p := ⟨p, 0, none⟩) (World.block_lt_of_cell? wr _ hv)]; exact hv
          have := HIH.out (pre ++ [(r : Int)]) (max k (r + 1)) (i + offL m pre k r) a2 c2 w2 (by rw [hlen]; omega) (by rw [hlen]; omega) (fun t ht' => by
            have h1 := HT.out (offL m pre k r + t) (by
              have := goL_get m pre k r hrk t ht'
              rw [List.getElem?_eq_getElem ht'] at this
              exact (List.getElem?_eq_some_iff.1 this).1)
            rw [goL_get m pre k r hrk t ht'] at h1
            rw [← h1, Nat.add_assoc]) (stab.out _ _ _ hI (hb.mono hBr)) (by rw [hlen]; exact hi) ha2 (Nat.le_trans hBr hb.size) (hlp _ _ z1) (hlp _ _ z2) (hlp _ _ z3)
          rw [hlen] at this
          refine this.mono ?_
          rintro e w' ⟨h1, h2, h3⟩
          refine ⟨h1, ?_, (Above.of_below hb).trans h3⟩
          rw [offL_succ, ← Nat.add_assoc]; exact h2)
        have hal : Below wr.heap.size wr (wr.alloc (.cells #[.int .i64 (r : Int)] 3)).drew := (((Below.refl _ wr)).alloc (Nat.le_refl _) _).drew
        have HO : Hid (IsL (wr.alloc (.cells #[.int .i64 (r : Int)] 3)).drew (some ⟨wr.heap.size, 0, none⟩) 1 1 [(r : Int)]) := Lib.hid (isL_oneAt wr (r : Int) 3 wr.heap.size rfl).drew
        have HAL := Lib.hid hal
        have hzz := World.block_lt_of_cell? wr _ z3
        have w9 : IntKind.i64.wrap ((r : Int) + 1) = (r : Int) + 1 := IntWalk.i64_in _ (by omega)
        have z4 : (wr.alloc (.cells #[.int .i64 (r : Int)] 3)).drew.cell? ⟨pp, 0, none⟩ = some (.func (.func 85) #[] #[.pointer (some ⟨np, 0, none⟩), .pointer (some ⟨ep, 0, none⟩), .pointer (some ⟨pp, 0, none⟩)]) := (hal.cell (p := ⟨pp, 0, none⟩) hzz).trans z3
        have hzz4 : pp < (wr.alloc (.cells #[.int .i64 (r : Int)] 3)).drew.heap.size := World.block_lt_of_cell? _ _ z4
        have HI0 := Lib.hid hI0.clip
        have HV : Hid (∀ x : Addr, ((∃ y, a = some y ∧ y.block = x.block) ∨ (wr.alloc (.cells #[.int .i64 (r : Int)] 3)).drew.heap.size ≤ x.block) → B ≤ x.block) := Lib.hid fun x hx => by
          rcases hx with ⟨y, hy, he⟩ | hx
          · rw [← he]; exact HA.out y hy
          · exact Nat.le_trans hBr (Nat.le_trans hal.size hx)
        have hn9 : (n : Int) ≤ 20 := by omega
        have hsm : j + 1 ≤ 17592186044416 := by omega
        have hr0 : (0 : Int) ≤ (r : Int) + 1 := by omega
        have hle2 : (j : Int) ≤ (c : Int) := by omega
        have hc9 : c ≤ 9223372036854775807 := by omega
        clear hI0 hal c1 c2 c3 z1 z2
        clear hc9 hle2 hn9
        obtain ⟨kk, hkk⟩ : ∃ kk, kk = max k (r + 1) := ⟨_, rfl⟩
        have hq : (if (k : Int) < (r : Int) + 1 then (r : Int) + 1 else (k : Int)) = (kk : Int) := by split <;> omega
        have HKK := Lib.hid hkk
        clear hkk
        have HG := hBr
        go_wp2_with fail
        go_region_held3 (fun w' => w'.cell? ⟨pp, 0, none⟩ = some (.func (.func 85) #[] #[.pointer (some ⟨np, 0, none⟩), .pointer (some ⟨ep, 0, none⟩), .pointer (some ⟨pp, 0, none⟩)])) (first | go_keep | exact hb3.cell (p := ⟨pp, 0, none⟩) hzz4 |>.trans z4 | exact hA4.cell hBp z3)
          (first
            | (go_at_call 86; refine (Clip_any a j c _ hle hcap).mono ?_; rintro e w9 ⟨rfl, rfl⟩)
            | (go_at_call 85; refine (HS.out a3 c3 w3 kk _ HKK.out rfl (HAL.out.trans (hb3.mono HAL.out.size)) o3 (fun x hx => HV.out x (hv3 x hx))).mono ?_; rintro e w4 ⟨rfl, hI4, hA4⟩)
            | (refine step_app_full Try.underlying22 elem3 (.tmp 22) (.tmp 24) ?_ ?_ ?_ ?_ (HI0.out.below HAL.out) HO.out hsm ?_; rfl; rfl; rfl; rfl; intro a3 c3 w3 o3 hb3 hv3))
        all_goals (
          clear hb3 hv3 o3 hq z3 z4
          have hA5 := hAb.trans hA4
          clear hA4 hAb
          go_wp2
          go_roundw
          all_goals first | exact ⟨r + 1, by omega, by go_num, hI4, hA5⟩ | ((repeat apply Exists.intro); exact ⟨⟨r + 1, by omega, by go_num, hI4, hA5⟩, rfl⟩) | exact ⟨⟨r + 1, by omega, by go_num, hI4, hA5⟩, by simp [intOf]; omega⟩ | (simp [intOf]; omega))
      · obtain rfl : r = k + 1 := by omega
        have HG : Hid (offL m pre k (k + 1) = (goL (m + 1) pre k).length) := Lib.hid rfl
        go_wp2
        go_end0
        exact ⟨rfl, by rw [← HG.out]; exact hI, hAb⟩
end Go.Proofs.Ytjedmiegcbdedaa
