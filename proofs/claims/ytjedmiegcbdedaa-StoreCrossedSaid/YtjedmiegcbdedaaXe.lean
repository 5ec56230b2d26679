/- Walks of chapter 11: the law's arcs. -/
import Derived.Test.YtjedmiegcbdedaaLib7
import Derived.Test.YtjedmiegcbdedaaPm
import Derived.Test.YtjedmiegcbdedaaXb
namespace Go.Proofs.Ytjedmiegcbdedaa
open Go.RowKit Store11

set_option maxHeartbeats 2000000 in
set_option maxRecDepth 100000 in
theorem Index_any (a : Option Addr) (n c : Nat) (l : List Int) (x : Int) (w : World) (h : IsL w a n c l) : Calls Try.prog 87 #[.slice a n c, .int .i64 x] w fun e w' => e = .returned (.int .i64 (idxV (fstI l x))) ∧ w = w' := by
  have hcap := h.cap
  have hle := h.le
  go_enter Try.func87, Try.ntmps87
  go_wp2_with fail
  go_loopw [8] (fun vi wr => ∃ i : Nat, i ≤ n ∧ vi = .int .i64 (i : Int) ∧ Hid (∀ j, j < i → l.getD j 0 ≠ x) ∧ w = wr) (fun vi _ => n - (intOf vi).toNat)
  case atStart => exact ⟨0, by omega, rfl, Lib.hid (fun j hj => by omega), rfl⟩
  case round =>
    obtain ⟨i, hi, rfl, hD, rfl⟩ := hrel
    by_cases hlt : i < n
    · obtain ⟨b, o, rfl, _, hc⟩ := h.cells (by omega)
      have y := hc i hlt
      have q1 : (i : Int) < (n : Int) := by omega
      obtain ⟨v, hv⟩ : ∃ v, l.getD i 0 = v := ⟨_, rfl⟩
      rw [hv] at y
      have HV := Lib.hid hv
      clear hc hv
      by_cases hx : x = v
      · subst hx
        have e1 : (x == x) = true := by simp
        have HR : Hid ((i : Int) = idxV (fstI l x)) := Lib.hid (by rw [fstI_hit x l i (by rw [h.len]; exact hlt) HV.out hD.out]; rfl)
        go_wp2
        go_ret
        exact ⟨ret_i HR.out, rfl⟩
      · have e1 : (x == v) = false := by simpa using hx
        have hD2 : Hid (∀ j, j < i + 1 → l.getD j 0 ≠ x) := Lib.hid (fun j hj => by
          by_cases hj2 : j = i
          · rw [hj2, HV.out]; exact fun e => hx e.symm
          · exact hD.out j (by omega))
        clear hx
        go_wp2
        go_roundw
        case rel => exact ⟨i + 1, by omega, by go_num, hD2, trivial⟩
        case measure => simp [intOf]; omega
    · obtain rfl : i = n := by omega
      have HR : Hid ((-1 : Int) = idxV (fstI l x)) := Lib.hid (by rw [fstI_miss x l (by rw [h.len]; exact hD.out)]; rfl)
      go_wp2
      go_ret
      exact ⟨ret_i HR.out, rfl⟩

set_option maxRecDepth 100000 in
theorem info49 : (Try.prog.info? 49).map (fun i => (i.zero, i.size, i.bytes)) = some (some (.agg #[.int .i64 0, .int .i64 0]), 2, 16) := by kernel_rfl
set_option maxHeartbeats 4000000 in
set_option maxRecDepth 100000 in
theorem larcs_any (a : Option Addr) (n c : Nat) (l : List Int) (w : World) (h : IsL w a n c l) (hn : n ≤ 100) :
    Calls Try.prog 49 #[.slice a n c] w fun e w' => e = .returned (.tuple #[.int .i64 (cnX l).1, .int .i64 (cnX l).2]) ∧ Below w.heap.size w w' := by
  have hcap := h.cap
  have hle := h.le
  go_enter Try.func49, Try.ntmps49
  go_wp2_with fail
  go_loopw [14, 4] (fun vi va wr => ∃ (i m : Nat) (a' : Option Addr) (c' : Nat), i ≤ n ∧ m ≤ i ∧ vi = .int .i64 (i : Int) ∧ va = .slice a' m c' ∧ Hid (OwnP wr 49 w.heap.size a' m c' (arcU l i)) ∧ Below w.heap.size w wr) (fun vi _ _ => n - (intOf vi).toNat)
  case atStart => exact ⟨0, 0, none, 0, by omega, by omega, rfl, rfl, Lib.hid (OwnP.nilP _ _ _), Below.refl _ _⟩
  case round =>
    obtain ⟨i, m, a', c', hi, hm, rfl, rfl, hO, hb⟩ := hrel
    by_cases hlt : i < n
    · have g := h.below hb
      obtain ⟨b, o, rfl, _, hc⟩ := g.cells (by omega)
      have y := hc i hlt
      have q1 : (i : Int) < (n : Int) := by omega
      have hcut := g.cut (i + 1) n c (by omega) (by omega) (by omega) (by omega)
      rw [List.take_of_length_le (by rw [h.len]; exact Nat.le_refl _)] at hcut
      clear hc
      obtain ⟨r, hr⟩ : ∃ r, l.getD i 0 = r := ⟨_, rfl⟩
      rw [hr] at y
      have HR := Lib.hid hr
      obtain ⟨f, hf⟩ : ∃ f, fstI (l.drop (i + 1)) r = f := ⟨_, rfl⟩
      have HF := Lib.hid hf
      have HNX : Hid (arcU l (i + 1) = arcU l i ++ nxO i f) := Lib.hid (by rw [arcU, nx, hr, hf])
      have hsz := hb.size
      cases f with
      | none =>
        have hO2 : Hid (OwnP wr 49 w.heap.size a' m c' (arcU l (i + 1))) := Lib.hid (by rw [HNX.out, nxO, List.append_nil]; exact hO.out)
        clear hf hr hO HNX
        by_cases hci : c = i + 1
        · rw [if_pos hci] at hcut
          subst hci
          obtain rfl : n = i + 1 := by omega
          have hcut2 := hcut
          rw [Nat.sub_self] at hcut2
          go_wp2_with fail
          refine (Index_any _ _ _ _ r _ hcut2).mono ?_
          rintro e w9 ⟨rfl, rfl⟩
          rw [HF.out, show idxV none = -1 from rfl]
          go_wp2
          go_roundw
          case rel => first | exact ⟨i + 1, m, a', c', by omega, by omega, by go_num, rfl, hO2, hb⟩ | ((repeat apply Exists.intro); exact ⟨⟨i + 1, m, a', c', by omega, by omega, by go_num, rfl, hO2, hb⟩, rfl⟩)
          case measure => (simp [intOf] <;> omega)
        · rw [if_neg hci] at hcut
          have hcut2 := hcut
          have hq : ((i : Int) + 1 == (c : Int)) = false := by simp only [beq_eq_false_iff_ne]; omega
          have hq2 : ((c : Int) == (i : Int) + 1) = false := by simp only [beq_eq_false_iff_ne]; omega
          go_wp2_with fail
          refine (Index_any _ _ _ _ r _ hcut2).mono ?_
          rintro e w9 ⟨rfl, rfl⟩
          rw [HF.out, show idxV none = -1 from rfl]
          go_wp2
          go_roundw
          case rel => first | exact ⟨i + 1, m, a', c', by omega, by omega, by go_num, rfl, hO2, hb⟩ | ((repeat apply Exists.intro); exact ⟨⟨i + 1, m, a', c', by omega, by omega, by go_num, rfl, hO2, hb⟩, rfl⟩)
          case measure => (simp [intOf] <;> omega)
      | some k =>
        have hkb := fstI_lt _ _ _ hf
        simp only [List.length_drop, h.len] at hkb
        have hO2 := hO.out
        have HNX2 : Hid (arcU l (i + 1) = arcU l i ++ [((i : Int), (i : Int) + 1 + k)]) := Lib.hid HNX.out
        have w1 : IntKind.i64.wrap ((i : Int) + 1 + k) = (i : Int) + 1 + k := IntWalk.i64_in _ (by omega)
        have hk0 : decide (0 ≤ k) = true := by simp; omega
        clear hf hr hO HNX
        by_cases hci : c = i + 1
        · exfalso; omega
        · rw [if_neg hci] at hcut
          have hcut2 := hcut
          have hq : ((i : Int) + 1 == (c : Int)) = false := by simp only [beq_eq_false_iff_ne]; omega
          have hq2 : ((c : Int) == (i : Int) + 1) = false := by simp only [beq_eq_false_iff_ne]; omega
          go_wp2_with fail
          refine (Index_any _ _ _ _ r _ hcut2).mono ?_
          rintro e w9 ⟨rfl, rfl⟩
          rw [HF.out, show idxV (some k) = k from rfl]
          clear hcut hcut2
          go_wp2_with (at_builtin; refine wl_app_pair Try.underlying82 info49 w.heap.size (.tmp 27) (.tmp 34) rfl rfl rfl rfl (hO2.alloc _) (i : Int) ((i : Int) + 1 + k) (by simp [go_sem]) (by simp [go_sem]) (by simp; omega) (by omega) ?_)
          intro a2 c2 w3 ho2 hg2 hb2
          have hO4 : Hid (OwnP w3 49 w.heap.size a2 (m + 1) c2 (arcU l (i + 1))) := Lib.hid (by rw [HNX2.out]; exact ho2)
          have hb4 := (hb.alloc hsz (.cells #[.int .i64 (i : Int), .int .i64 ((i : Int) + 1 + k)] 49)).trans hb2
          clear hg2 hb2 hO2 ho2 hb
          go_wp2
          go_roundw
          case rel => first | exact ⟨i + 1, m + 1, a2, c2, by omega, by omega, by go_num, rfl, hO4, hb4⟩ | ((repeat apply Exists.intro); exact ⟨⟨i + 1, m + 1, a2, c2, by omega, by omega, by go_num, rfl, hO4, hb4⟩, rfl⟩)
          case measure => (simp [intOf] <;> omega)
    · obtain rfl : i = n := by omega
      obtain ⟨A, hA⟩ : ∃ A, arcU l i = A := ⟨_, rfl⟩
      have HCN : Hid (cnX l = allX A A.length) := Lib.hid (by rw [cnX, arcP, h.len, hA])
      rw [hA] at hO
      have hAl := hO.out.len
      have hcp := hO.out.caps
      have HAL := Lib.hid hAl
      clear hA hAl h hcap hle
      have hm9 : m ≤ 100 := by omega
      go_wp2_with fail
      go_loopw [39, 2, 3] (fun vk vc vn wr2 => ∃ k : Nat, k ≤ m ∧ vk = .int .i64 (k : Int) ∧ vc = .int .i64 (allX A k).1 ∧ vn = .int .i64 (allX A k).2 ∧ Hid (OwnP wr2 49 w.heap.size a' m c' A) ∧ Below w.heap.size w wr2) (fun vk _ _ _ => m - (intOf vk).toNat)
      case atStart => exact ⟨0, by omega, rfl, rfl, rfl, hO, hb⟩
      case round =>
        clear hO hb
        obtain ⟨k, hk, rfl, rfl, rfl, hO, hb⟩ := hrel
        by_cases hlt2 : k < m
        · obtain ⟨g, rfl, hg1, hg2⟩ := hO.out.addr (by omega)
          obtain ⟨x0, x1⟩ := hO.out.cell k hlt2
          have q2 : (k : Int) < (m : Int) := by omega
          obtain ⟨p, hp⟩ : ∃ p, A.getD k (0, 0) = p := ⟨_, rfl⟩
          rw [hp] at x0 x1
          have hAb := allX_bound A k
          have hAl := HAL.out
          have hkm : k * A.length ≤ 10000 := Nat.le_trans (Nat.mul_le_mul (by omega : k ≤ 100) (by omega : A.length ≤ 100)) (by omega)
          have HS0 : Hid (allX A (k + 1) = rowX A p (allX A k) m) := Lib.hid (by rw [allX, hp, HAL.out])
          have HP := Lib.hid hp
          clear hp
          obtain ⟨s0, hs0⟩ : ∃ s0, allX A k = s0 := ⟨_, rfl⟩
          have HSS : Hid (allX A (k + 1) = rowX A p s0 m) := Lib.hid (by rw [HS0.out, hs0])
          have hAb2 : 0 ≤ s0.1 ∧ 0 ≤ s0.2 ∧ s0.1 ≤ 10000 ∧ s0.2 ≤ 10000 := by rw [← hs0]; omega
          have HB := Lib.hid hAb2
          rw [hs0]
          clear hAb hkm hs0 hAb2 HS0 hAl
          obtain ⟨p0, p1⟩ := p
          simp only [] at x0 x1
          have hsw := hb.size
          go_wp2_with fail
          go_loopw [45, 2, 3] (fun vj vc vn wr3 => ∃ j : Nat, j ≤ m ∧ vj = .int .i64 (j : Int) ∧ vc = .int .i64 (rowX A (p0, p1) s0 j).1 ∧ vn = .int .i64 (rowX A (p0, p1) s0 j).2 ∧ Hid (OwnP wr3 49 w.heap.size (some ⟨g, 0, none⟩) m c' A) ∧ Below w.heap.size w wr3 ∧ wr.heap.size < wr3.heap.size ∧ wr3.cell? ⟨wr.heap.size, 0, none⟩ = some (.int .i64 p0) ∧ wr3.cell? ⟨wr.heap.size, 1, none⟩ = some (.int .i64 p1)) (fun vj _ _ _ => m - (intOf vj).toNat)
          case atStart => exact ⟨0, by omega, rfl, rfl, rfl, Lib.hid (hO.out.alloc _), hb.alloc hsw _, by simp, by simp [go_sem], by simp [go_sem]⟩
          case round =>
            clear hO hb x0 x1 hsw
            obtain ⟨j, hj, rfl, rfl, rfl, hO, hb, hz, x0, x1⟩ := hrel
            have hsw := hb.size
            by_cases hlt3 : j < m
            · obtain ⟨y0, y1⟩ := hO.out.cell j hlt3
              have q3 : (j : Int) < (m : Int) := by omega
              have hRb := rowX_bound A (p0, p1) s0 10000 HB.out j
              obtain ⟨q, hq⟩ : ∃ q, A.getD j (0, 0) = q := ⟨_, rfl⟩
              rw [hq] at y0 y1
              have HS : Hid (rowX A (p0, p1) s0 (j + 1) = stepX (p0, p1) q (rowX A (p0, p1) s0 j)) := Lib.hid (by rw [rowX, hq])
              clear hq
              obtain ⟨st, hst⟩ : ∃ st, rowX A (p0, p1) s0 j = st := ⟨_, rfl⟩
              rw [hst] at HS hRb ⊢
              clear hst
              obtain ⟨st0, st1⟩ := st
              obtain ⟨q0, q1⟩ := q
              simp only [] at y0 y1 hRb
              obtain ⟨b1, b2, b3, b4⟩ := hRb
              have b3' : st0 ≤ 100000 := by omega
              have b4' : st1 ≤ 100000 := by omega
              clear b3 b4
              by_cases c1 : p0 < q0
              · have d1 : decide (p0 < q0) = true := by simp; omega
                by_cases c2 : q0 < p1
                · have d2 : decide (q0 < p1) = true := by simp; omega
                  by_cases c3 : p1 < q1
                  · have e0 := 0
                    clear e0
                    have HT : Hid (stepX (p0, p1) (q0, q1) (st0, st1) = (st0 + 1, st1)) := Lib.hid (by unfold stepX; simp only []; rw [if_pos ⟨c1, c2⟩, if_pos c3])
                    go_wp2_with fail
                    go_roundw
                    case rel => first | exact ⟨j + 1, by omega, by go_num, by rw [HS.out, HT.out], by rw [HS.out, HT.out], Lib.hid (hO.out.alloc _), hb.alloc hsw _, by simp; omega, by simp [go_sem, hz, x0], by simp [go_sem, hz, x1]⟩ | ((repeat apply Exists.intro); exact ⟨⟨j + 1, by omega, by go_num, by rw [HS.out, HT.out], by rw [HS.out, HT.out], Lib.hid (hO.out.alloc _), hb.alloc hsw _, by simp; omega, by simp [go_sem, hz, x0], by simp [go_sem, hz, x1]⟩, rfl⟩)
                    case measure => (simp [intOf] <;> omega)
                  · by_cases c4 : q1 < p1
                    · have e0 := 0
                      clear e0
                      have HT : Hid (stepX (p0, p1) (q0, q1) (st0, st1) = (st0, st1 + 1)) := Lib.hid (by unfold stepX; simp only []; rw [if_pos ⟨c1, c2⟩, if_neg c3, if_pos c4])
                      go_wp2_with fail
                      go_roundw
                      case rel => first | exact ⟨j + 1, by omega, by go_num, by rw [HS.out, HT.out], by rw [HS.out, HT.out], Lib.hid (hO.out.alloc _), hb.alloc hsw _, by simp; omega, by simp [go_sem, hz, x0], by simp [go_sem, hz, x1]⟩ | ((repeat apply Exists.intro); exact ⟨⟨j + 1, by omega, by go_num, by rw [HS.out, HT.out], by rw [HS.out, HT.out], Lib.hid (hO.out.alloc _), hb.alloc hsw _, by simp; omega, by simp [go_sem, hz, x0], by simp [go_sem, hz, x1]⟩, rfl⟩)
                      case measure => (simp [intOf] <;> omega)
                    · have e0 := 0
                      clear e0
                      have HT : Hid (stepX (p0, p1) (q0, q1) (st0, st1) = (st0, st1)) := Lib.hid (by unfold stepX; simp only []; rw [if_pos ⟨c1, c2⟩, if_neg c3, if_neg c4])
                      go_wp2_with fail
                      go_roundw
                      case rel => first | exact ⟨j + 1, by omega, by go_num, by rw [HS.out, HT.out], by rw [HS.out, HT.out], Lib.hid (hO.out.alloc _), hb.alloc hsw _, by simp; omega, by simp [go_sem, hz, x0], by simp [go_sem, hz, x1]⟩ | ((repeat apply Exists.intro); exact ⟨⟨j + 1, by omega, by go_num, by rw [HS.out, HT.out], by rw [HS.out, HT.out], Lib.hid (hO.out.alloc _), hb.alloc hsw _, by simp; omega, by simp [go_sem, hz, x0], by simp [go_sem, hz, x1]⟩, rfl⟩)
                      case measure => (simp [intOf] <;> omega)
                · have d2 : decide (q0 < p1) = false := by simp; omega
                  have HT : Hid (stepX (p0, p1) (q0, q1) (st0, st1) = (st0, st1)) := Lib.hid (by unfold stepX; simp only []; rw [if_neg (fun h => c2 h.2)])
                  go_wp2_with fail
                  go_roundw
                  case rel => first | exact ⟨j + 1, by omega, by go_num, by rw [HS.out, HT.out], by rw [HS.out, HT.out], Lib.hid (hO.out.alloc _), hb.alloc hsw _, by simp; omega, by simp [go_sem, hz, x0], by simp [go_sem, hz, x1]⟩ | ((repeat apply Exists.intro); exact ⟨⟨j + 1, by omega, by go_num, by rw [HS.out, HT.out], by rw [HS.out, HT.out], Lib.hid (hO.out.alloc _), hb.alloc hsw _, by simp; omega, by simp [go_sem, hz, x0], by simp [go_sem, hz, x1]⟩, rfl⟩)
                  case measure => (simp [intOf] <;> omega)
              · have d1 : decide (p0 < q0) = false := by simp; omega
                have HT : Hid (stepX (p0, p1) (q0, q1) (st0, st1) = (st0, st1)) := Lib.hid (by unfold stepX; simp only []; rw [if_neg (fun h => c1 h.1)])
                go_wp2_with fail
                go_roundw
                case rel => first | exact ⟨j + 1, by omega, by go_num, by rw [HS.out, HT.out], by rw [HS.out, HT.out], Lib.hid (hO.out.alloc _), hb.alloc hsw _, by simp; omega, by simp [go_sem, hz, x0], by simp [go_sem, hz, x1]⟩ | ((repeat apply Exists.intro); exact ⟨⟨j + 1, by omega, by go_num, by rw [HS.out, HT.out], by rw [HS.out, HT.out], Lib.hid (hO.out.alloc _), hb.alloc hsw _, by simp; omega, by simp [go_sem, hz, x0], by simp [go_sem, hz, x1]⟩, rfl⟩)
                case measure => (simp [intOf] <;> omega)
            · obtain rfl : j = m := by omega
              go_wp2
              go_roundw
              case rel => first | exact ⟨k + 1, by omega, by go_num, by rw [HSS.out], by rw [HSS.out], hO, hb⟩ | ((repeat apply Exists.intro); exact ⟨⟨k + 1, by omega, by go_num, by rw [HSS.out], by rw [HSS.out], hO, hb⟩, rfl⟩)
              case measure => (simp [intOf] <;> omega)
        · obtain rfl : k = m := by omega
          go_wp2
          go_ret2
          exact ⟨ret_ii (by rw [HCN.out, HAL.out]) (by rw [HCN.out, HAL.out]), hb⟩
end Go.Proofs.Ytjedmiegcbdedaa
