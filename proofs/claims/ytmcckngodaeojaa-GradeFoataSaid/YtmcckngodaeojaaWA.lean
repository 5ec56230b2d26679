/- Walks of chapter 3: orders counted by turned pairs. -/
import Derived.Test.YtmcckngodaeojaaWx
import Derived.Test.YtmcckngodaeojaaPs
import Derived.Test.YtmcckngodaeojaaLib9
import Derived.Test.YtmcckngodaeojaaPa
namespace Go.Proofs.Ytmcckngodaeojaa
open Go.RowKit Grade03

/-- a number and an error are returned -/
def NP (E : Int) (R : Int) (w : World) (e : Ending) (w' : World) : Prop := e = .returned (.tuple #[.int .i64 R, .int .i64 E]) ∧ Below w.heap.size w w'
theorem NP.is {E R E' R' : Int} {w w' : World} (h : E = E') (hR : R = R') (hb : Below w.heap.size w w') : NP E R w (.returned (.tuple #[.int .i64 R', .int .i64 E'])) w' := ⟨by rw [h, hR], hb⟩

set_option maxHeartbeats 8000000 in
set_option maxRecDepth 100000 in
theorem Count_any (n t : Int) (w : World) : Calls Try.prog 47 #[.int .i64 n, .int .i64 t] w (NP (cntE n t) (cntR n t) w) := by
  by_cases a1 : n < 1
  · have F : Hid (cntE n t = 1) := Lib.hid (cntE_bad (.inl a1))
    have d1 : decide (n < 1) = true := by simpa using a1
    clear a1
    go_enter Try.func47, Try.ntmps47
    go_wp2_with fail
    go_ret2
    exact NP.is F.out (cntR_bad F.out) (Below.refl _ _)
  · have d1 : decide (n < 1) = false := by simpa using a1
    by_cases a2 : 7 < n
    · have F : Hid (cntE n t = 1) := Lib.hid (cntE_bad (.inr (.inl a2)))
      have d2 : decide (7 < n) = true := by simpa using a2
      clear a1 a2
      go_enter Try.func47, Try.ntmps47
      go_wp2_with fail
      go_ret2
      exact NP.is F.out (cntR_bad F.out) (Below.refl _ _)
    · have d2 : decide (7 < n) = false := by simpa using a2
      by_cases a3 : t < 0
      · have F : Hid (cntE n t = 1) := Lib.hid (cntE_bad (.inr (.inr (.inl a3))))
        have d3 : decide (t < 0) = true := by simpa using a3
        clear a1 a2 a3
        go_enter Try.func47, Try.ntmps47
        go_wp2_with fail
        go_ret2
        exact NP.is F.out (cntR_bad F.out) (Below.refl _ _)
      · have d3 : decide (t < 0) = false := by simpa using a3
        obtain ⟨m, rfl⟩ : ∃ m : Nat, n = ((m + 1 : Nat) : Int) := ⟨(n - 1).toNat, by omega⟩
        have hm7 : m < 7 := by omega
        obtain ⟨n, hn⟩ : ∃ n, m + 1 = n := ⟨_, rfl⟩
        rw [hn] at d1 d2 a1 a2 ⊢
        have w1 : IntKind.i64.wrap ((n : Int) - 1) = (m : Int) := by rw [show (n : Int) - 1 = (m : Int) by omega]; exact IntWalk.i64_in _ (by omega)
        obtain ⟨P, hP⟩ : ∃ P : Nat, n * m = P := ⟨_, rfl⟩
        have hP2 : (n : Int) * (m : Int) = (P : Int) := by rw [← hP, Int.natCast_mul]
        have hP42 : P ≤ 42 := by
          rw [← hP, ← hn]
          have : (m + 1) * m ≤ 7 * 6 := Nat.mul_le_mul (by omega) (by omega)
          omega
        have w2 : IntKind.i64.wrap ((n : Int) * (m : Int)) = (P : Int) := by rw [hP2]; exact IntWalk.i64_in _ (by omega)
        obtain ⟨T, hT⟩ : ∃ T : Nat, P / 2 = T := ⟨_, rfl⟩
        have w3 : (P : Int) / 2 = (T : Int) := by omega
        have w4 : wrap64 (T : Int) = (T : Int) := IntWalk.wrap64_in _ (by omega)
        have hlim : (n : Int) * ((n : Int) - 1) / 2 = (T : Int) := by rw [show (n : Int) - 1 = (m : Int) by omega, hP2]; omega
        by_cases a4 : (T : Int) < t
        · have F : Hid (cntE n t = 1) := Lib.hid (cntE_bad (.inr (.inr (.inr (by rw [hlim]; exact a4)))))
          have d4 : decide ((T : Int) < t) = true := by simpa using a4
          clear a1 a2 a3 a4 hlim hT hP2 hP hn
          go_enter Try.func47, Try.ntmps47
          go_wp2_with fail
          go_ret2
          exact NP.is F.out (cntR_bad F.out) (Below.refl _ _)
        · have d4 : decide ((T : Int) < t) = false := by simpa using a4
          have F : Hid (cntE n t = 0) := Lib.hid (cntE_ok (by rw [hlim]; omega))
          obtain ⟨t, rfl⟩ : ∃ t' : Nat, t = (t' : Int) := ⟨t.toNat, by omega⟩
          have hlen : (cnT m).length = T + 1 := by rw [cnT_len m hm7, ← hT, ← hP, ← hn, Nat.mul_comm]
          have HLE := Lib.hid hlen
          have HTT : Hid (t ≤ T) := Lib.hid (by omega)
          have HMN : Hid (m + 1 = n) := Lib.hid hn
          have hn1 : 1 ≤ n := by omega
          have hn7 : n ≤ 7 := by omega
          have d5 : ¬ (T < t) := by omega
          have d6 : ¬ ((t : Int) < 0) := by omega
          clear a1 a2 a3 a4 hlim hT hP2 hP hn hlen
          go_enter Try.func47, Try.ntmps47
          go_wp2_with fail
          go_loopw [7, 6] (fun vk vc wr => ∃ (k s : Nat) (a' : Option Addr) (c' : Nat), k ≤ m ∧ vk = .int .i64 ((k : Int) + 2) ∧ vc = .slice a' s c' ∧ Hid (IsL wr a' s c' (cnT k)) ∧ Below w.heap.size w wr) (fun vk _ _ => n + 2 - (intOf vk).toNat)
          case atStart => exact ⟨0, 1, _, 1, by omega, rfl, rfl, Lib.hid (isL_one _ _ _), (Below.refl _ _).alloc (Nat.le_refl _) _⟩
          case round =>
            obtain ⟨k, s, aC, cC, hk, rfl, rfl, hC, hb⟩ := hrel
            have hmn := HMN.out
            by_cases hlt : k < m
            · have q1 : (k : Int) + 2 ≤ (n : Int) := by omega
              have hs := hC.out.len
              have hsl : s ≤ 22 := by
                rw [← hs, cnT_len k (by omega)]
                have : k * (k + 1) ≤ 6 * 7 := Nat.mul_le_mul (by omega) (by omega)
                omega
              have HSL := Lib.hid hs
              have w5 : IntKind.i64.wrap ((s : Int) + ((k : Int) + 2)) = (s : Int) + ((k : Int) + 2) := IntWalk.i64_in _ (by omega)
              obtain ⟨M, hM⟩ : ∃ M, s + k + 1 = M := ⟨_, rfl⟩
              have w6 : IntKind.i64.wrap ((s : Int) + ((k : Int) + 2) - 1) = (M : Int) := by rw [show (s : Int) + ((k : Int) + 2) - 1 = (M : Int) by omega]; exact IntWalk.i64_in _ (by omega)
              have w7 : IntKind.i64.wrap ((k : Int) + 2 + 1) = ((k + 1 : Nat) : Int) + 2 := by rw [show (k : Int) + 2 + 1 = ((k + 1 : Nat) : Int) + 2 by omega]; exact IntWalk.i64_in _ (by omega)
              have HM : Hid (M = s + (k + 2) - 1) := Lib.hid (by omega)
              have hM40 : M ≤ 40 := by omega
              clear hs hM hmn
              go_wp2_with (at_make; refine wl_make (Value.int .i64) 0 (.int .i64 0) 8 wr.heap.size Try.underlying22 elem3 rfl rfl (.tmp 41) (.tmp 41) rfl rfl M rfl rfl (by omega) (by omega) (Nat.le_refl _) ?_)
              intro w3 og hg3 hb3
              have hC3 := Lib.hid (hC.out.below hb3)
              have hb4 := hb.trans (hb3.mono hb.size)
              have HN0 : Hid (OwnL w3 3 wr.heap.size (some ⟨wr.heap.size, 0, none⟩) M M (cnNext (cnT k) (k + 2) 0)) := Lib.hid (by rw [cnNext, HSL.out, ← HM.out]; exact og)
              have HC0 : Hid (∀ x, aC = some x → x.block < wr.heap.size) := Lib.hid (fun x hx => hC.out.lt (by rw [← HSL.out, cnT_len k (by omega)]; omega) x hx)
              have hbg : w.heap.size ≤ wr.heap.size := hb.size
              clear hg3 og hC
              obtain ⟨B, hB⟩ : ∃ B, wr.heap.size = B := ⟨_, rfl⟩
              rw [hB] at HN0 HC0 hbg hb3 ⊢
              clear hb hb3 hB
              go_wp2_with fail
              go_loopw [45] (fun vi wr => ∃ i : Nat, i ≤ s ∧ vi = .int .i64 (i : Int) ∧ Hid (OwnL wr 3 B (some ⟨B, 0, none⟩) M M (cnNext (cnT k) (k + 2) i)) ∧ Hid (IsL wr aC s cC (cnT k)) ∧ Below w.heap.size w wr) (fun vi _ => s - (intOf vi).toNat)
              case atStart => exact ⟨0, by omega, rfl, HN0, hC3, hb4⟩
              case round =>
                clear HN0 hC3 hb4
                obtain ⟨i, hi, rfl, hN, hC, hb⟩ := hrel
                by_cases his : i < s
                · have q2 : (i : Int) < (s : Int) := by omega
                  have hib : i < (cnT k).length := by rw [HSL.out]; exact his
                  obtain ⟨b, o, rfl, _, hc⟩ := hC.out.cells (by omega)
                  have y1 := hc i his
                  have hbb := HC0.out _ rfl
                  simp only [] at hbb
                  have HY : Hid ((cnT k).getD i 0 = (cnT k).getD i 0) := Lib.hid rfl
                  have HBD := Lib.hid (bdL_get (cnT_bd k (by omega)) i)
                  obtain ⟨v, hv⟩ : ∃ v, (cnT k).getD i 0 = v := ⟨_, rfl⟩
                  rw [hv] at y1 HBD
                  have HV := Lib.hid hv
                  have HI := Lib.hid hib
                  clear hc hv hib HY
                  go_wp2_with fail
                  go_loopw [51] (fun vj wr => ∃ j : Nat, j ≤ k + 2 ∧ vj = .int .i64 (j : Int) ∧ Hid (OwnL wr 3 B (some ⟨B, 0, none⟩) M M (cnRow (cnT k) (k + 2) i j (cnNext (cnT k) (k + 2) i))) ∧ Hid (IsL wr (some ⟨b, o, none⟩) s cC (cnT k)) ∧ Below w.heap.size w wr) (fun vj _ => k + 2 - (intOf vj).toNat)
                  case atStart => exact ⟨0, by omega, rfl, hN, hC, hb⟩
                  case round =>
                    clear hN hC hb y1
                    obtain ⟨j, hj, rfl, hN, hC, hb⟩ := hrel
                    by_cases hjk : j < k + 2
                    · have q3 : (j : Int) < (k : Int) + 2 := by omega
                      have hMs := HM.out
                      obtain ⟨e, he⟩ : ∃ e, i + j = e := ⟨_, rfl⟩
                      have w8 : IntKind.i64.wrap ((i : Int) + (j : Int)) = (e : Int) := by rw [show (i : Int) + (j : Int) = (e : Int) by omega]; exact IntWalk.i64_in _ (by omega)
                      have heM : e < M := by omega
                      have q4 : (e : Int) < (M : Int) := by omega
                      obtain ⟨x1, f1⟩ := hN.out.gen.cell e 0 heM
                      have hbd := cn_get (t := k) (i := i) (j := j) (by omega) HI.out (by omega) e
                      have hset := hN.out.set e ((cnRow (cnT k) (k + 2) i j (cnNext (cnT k) (k + 2) i)).getD e 0 + v) heM
                      have HR : Hid (cnRow (cnT k) (k + 2) i (j + 1) (cnNext (cnT k) (k + 2) i) = (cnRow (cnT k) (k + 2) i j (cnNext (cnT k) (k + 2) i)).set e ((cnRow (cnT k) (k + 2) i j (cnNext (cnT k) (k + 2) i)).getD e 0 + v)) := Lib.hid (by rw [cnRow, he, HV.out])
                      obtain ⟨z, hz⟩ : ∃ z, (cnRow (cnT k) (k + 2) i j (cnNext (cnT k) (k + 2) i)).getD e 0 = z := ⟨_, rfl⟩
                      rw [hz] at x1 hset HR hbd
                      have w9 : IntKind.i64.wrap (z + v) = z + v := IntWalk.i64_in _ (by have := HBD.out; omega)
                      have hN2 : Hid (OwnL (wr.setCell ⟨B, e, none⟩ (.int .i64 (z + v))) 3 B (some ⟨B, 0, none⟩) M M (cnRow (cnT k) (k + 2) i (j + 1) (cnNext (cnT k) (k + 2) i))) := Lib.hid (by rw [HR.out]; exact hset)
                      have hC2 : Hid (IsL (wr.setCell ⟨B, e, none⟩ (.int .i64 (z + v))) (some ⟨b, o, none⟩) s cC (cnT k)) := Lib.hid (IsL.grown (o := some ⟨B, 0, none⟩) (k := 0) (co := 0) hC.out (by simpa [Value.ownBlock] using grown_setCell wr B e _) (fun x y hx hy => by
                        obtain rfl := Option.some.inj hx
                        obtain rfl := Option.some.inj hy
                        simp only []; omega))
                      have hb2 := hb.setCell (p := ⟨B, e, none⟩) hbg (.int .i64 (z + v))
                      clear hN hC hb hz hset he hMs hbd
                      go_wp2_with fail
                      go_roundw
                      case rel => first | exact ⟨j + 1, by omega, by go_num, hN2, hC2, hb2⟩ | ((repeat apply Exists.intro); exact ⟨⟨j + 1, by omega, by go_num, hN2, hC2, hb2⟩, rfl⟩)
                      case measure => (simp [intOf] <;> omega)
                    · obtain rfl : j = k + 2 := by omega
                      have HN2 : Hid (OwnL wr 3 B (some ⟨B, 0, none⟩) M M (cnNext (cnT k) (k + 2) (i + 1))) := hN
                      have q3 : ¬ (((k + 2 : Nat) : Int) < (k : Int) + 2) := by omega
                      go_wp2_with fail
                      go_roundw
                      case rel => first | exact ⟨i + 1, by omega, by go_num, HN2, hC, hb⟩ | ((repeat apply Exists.intro); exact ⟨⟨i + 1, by omega, by go_num, HN2, hC, hb⟩, rfl⟩)
                      case measure => (simp [intOf] <;> omega)
                · obtain rfl : i = s := by omega
                  have HN2 : Hid (IsL wr (some ⟨B, 0, none⟩) M M (cnT (k + 1))) := Lib.hid (by rw [cnT, HSL.out]; exact hN.out.isL)
                  go_wp2_with fail
                  go_roundw
                  case rel => first | exact ⟨k + 1, M, _, M, by omega, by go_num, rfl, HN2, hb⟩ | ((repeat apply Exists.intro); exact ⟨⟨k + 1, M, _, M, by omega, by go_num, rfl, HN2, hb⟩, rfl⟩)
                  case measure => (simp [intOf] <;> omega)
            · obtain rfl : k = m := by omega
              have q1 : ¬ ((k : Int) + 2 ≤ (n : Int)) := by omega
              have hs := hC.out.len
              rw [HLE.out] at hs
              have hts := HTT.out
              obtain ⟨b, o, rfl, _, hc⟩ := hC.out.cells (by omega)
              have y1 := hc t (by omega)
              have q2 : (t : Int) < (s : Int) := by omega
              have F2 : Hid (cntR n t = (cnT k).getD t 0) := Lib.hid (by rw [cntR_ok F.out, show n - 1 = k by omega])
              obtain ⟨v, hv⟩ : ∃ v, (cnT k).getD t 0 = v := ⟨_, rfl⟩
              rw [hv] at y1 F2
              clear hc hv hs hts hmn
              go_wp2_with fail
              go_ret2
              exact NP.is F.out F2.out hb
end Go.Proofs.Ytmcckngodaeojaa
namespace Go.Proofs.Ytmcckngodaeojaa
open Go.RowKit Grade03

theorem elemS : (Try.prog.info? 22).map (fun i => (i.zero, i.size, i.bytes)) = some (some (.slice none 0 0), 1, 24) := by kernel_rfl
theorem slv_one (s : Sl) : (Sl.v s).oneCell' = true := rfl
/-- a slice of slices that read as lists -/
def AllR (P : Option Addr → Prop) (w : World) (B : Nat) (a : Option Addr) (r c : Nat) (LL : List (List Int)) : Prop :=
  ∃ L : List Sl, OwnG Sl.v w 22 B a r c L ∧ (∀ s ∈ L, IsL w s.a s.n s.c s.l ∧ 0 < s.n ∧ Sep s.a a ∧ P s.a) ∧ L.map Sl.l = LL
variable {P : Option Addr → Prop}
theorem AllR.len {w : World} {B : Nat} {a : Option Addr} {r c : Nat} {LL : List (List Int)} (h : AllR P w B a r c LL) : LL.length = r := by
  obtain ⟨L, h1, _, rfl⟩ := h
  rw [List.length_map]; exact h1.len
theorem AllR.below {w w' : World} {B : Nat} {a : Option Addr} {r c : Nat} {LL : List (List Int)} (h : AllR P w B a r c LL) (hb : Below w.heap.size w w') : AllR P w' B a r c LL := by
  obtain ⟨L, h1, h2, h3⟩ := h
  exact ⟨L, h1.below hb, fun s hs => ⟨(h2 s hs).1.below hb, (h2 s hs).2⟩, h3⟩
theorem AllR.weaken {w : World} {B B' : Nat} {a : Option Addr} {r c : Nat} {LL : List (List Int)} (h : AllR P w B a r c LL) (hB : B' ≤ B) : AllR P w B' a r c LL := by
  obtain ⟨L, h1, h2, h3⟩ := h
  exact ⟨L, h1.weaken hB, h2, h3⟩
theorem AllR.imp {Q : Option Addr → Prop} {w : World} {B : Nat} {a : Option Addr} {r c : Nat} {LL : List (List Int)} (h : AllR P w B a r c LL) (hPQ : ∀ x, P x → Q x) : AllR Q w B a r c LL := by
  obtain ⟨L, h1, h2, h3⟩ := h
  exact ⟨L, h1, fun s hs => ⟨(h2 s hs).1, (h2 s hs).2.1, (h2 s hs).2.2.1, hPQ _ (h2 s hs).2.2.2⟩, h3⟩
theorem AllR.get {w : World} {B : Nat} {a : Option Addr} {r c : Nat} {LL : List (List Int)} (h : AllR P w B a r c LL) {i : Nat} (hi : i < r) : ∃ g a' n' c', a = some ⟨g, 0, none⟩ ∧ w.cell? ⟨g, i, none⟩ = some (.slice a' n' c') ∧ IsL w a' n' c' (LL.getD i []) := by
  obtain ⟨L, h1, h2, rfl⟩ := h
  obtain ⟨g, rfl⟩ := h1.addr (by omega)
  have hl := h1.len
  have h3 := (h1.cell i sl0 hi).1
  have hm : L.getD i sl0 ∈ L := by rw [List.getD, List.getElem?_eq_getElem (by omega)]; exact List.getElem_mem _
  refine ⟨g, _, _, _, rfl, h3, ?_⟩
  have h4 := (h2 _ hm).1
  have e : (L.map Sl.l).getD i [] = (L.getD i sl0).l := by simp [List.getD, show i < L.length by omega]
  rw [e]
  exact h4
theorem AllR.nil (w : World) (B : Nat) : AllR P w B none 0 0 [] := ⟨[], OwnG.nilG _ _ _, fun s h => by simp at h, rfl⟩
def AllP (n m : Nat) (pre : List Int) (a : Option Addr) (w : World) (e : Ending) (w' : World) : Prop := ∃ a' r c', e = .returned (.slice a' r c') ∧ AllR (Via w a) w' w.heap.size a' r c' (allO n m pre) ∧ Below w.heap.size w w'
/-- rows behind rows -/
theorem AllR.app {w w' : World} {B : Nat} {a a2 : Option Addr} {r r' c2 : Nat} {L L' : List Sl} (h : ∀ s ∈ L, IsL w s.a s.n s.c s.l ∧ 0 < s.n ∧ Sep s.a a ∧ P s.a) (h' : ∀ s ∈ L', IsL w s.a s.n s.c s.l ∧ 0 < s.n ∧ Sep s.a a ∧ P s.a)
    {n c : Nat} (ho : OwnG Sl.v w' 22 B a2 (r + r') c2 (L ++ L')) (hg : w.grownBy w' (Value.slice a n c).ownBlock) (hv : Via w a a2) : AllR P w' B a2 (r + r') c2 (L.map Sl.l ++ L'.map Sl.l) := by
  refine ⟨L ++ L', ho, fun s hs => ?_, by rw [List.map_append]⟩
  have key : IsL w s.a s.n s.c s.l ∧ 0 < s.n ∧ Sep s.a a ∧ P s.a := by
    rcases List.mem_append.1 hs with h1 | h1
    · exact h s h1
    · exact h' s h1
  obtain ⟨k1, k2, k3, k4⟩ := key
  exact ⟨k1.grown hg k3, k2, (k3.symm.via hv (fun x hx => k1.lt k2 x hx)).symm, k4⟩

set_option maxHeartbeats 8000000 in
set_option maxRecDepth 100000 in
theorem all_any : ∀ (m n k : Nat) (pre : List Int) (a : Option Addr) (c : Nat) (w : World), IsL w a k c pre → k + m = n → 1 ≤ n → n ≤ 7 → Calls Try.prog 76 #[.int .i64 (n : Int), .slice a k c] w (AllP n m pre a w) := by
  intro m
  induction m with
  | zero =>
    intro n k pre a c w h hkn hn1 hn
    obtain rfl : k = n := by omega
    have e0 : ((k : Int) == (k : Int)) = true := by simp
    go_enter Try.func76, Try.ntmps76
    go_wp2_with fail
    go_ret
    refine ⟨_, 1, 1, rfl, ⟨[⟨a, k, c, pre⟩], own_oneG Sl.v w 22 _ (Nat.le_refl _) ⟨a, k, c, pre⟩ _ rfl, fun s hs => ?_, rfl⟩, (Below.refl _ _).alloc (Nat.le_refl _) _⟩
    simp at hs
    subst hs
    refine ⟨h.alloc _, by simp only []; omega, fun x y hx hy => ?_, Via.refl _ _⟩
    have h1 := h.lt (by omega) x hx
    obtain rfl := Option.some.inj hy
    simp only []
    omega
  | succ m ih =>
    intro n k pre a c w h hkn hn1 hn
    have e0 : ((k : Int) == (n : Int)) = false := by simp; omega
    have HK := Lib.hid hkn
    clear hkn
    go_enter Try.func76, Try.ntmps76
    go_wp2_with fail
    go_loopw [6, 5] (fun vx vo wr => ∃ (x r : Nat) (a' : Option Addr) (c' : Nat), x ≤ n ∧ vx = .int .i64 (x : Int) ∧ vo = .slice a' r c' ∧ Hid (AllR (Via w none) wr w.heap.size a' r c' (allX n m pre x)) ∧ Below w.heap.size w wr) (fun vx _ _ => n - (intOf vx).toNat)
    case atStart => exact ⟨0, 0, none, 0, by omega, rfl, rfl, Lib.hid (AllR.nil _ _), Below.refl _ _⟩
    case round =>
      obtain ⟨x, r, a', c', hx, rfl, rfl, hA, hb⟩ := hrel
      have hsz := hb.size
      by_cases hlt : x < n
      · have q0 : (x : Int) < (n : Int) := by omega
        have hk := h.below hb
        obtain ⟨B, hB⟩ : ∃ B, decide ((x : Int) ∈ pre) = B := ⟨_, rfl⟩
        have HC : Hid (Calls Try.prog 73 #[.slice a k c, .int .i64 (x : Int)] wr fun e w' => e = .returned (.bool B) ∧ wr = w') := Lib.hid (by
          have := has_any a k c pre (x : Int) wr hk
          rw [hB] at this
          exact this)
        have HB := Lib.hid hB
        clear hB
        cases B with
        | true =>
          have HN : Hid (AllR (Via w none) wr w.heap.size a' r c' (allX n m pre (x + 1))) := Lib.hid (by rw [allX_in (of_decide_eq_true HB.out)]; exact hA.out)
          clear hA hk
          go_wp2_with (go_at_call 73; refine HC.out.mono ?_; rintro e w9 ⟨rfl, rfl⟩)
          go_roundw
          case rel => first | exact ⟨x + 1, r, a', c', by omega, by go_num, rfl, HN, hb⟩ | ((repeat apply Exists.intro); exact ⟨⟨x + 1, r, a', c', by omega, by go_num, rfl, HN, hb⟩, rfl⟩)
          case measure => (simp [intOf] <;> omega)
        | false =>
          have HX : Hid (allX n m pre (x + 1) = allX n m pre x ++ allO n m (pre ++ [(x : Int)])) := Lib.hid (allX_out (of_decide_eq_false HB.out))
          have HLN : Hid ((allX n m pre (x + 1)).length ≤ 823543) := Lib.hid (allX_len hn (by have := HK.out; omega) (by omega))
          have hkle := HK.out
          have hk7 : k ≤ 7 := by omega
          clear hkle
          go_wp2_with (first
            | (go_at_call 73; refine HC.out.mono ?_; rintro e w9 ⟨rfl, rfl⟩)
            | (at_builtin; refine wl_app_own Try.underlying22 elem3 wr.heap.size (.tmp 24) (.tmp 25) rfl rfl rfl rfl (own_lit wr 3 wr.heap.size (Nat.le_refl _) ([] : List Int) #[] 0 rfl rfl (by decide)) (hk.alloc _) (by simp) (by omega) ?_))
          intro a2 c2 w2 o2 g2 b2 _
          have k2 := ((Below.refl _ wr).alloc (Nat.le_refl _) (.cells #[] 3)).trans b2
          clear g2 b2
          go_wp2_with (at_builtin; refine wl_app_own Try.underlying22 elem3 wr.heap.size (.tmp 26) (.tmp 28) rfl rfl rfl rfl (o2.alloc _) (isL_one _ _ _) (by have := k2.size; simp; omega) (by omega) ?_)
          intro a3 c3 w3 o3 g3 b3 _
          have k3 := (k2.alloc k2.size (.cells #[.int .i64 (x : Int)] 3)).trans b3
          clear g3 b3 o2 k2
          go_wp2_with fail
          refine (ih n (k + 1) (pre ++ [(x : Int)]) a3 c3 w3 o3.isL (by have := HK.out; omega) hn1 hn).mono ?_
          rintro e w4 ⟨a4, r4, c4, rfl, h4, b4⟩
          obtain ⟨L, hG, hR, hM⟩ := hA.out
          obtain ⟨L', hG', hR', hM'⟩ := h4
          have k4 := k3.trans (b4.mono k3.size)
          have hG4 := hG.below k4
          have hR4 : ∀ s ∈ L, IsL w4 s.a s.n s.c s.l ∧ 0 < s.n ∧ Sep s.a a' ∧ Via w none s.a := fun s hs => ⟨(hR s hs).1.below k4, (hR s hs).2⟩
          have hge : ∀ s ∈ L', ∀ y, s.a = some y → wr.heap.size ≤ y.block := fun s hs y hy => by
            rcases (hR' s hs).2.2.2 y hy with ⟨q, hq, he⟩ | hq
            · rw [← he]; exact (o3.lt q hq).1
            · exact Nat.le_trans k3.size hq
          have hR5 : ∀ s ∈ L', IsL w4 s.a s.n s.c s.l ∧ 0 < s.n ∧ Sep s.a a' ∧ Via w none s.a := fun s hs => ⟨(hR' s hs).1, (hR' s hs).2.1, fun y z hy hz => by
            have h1 := hge s hs y hy
            have h2 := (hG.lt z hz).2
            omega, fun y hy => .inr (Nat.le_trans hsz (hge s hs y hy))⟩
          have hsum : r + r4 ≤ 1000000 := by
            have h1 := HLN.out
            rw [HX.out, List.length_append, ← hM, ← hM', List.length_map, List.length_map, hG.len, hG'.len] at h1
            omega
          have hX2 : Hid (allX n m pre (x + 1) = L.map Sl.l ++ L'.map Sl.l) := Lib.hid (by rw [HX.out, ← hM, ← hM'])
          have k5 := hb.trans (k4.mono hsz)
          have h24 : 24 ≤ 1000 := by decide
          clear hA hG hR hM hM' hR' hge HX HLN k4 k3 b4 o3 hk HC
          go_wp2_with (at_builtin; refine wl_app_rows Try.underlying66 elemS rfl h24 slv_one w.heap.size (.tmp 22) (.tmp 30) rfl rfl rfl rfl hG4 hG' k5.size hsum ?_)
          intro a6 c6 w6 o6 g6 b6 v6
          have HN : Hid (AllR (Via w none) w6 w.heap.size a6 (r + r4) c6 (allX n m pre (x + 1))) := Lib.hid (by rw [hX2.out]; exact AllR.app hR4 hR5 o6 g6 v6)
          have hb6 := k5.trans b6
          clear hG4 hG' hR4 hR5 o6 g6 b6 v6 k5 hb
          go_wp2
          go_roundw
          case rel => first | exact ⟨x + 1, r + r4, a6, c6, by omega, by go_num, rfl, HN, hb6⟩ | ((repeat apply Exists.intro); exact ⟨⟨x + 1, r + r4, a6, c6, by omega, by go_num, rfl, HN, hb6⟩, rfl⟩)
          case measure => (simp [intOf] <;> omega)
      · obtain rfl : x = n := by omega
        have HN : Hid (AllR (Via w none) wr w.heap.size a' r c' (allO x (m + 1) pre)) := hA
        go_wp2
        go_ret
        exact ⟨_, _, _, rfl, HN.out.imp (fun z hz y hy => (hz y hy).imp (fun ⟨q, hq, _⟩ => by cases hq) id), hb⟩
end Go.Proofs.Ytmcckngodaeojaa
