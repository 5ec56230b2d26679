/- Walks of chapter 11: the reference's gaps. -/
import Derived.Test.YtjedmiegcbdedaaRj
import Derived.Test.YtjedmiegcbdedaaLib7
namespace Go.Proofs.Ytjedmiegcbdedaa
open Go.RowKit Store11

set_option maxHeartbeats 4000000 in
set_option maxRecDepth 100000 in
theorem among_any (a : Option Addr) (n c : Nat) (l : List Int) (r tt : Int) (F T : Nat) (w : World) (h : IsL w a n c l) (hn : n ≤ 100) (hto : tt = (T : Int) - 1) (hFT : F ≤ T) (hT : T ≤ n) :
    Calls Try.prog 95 #[.slice a n c, .int .i64 r, .int .i64 (F : Int), .int .i64 tt] w fun e w' => e = .returned (.int .i64 (amg l r F T)) ∧ w = w' := by
  have HTO := Lib.hid hto
  have h0 : amg l r F F = 0 := by unfold amg; omega
  have H0 := Lib.hid h0
  clear hto h0
  go_enter Try.func95, Try.ntmps95
  go_wp2_with fail
  go_loopw [10, 9] (fun vi vo wr => ∃ i : Nat, F ≤ i ∧ i ≤ T ∧ vi = .int .i64 (i : Int) ∧ vo = .int .i64 (amg l r F i) ∧ w = wr) (fun vi _ _ => T - (intOf vi).toNat)
  case atStart => exact ⟨F, Nat.le_refl _, hFT, rfl, by rw [H0.out], rfl⟩
  case round =>
    obtain ⟨i, hi0, hi, rfl, rfl, rfl⟩ := hrel
    by_cases hlt : i < T
    · obtain ⟨b, o, rfl, _, hc⟩ := h.cells (by omega)
      have x1 := hc i (by omega)
      have q1 : (i : Int) < (n : Int) := by omega
      have q2 : (i : Int) ≤ tt := by have := HTO.out; omega
      have hbd := amg_bd l r F i hi0 i (Nat.le_refl _)
      have hst : amg l r F (i + 1) = amg l r F i + bI (l.getD i 0 = r) := by unfold amg; rw [cnt_succ]; omega
      obtain ⟨s, hs⟩ : ∃ s, amg l r F i = s := ⟨_, rfl⟩
      obtain ⟨u, hu⟩ : ∃ u, l.getD i 0 = u := ⟨_, rfl⟩
      rw [hs, hu] at hst
      rw [hs] at hbd ⊢
      rw [hu] at x1
      have HST := Lib.hid hst
      obtain ⟨hb0, hb1⟩ := hbd
      clear hc hs hu hst
      by_cases hur : u = r
      · have HS : Hid (amg l r F (i + 1) = s + 1) := Lib.hid (by rw [HST.out, bI, if_pos hur])
        subst hur
        have e1 : (u == u) = true := by simp
        go_wp2_with fail
        go_roundw
        case rel => first | exact ⟨i + 1, by omega, by omega, by go_num, by rw [HS.out], by first | trivial | rfl⟩ | ((repeat apply Exists.intro); exact ⟨⟨i + 1, by omega, by omega, by go_num, by rw [HS.out], by first | trivial | rfl⟩, rfl⟩)
        case measure => (simp [intOf] <;> omega)
      · have HS : Hid (amg l r F (i + 1) = s) := Lib.hid (by rw [HST.out, bI, if_neg hur, Int.add_zero])
        have e1 : (u == r) = false := by simpa using hur
        clear hur
        go_wp2_with fail
        go_roundw
        case rel => first | exact ⟨i + 1, by omega, by omega, by go_num, by rw [HS.out], by first | trivial | rfl⟩ | ((repeat apply Exists.intro); exact ⟨⟨i + 1, by omega, by omega, by go_num, by rw [HS.out], by first | trivial | rfl⟩, rfl⟩)
        case measure => (simp [intOf] <;> omega)
    · obtain rfl : i = T := by omega
      have q2 : ¬ (i : Int) ≤ tt := by have := HTO.out; omega
      go_wp2
      go_ret
      exact ⟨rfl, rfl⟩

set_option maxHeartbeats 8000000 in
set_option maxRecDepth 100000 in
theorem rgaps_any (a : Option Addr) (n c : Nat) (l : List Int) (w : World) (h : IsL w a n c l) (hchk : chkL l = 0) :
    Calls Try.prog 83 #[.slice a n c] w fun e w' => ∃ a' c', e = .returned (.slice a' n c') ∧ IsL w' a' n c' (divL (gapK l)) ∧ Below w.heap.size w w' := by
  have hl := h.len
  have hs := chkL_size hchk
  have hn9 : n ≤ 9 := by omega
  have hn1 : 1 ≤ n := by omega
  have HL := Lib.hid hl
  have HD : Hid (divL (glK l n) = divL (gapK l)) := Lib.hid (by rw [← hl]; exact gl_div hchk)
  have HMC : Hid (∀ k, k < n → -1000000 ≤ l.getD k 0 ∧ l.getD k 0 ≤ 1000000) := Lib.hid (fun k hk => by have := div_bound hchk k (by omega); omega)
  have hM0 := manyL_nonneg l
  have hM1 := manyL_le l 100 (by omega) (fun k hk => by have := div_bound hchk k (by omega); omega)
  obtain ⟨M, hM⟩ : ∃ M : Nat, manyL l = (M : Int) := ⟨(manyL l).toNat, by omega⟩
  have hM100 : M ≤ 100 := by omega
  have HMM := Lib.hid hM
  clear hl hs hchk hM0 hM1 hM
  go_enter Try.func83, Try.ntmps83
  go_wp2_with fail
  go_loopw [4, 3] (fun vj vl wr => ∃ (j : Nat) (a1 : Option Addr) (c1 : Nat), j ≤ n ∧ vj = .int .i64 (j : Int) ∧ vl = .slice a1 j c1 ∧ Hid (OwnL wr 3 w.heap.size a1 j c1 (glK l j)) ∧ Below w.heap.size w wr) (fun vj _ _ => n - (intOf vj).toNat)
  case atStart => exact ⟨0, none, 0, by omega, rfl, rfl, Lib.hid (OwnL.nilL _ _ _), Below.refl _ _⟩
  case round =>
    obtain ⟨j, a1, c1, hj, rfl, rfl, hO, hb⟩ := hrel
    have hsz := hb.size
    by_cases hjn : j < n
    · have g := h.below hb
      have q0 : (j : Int) < (n : Int) := by omega
      have d0 : decide (j < n) = true := by simpa using hjn
      have hO1 := hO.out
      have h1 := hO1.isL
      have w0 : IntKind.i64.wrap ((j : Int) - 1) = (j : Int) - 1 := IntWalk.i64_in _ (by omega)
      go_wp2_with fail
      go_loopw [6, 5] (fun vi vl wr2 => ∃ s : Nat, s ≤ j ∧ vi = .int .i64 ((j : Int) - 1 - (s : Int)) ∧ vl = .int .i64 (labS l (glK l j) j s) ∧ wr = wr2) (fun vi _ _ => (intOf vi + 1).toNat)
      case atStart => exact ⟨0, by omega, by go_num, rfl, rfl⟩
      case round =>
        obtain ⟨s, hs, rfl, rfl, rfl⟩ := hrel
        by_cases hsj : s < j
        · obtain ⟨i, hi⟩ : ∃ i : Nat, (j : Int) - 1 - (s : Int) = (i : Int) := ⟨j - 1 - s, by omega⟩
          have hij : i < j := by omega
          have hij2 : j - s - 1 = i := by omega
          have HI := Lib.hid hi
          rw [hi]
          have d1 : (0 : Int) ≤ (i : Int) := by omega
          have HLS : Hid (labS l (glK l j) j (s + 1) = if tgB l i j M = true then (glK l j).getD i 0 else labS l (glK l j) j s) := Lib.hid (by rw [labS, hij2, HMM.out, Int.toNat_natCast])
          obtain ⟨lab, hlab⟩ : ∃ v, labS l (glK l j) j s = v := ⟨_, rfl⟩
          rw [hlab] at HLS ⊢
          clear hlab hi hij2
          go_wp2_with fail
          go_loopw [8, 7] (fun vm vt wr2 => ∃ m : Nat, m ≤ M ∧ vm = .int .i64 (m : Int) ∧ vt = .bool (tgB l i j m) ∧ wr = wr2) (fun vm _ _ => M - (intOf vm).toNat)
          case atStart => exact ⟨0, by omega, rfl, rfl, rfl⟩
          case round =>
            obtain ⟨m, hm, rfl, rfl, rfl⟩ := hrel
            by_cases hmM : m < M
            · have q3 : (m : Int) < (M : Int) := by omega
              have HT : Hid (tgB l i j (m + 1) = (tgB l i j m && (amg l m (i + 1) (j + 1) == 0 || amg l m (i + 1) (j + 1) == amg l m 0 n))) := Lib.hid (by rw [tgB, HL.out])
              have hbd := amg_bd l m (i + 1) (j + 1) (by omega) (j + 1) (Nat.le_refl _)
              obtain ⟨x, hx⟩ : ∃ x, amg l m (i + 1) (j + 1) = x := ⟨_, rfl⟩
              obtain ⟨y, hy⟩ : ∃ y, amg l m 0 n = y := ⟨_, rfl⟩
              obtain ⟨t, ht⟩ : ∃ t, tgB l i j m = t := ⟨_, rfl⟩
              rw [hx, hy, ht] at HT
              rw [ht]
              have HX := Lib.hid hx
              have HY := Lib.hid hy
              clear hx hy ht hbd
              have C1 : Hid (∀ w1 : World, IsL w1 a n c l → Calls Try.prog 95 #[.slice a n c, .int .i64 (m : Int), .int .i64 ((i : Int) + 1), .int .i64 (j : Int)] w1 fun e w' => e = .returned (.int .i64 x) ∧ w1 = w') := Lib.hid (fun w1 h1 => by
                have := among_any a n c l m j (i + 1) (j + 1) w1 h1 (by omega) (by omega) (by omega) (by omega)
                rwa [HX.out] at this)
              have C2 : Hid (∀ w1 : World, IsL w1 a n c l → Calls Try.prog 95 #[.slice a n c, .int .i64 (m : Int), .int .i64 0, .int .i64 ((n : Int) - 1)] w1 fun e w' => e = .returned (.int .i64 y) ∧ w1 = w') := Lib.hid (fun w1 h1 => by
                have := among_any a n c l m ((n : Int) - 1) 0 n w1 h1 (by omega) (by omega) (by omega) (by omega)
                rwa [HY.out] at this)
              cases t with
              | false =>
                go_wp2_with (first
                  | (go_at_call 66; refine (many_any _ _ _ _ _ g HMC.out).mono ?_; rintro e w9 ⟨rfl, rfl⟩; rw [HMM.out])
                  | (go_at_call 95; with_reducible refine (C1.out _ g).mono ?_; rintro e w9 ⟨rfl, rfl⟩))
                go_roundw
                case rel => first | exact ⟨m + 1, by omega, by go_num, by rw [HT.out]; rfl, by first | trivial | rfl⟩ | ((repeat apply Exists.intro); exact ⟨⟨m + 1, by omega, by go_num, by rw [HT.out]; rfl, by first | trivial | rfl⟩, rfl⟩)
                case measure => (simp [intOf] <;> omega)
              | true =>
                by_cases hx0 : x = 0
                · have e1 : (x == 0) = true := by simpa using hx0
                  go_wp2_with (first
                    | (go_at_call 66; refine (many_any _ _ _ _ _ g HMC.out).mono ?_; rintro e w9 ⟨rfl, rfl⟩; rw [HMM.out])
                    | (go_at_call 95; with_reducible refine (C1.out _ g).mono ?_; rintro e w9 ⟨rfl, rfl⟩))
                  go_roundw
                  case rel => first | exact ⟨m + 1, by omega, by go_num, by rw [HT.out, e1]; rfl, by first | trivial | rfl⟩ | ((repeat apply Exists.intro); exact ⟨⟨m + 1, by omega, by go_num, by rw [HT.out, e1]; rfl, by first | trivial | rfl⟩, rfl⟩)
                  case measure => (simp [intOf] <;> omega)
                · have e1 : (x == 0) = false := by simpa using hx0
                  obtain ⟨xy, hxy⟩ : ∃ v, (x == y) = v := ⟨_, rfl⟩
                  clear hx0
                  go_wp2_with (first
                    | (go_at_call 66; refine (many_any _ _ _ _ _ g HMC.out).mono ?_; rintro e w9 ⟨rfl, rfl⟩; rw [HMM.out])
                    | (go_at_call 95; (with_reducible refine (C1.out _ g).mono ?_); rintro e w9 ⟨rfl, rfl⟩)
                    | (go_at_call 95; (with_reducible refine (C2.out _ g).mono ?_); rintro e w9 ⟨rfl, rfl⟩))
                  go_roundw
                  case rel => first | exact ⟨m + 1, by omega, by go_num, by rw [HT.out, e1, hxy]; rfl, by first | trivial | rfl⟩ | ((repeat apply Exists.intro); exact ⟨⟨m + 1, by omega, by go_num, by rw [HT.out, e1, hxy]; rfl, by first | trivial | rfl⟩, rfl⟩)
                  case measure => (simp [intOf] <;> omega)
            · obtain rfl : m = M := by omega
              obtain ⟨t, ht⟩ : ∃ t, tgB l i j m = t := ⟨_, rfl⟩
              rw [ht] at HLS ⊢
              clear ht
              cases t with
              | false =>
                have HLS2 : Hid (labS l (glK l j) j (s + 1) = lab) := Lib.hid (by rw [HLS.out, if_neg (by simp)])
                go_wp2_with (go_at_call 66; refine (many_any _ _ _ _ _ g HMC.out).mono ?_; rintro e w9 ⟨rfl, rfl⟩; rw [HMM.out])
                go_roundw
                case rel => first | exact ⟨s + 1, by omega, by (congr 1; have := HI.out; omega), by rw [HLS2.out], by first | trivial | rfl⟩ | ((repeat apply Exists.intro); exact ⟨⟨s + 1, by omega, by (congr 1; have := HI.out; omega), by rw [HLS2.out], by first | trivial | rfl⟩, rfl⟩)
                case measure => (simp [intOf] <;> omega)
              | true =>
                have HLS2 : Hid (labS l (glK l j) j (s + 1) = (glK l j).getD i 0) := Lib.hid (by rw [HLS.out, if_pos rfl])
                obtain ⟨b, o, rfl, _, hc⟩ := h1.cells (by omega)
                have x1 := hc i hij
                have q4 : (i : Int) < (j : Int) := by omega
                obtain ⟨v, hv⟩ : ∃ v, (glK l j).getD i 0 = v := ⟨_, rfl⟩
                rw [hv] at x1 HLS2
                clear hc hv
                go_wp2_with (go_at_call 66; refine (many_any _ _ _ _ _ g HMC.out).mono ?_; rintro e w9 ⟨rfl, rfl⟩; rw [HMM.out])
                go_roundw
                case rel => first | exact ⟨s + 1, by omega, by (congr 1; have := HI.out; omega), by rw [HLS2.out], by first | trivial | rfl⟩ | ((repeat apply Exists.intro); exact ⟨⟨s + 1, by omega, by (congr 1; have := HI.out; omega), by rw [HLS2.out], by first | trivial | rfl⟩, rfl⟩)
                case measure => (simp [intOf] <;> omega)
        · obtain rfl : s = j := by omega
          have HG : Hid (glK l (s + 1) = glK l s ++ [labS l (glK l s) s s]) := Lib.hid rfl
          have d1 : (s : Int) - 1 - (s : Int) = -1 := by omega
          obtain ⟨lab, hlab⟩ : ∃ v, labS l (glK l s) s s = v := ⟨_, rfl⟩
          rw [hlab] at HG ⊢
          rw [d1]
          clear hlab d1
          go_wp2_with (at_builtin; refine wl_app_own Try.underlying22 elem3 w.heap.size (.tmp 55) (.tmp 57) rfl rfl rfl rfl (hO1.alloc _) (isL_one _ _ _) (by simp; omega) (by omega) ?_)
          intro a3 c3 w3 o3 hg3 hb3 hv3
          have hO3 : Hid (OwnL w3 3 w.heap.size a3 (s + 1) c3 (glK l (s + 1))) := Lib.hid (by rw [HG.out]; exact o3)
          have k3 := (hb.alloc hsz (.cells #[.int .i64 lab] 3)).trans hb3
          clear hg3 hb3 hv3 o3
          go_wp2
          go_roundw
          case rel => first | exact ⟨s + 1, a3, c3, by omega, by go_num, rfl, hO3, k3⟩ | ((repeat apply Exists.intro); exact ⟨⟨s + 1, a3, c3, by omega, by go_num, rfl, hO3, k3⟩, rfl⟩)
          case measure => (simp [intOf] <;> omega)
    · obtain rfl : j = n := by omega
      go_wp2_with (go_at_call 63; refine (rof_any _ _ _ _ _ hO.out.isL (by omega)).mono ?_; rintro e w9 ⟨a4, c4, rfl, h4, b4⟩)
      go_ret
      exact ⟨_, _, rfl, by rw [← HD.out]; exact h4, hb.trans (b4.mono hb.size)⟩
theorem rGaps_any (a : Option Addr) (n c : Nat) (l : List Int) (w : World) (h : IsL w a n c l) :
    Calls Try.prog 40 #[.slice a n c] w fun e w' => ∃ a' n' c', e = .returned (.tuple #[.slice a' n' c', .int .i64 (flatE l)]) ∧ IsL w' a' n' c' (gapL l) ∧ Below w.heap.size w w' := by
  by_cases hf : flatE l = 0
  · have hc : chkL l = 0 := by
      unfold flatE at hf
      split at hf
      · assumption
      · exact hf
    have HF := Lib.hid hf
    have HC := Lib.hid hc
    have HG : Hid (gapL l = divL (gapK l)) := Lib.hid (by rw [gapL, if_pos hf])
    clear hf hc
    go_enter Try.func40, Try.ntmps40
    go_wp2_with fail
    refine (rflat_any _ _ _ _ _ h).mono ?_
    rintro e w1 ⟨rfl, b1⟩
    rw [HF.out]
    go_wp2_with fail
    refine (rgaps_any _ _ _ _ _ (h.below b1) HC.out).mono ?_
    rintro e w2 ⟨a2, c2, rfl, h2, b2⟩
    go_wp2
    go_ret2
    exact ⟨_, _, _, by rw [HF.out]; rfl, by rw [HG.out]; exact h2, b1.trans (b2.mono b1.size)⟩
  · obtain ⟨x, hx⟩ : ∃ x, flatE l = x := ⟨_, rfl⟩
    have e1 : (x != 0) = true := by rw [← hx]; simpa using hf
    have e2 : (x == 0) = false := by rw [← hx]; simpa using hf
    have HG : Hid (gapL l = []) := Lib.hid (by rw [gapL, if_neg hf])
    have HX := Lib.hid hx
    clear hf hx
    go_enter Try.func40, Try.ntmps40
    go_wp2_with fail
    refine (rflat_any _ _ _ _ _ h).mono ?_
    rintro e w1 ⟨rfl, b1⟩
    rw [HX.out]
    go_wp2
    go_ret2
    exact ⟨_, _, _, by rw [HX.out]; rfl, by rw [HG.out]; exact IsL.nilL _, b1⟩
set_option maxHeartbeats 4000000 in
set_option maxRecDepth 100000 in
theorem rBack_any (a : Option Addr) (n c : Nat) (l : List Int) (w : World) (h : IsL w a n c l) :
    Calls Try.prog 42 #[.slice a n c] w fun e w' => ∃ a' n' c', e = .returned (.tuple #[.slice a' n' c', .int .i64 (flatE l)]) ∧ IsL w' a' n' c' (backL l) ∧ Below w.heap.size w w' := by
  by_cases hf : flatE l = 0
  · have hc : chkL l = 0 := by
      unfold flatE at hf
      split at hf
      · assumption
      · exact hf
    have hs := chkL_size hc
    have hl := h.len
    have HF := Lib.hid hf
    have HC := Lib.hid hc
    have hbr := back_ref hc
    rw [hl] at hbr
    have hg0 : backL l = divL (backK l) := by rw [backL, if_pos hf]
    obtain ⟨G, hG⟩ : ∃ G, divL (gapK l) = G := ⟨_, rfl⟩
    rw [hG, ← hg0] at hbr
    have HGG := Lib.hid hG
    have HBR := Lib.hid hbr
    obtain ⟨q, hq⟩ : ∃ q : Nat, (n : Int) - 1 = (q : Int) := ⟨n - 1, by omega⟩
    have hqn : n - 1 = q := by omega
    have HQN := Lib.hid hqn
    have hn9 : n ≤ 9 := by omega
    have w0 : IntKind.i64.wrap (q : Int) = (q : Int) := IntWalk.i64_in _ (by omega)
    have q1 : (q : Int) < (n : Int) := by omega
    have q3 : q < n := by omega
    clear hf hc hs hl hG hbr hg0 hqn
    have HQ := Lib.hid hq
    go_enter Try.func42, Try.ntmps42
    go_wp2_with fail
    refine (rflat_any _ _ _ _ _ h).mono ?_
    rintro e w1 ⟨rfl, b1⟩
    rw [HF.out]
    go_wp2_with fail
    refine (rgaps_any _ _ _ _ _ (h.below b1) HC.out).mono ?_
    rintro e w2 ⟨a2, c2, rfl, h2, b2⟩
    rw [HGG.out] at h2
    have k2 := b1.trans (b2.mono b1.size)
    have hsz := k2.size
    have hcap := h2.cap
    have hle := h2.le
    obtain ⟨b, o, rfl, _, hcc⟩ := h2.cells (by omega)
    have x1 := hcc q q3
    obtain ⟨v, hv⟩ : ∃ v, G.getD q 0 = v := ⟨_, rfl⟩
    rw [hv] at x1
    have HV := Lib.hid hv
    have hblt : b < w2.heap.size := h2.lt (by omega) _ rfl
    have o1 := own_lit w2.drew 3 w2.heap.size (Nat.le_refl _) ([v] : List Int) #[.int .i64 v] 1 rfl rfl (by omega)
    have h3 := ((h2.drew.pre q c2 (by omega) (by omega) (Nat.le_refl _)).alloc (.cells #[.int .i64 v] 3))
    have q4 : (q : Int) ≤ (c2 : Int) := by omega
    have q5 : (0 : Int) ≤ (q : Int) := by omega
    have HO1 := Lib.hid o1
    have HO3 := Lib.hid h3
    have al : Below w2.heap.size w2 (w2.drew.alloc (.cells #[.int .i64 v] 3)) := ((Below.refl _ w2).drew).alloc (Nat.le_refl _) _
    have y1 := (al.cell (p := ⟨b, o + q, none⟩) hblt).trans x1
    have HAL := Lib.hid al
    have HR : Hid (∀ e w9 w10 a3 n3 c3 c4 a4, e = (1 : Nat) → IsL w9 a3 (1 + q) c3 ([v] ++ G.take q) → Below w2.heap.size (w2.drew.alloc (.cells #[.int .i64 v] 3)) w9 → IsL w10 a4 (1 + q) c4 (divL ([v] ++ G.take q)) → Below w9.heap.size w9 w10 → n3 = 0 → IsL w10 a4 n c4 (backL l) ∧ Below w.heap.size w w10 ∧ 1 + q = n) := Lib.hid (fun e w9 w10 a3 n3 c3 c4 a4 _ h9 b9 h10 b10 _ => by
      have e1 : 1 + q = n := by have := HQN.out; omega
      rw [e1] at h10
      have e2 : [v] ++ G.take q = G.getD (n - 1) 0 :: G.take (n - 1) := by rw [HQN.out, HV.out]; rfl
      rw [e2, HBR.out] at h10
      refine ⟨h10, (k2.trans (HAL.out.mono hsz)).trans ((b9.mono hsz).trans (b10.mono (Nat.le_trans hsz ?_))), e1⟩
      have := b9.size
      have := HAL.out.size
      omega)
    have w00 : IntKind.i64.wrap ((n : Int) - 1) = (q : Int) := by rw [HQ.out]; exact w0
    have hq2 := HQ.out
    have hnn : Hid (n ≤ 9) := Lib.hid hn9
    clear hv hcc o1 h3 al hsz k2 b1 b2
    go_wp2_with fail
    go_region_held3 (fun w' => w'.cell? ⟨b, o + q, none⟩ = some (.int .i64 v)) (first | go_keep | (exact (hb3.cell (p := ⟨b, o + q, none⟩) hblt).trans y1) | (exact (b4.cell (p := ⟨b, o + q, none⟩) (Nat.lt_of_lt_of_le hblt (Nat.le_trans HAL.out.size hb3.size))).trans ((hb3.cell (p := ⟨b, o + q, none⟩) hblt).trans y1)))
      (first
        | ((go_at_call 63; refine (rof_any a3 (1 + q) c3 _ _ o3.isL (by have := hnn.out; omega)).mono ?_; rintro e w4 ⟨a4, c4, rfl, h4, b4⟩))
        | ((refine step_app_own Try.underlying22 elem3 w2.heap.size (.tmp 19) (.tmp 24) (by rfl) (by rfl) (by rfl) (by rfl) HO1.out HO3.out (by simp) (by omega) ?_; intro a3 c3 w3 o3 hg3 hb3 hv3)))
    obtain ⟨r1, r2, r3⟩ := HR.out _ _ _ _ _ _ _ _ rfl o3.isL hb3 h4 b4 rfl
    clear hb3 o3 h4 b4 hv3 hg3 y1 w00 hq2 w0
    go_wp2
    go_ret2
    exact ⟨_, _, _, by rw [HF.out, r3]; rfl, r1, r2⟩
  · obtain ⟨x, hx⟩ : ∃ x, flatE l = x := ⟨_, rfl⟩
    have e1 : (x != 0) = true := by rw [← hx]; simpa using hf
    have e2 : (x == 0) = false := by rw [← hx]; simpa using hf
    have HG : Hid (backL l = []) := Lib.hid (by rw [backL, if_neg hf])
    have HX := Lib.hid hx
    clear hf hx
    go_enter Try.func42, Try.ntmps42
    go_wp2_with fail
    refine (rflat_any _ _ _ _ _ h).mono ?_
    rintro e w1 ⟨rfl, b1⟩
    rw [HX.out]
    go_wp2
    go_ret2
    exact ⟨_, _, _, by rw [HX.out]; rfl, by rw [HG.out]; exact IsL.nilL _, b1⟩
end Go.Proofs.Ytjedmiegcbdedaa
