/- Chapter 06: the walk of BenchSearched. -/
import Derived.Test.YthocenkedncoeaaWj
import Derived.Test.YthocenkedncoeaaWk
import Derived.Test.YthocenkedncoeaaPu
import Derived.Test.YthocenkedncoeaaLib2
import Derived.Laws.BitsLemmas
namespace Go.Proofs.Ythocenkedncoeaa
open Go.RowKit Bench06

theorem bit_test (s i : Nat) (hs : s < 2 ^ 32) : (bits BinOp.and IntKind.u32 ((s : Int) / 2 ^ i) 1 == 1) = s.testBit i := by
  have hq : s / 2 ^ i ≤ s := Nat.div_le_self _ _
  have e0 : ((s : Int) / 2 ^ i) = ((s / 2 ^ i : Nat) : Int) := by simp
  have hb0 : (0 : Int) ≤ (s : Int) / 2 ^ i := by rw [e0]; exact Int.natCast_nonneg _
  have hb1 : (s : Int) / 2 ^ i < 2 ^ 32 := by
    rw [e0]; exact_mod_cast Nat.lt_of_le_of_lt hq hs
  have h := bits_mask .u32 32 (by decide) (fun n h0 h1 => by rw [IntKind.wrap_u32]; omega) 1 (by decide) ((s : Int) / 2 ^ i) hb0 hb1
  have e1 : ((2 : Int) ^ 1 - 1) = 1 := by decide
  rw [e1] at h
  rw [h, Nat.testBit_eq_decide_div_mod_eq, e0]
  have e2 : ((s / 2 ^ i : Nat) : Int) % 2 ^ 1 = ((s / 2 ^ i % 2 : Nat) : Int) := by simp
  rw [e2]
  by_cases h3 : s / 2 ^ i % 2 = 1
  · simp [h3]
  · simp [h3]; omega

set_option maxHeartbeats 4000000 in
set_option maxRecDepth 100000 in
theorem BenchSearched_any (a0 a1 a2 : Int) (h0 : (Lit.int .u8 a0).wf = true) (h1 : (Lit.int .u8 a1).wf = true) (h2 : (Lit.int .u32 a2).wf = true) (w : World) :
    Calls Try.prog 11 #[.int .u8 a0, .int .u8 a1, .int .u32 a2] w fun e w' => e = .returned (.bool true) ∧ Below w.heap.size w w' := by
  have b0 : 0 ≤ a0 ∧ a0 ≤ 255 := by simp [Lit.wf, IntKind.min, IntKind.max, IntKind.signed, IntKind.bits] at h0; omega
  have b1 : 0 ≤ a1 ∧ a1 ≤ 255 := by simp [Lit.wf, IntKind.min, IntKind.max, IntKind.signed, IntKind.bits] at h1; omega
  have b2 : 0 ≤ a2 ∧ a2 ≤ 4294967295 := by simp [Lit.wf, IntKind.min, IntKind.max, IntKind.signed, IntKind.bits] at h2; omega
  obtain ⟨b00, b01⟩ := b0
  obtain ⟨b10, b11⟩ := b1
  obtain ⟨b20, b21⟩ := b2
  clear h0 h1 h2
  obtain ⟨s, rfl⟩ := Int.eq_ofNat_of_zero_le b20
  obtain ⟨n, hn⟩ : ∃ n : Nat, 1 + a0 % 12 = (n : Int) := ⟨(1 + a0 % 12).toNat, by omega⟩
  have n0 : 1 ≤ n := by omega
  have n1 : n ≤ 12 := by omega
  obtain ⟨r, hr⟩ : ∃ r : Nat, a1 % (n : Int) = (r : Int) := ⟨(a1 % (n : Int)).toNat, by have := Int.emod_nonneg a1 (show (n : Int) ≠ 0 by omega); omega⟩
  have r1 : r < n := by have := Int.emod_lt_of_pos a1 (show (0 : Int) < (n : Int) by omega); omega
  have hnz : ((n : Int) == 0) = false := by simp; omega
  go_enter Try.func11, Try.ntmps11
  go_wp2
  rw [hr]
  go_loopw [9, 34] (fun v vi wr => ∃ (i : Nat) (a : Option Addr) (m c : Nat), i ≤ n ∧ m ≤ i ∧ vi = .int .i64 i ∧ v = .slice a m c ∧ OwnL wr 3 w.heap.size a m c (homeB s i) ∧ Below w.heap.size w wr) (fun _ vi _ => n - (intOf vi).toNat)
  case atStart => exact ⟨0, none, 0, 0, by omega, by omega, rfl, rfl, OwnL.nilL _ _ _, Below.refl _ _⟩
  case round =>
    obtain ⟨i, a, m, c, hi, hmi, rfl, rfl, hown, hb⟩ := hrel
    have hsz := hb.size
    by_cases hin : i < n
    · have hsucc := homeB_succ s i
      rw [← bit_test s i (by omega)] at hsucc
      by_cases hbit : (bits BinOp.and IntKind.u32 ((s : Int) / 2 ^ i) 1 == 1) = true
      · rw [if_pos hbit] at hsucc
        go_wp2_with (at_builtin; refine wl_app_own Try.underlying22 elem3 w.heap.size (.tmp 42) (.tmp 44) rfl rfl rfl rfl (hown.alloc _) (isL_one _ _ _) (by simp; omega) (by omega) ?_)
        intro a2 c2 w1 hown1 hg1 hb1 _
        have hb2 := (hb.alloc hsz (.cells #[.int .i64 i] 3)).trans hb1
        clear hg1 hb1 hown
        rw [← hsucc] at hown1
        go_wp2
        go_roundw
        case rel => exact ⟨i + 1, a2, m + 1, c2, by omega, by omega, by go_num, rfl, hown1, hb2⟩
        case measure => simp [intOf]; omega
      · rw [if_neg hbit, List.append_nil] at hsucc
        have hbit2 : (bits BinOp.and IntKind.u32 ((s : Int) / 2 ^ i) 1 == 1) = false := by simpa using hbit
        clear hbit
        rw [← hsucc] at hown
        go_wp2
        go_roundw
        case rel => exact ⟨i + 1, a, m, c, by omega, by omega, by go_num, rfl, hown, hb⟩
        case measure => simp [intOf]; omega
    · obtain rfl : i = n := by omega
      have hh := hown.isL
      have hhlen := hh.len
      obtain ⟨p, hp⟩ : ∃ p, smallP (i : Int) (r : Int) = p := ⟨_, rfl⟩
      obtain ⟨q, hq⟩ : ∃ q, firstP (i : Int) (homeB s i) = q := ⟨_, rfl⟩
      have HPk : ∀ k, 1 ≤ k → ((ordL i k).getD (i - 1) 0 == (r : Int)) = p k := fun k hk => by rw [← hp]; exact (smallP_last i k r n0 hk).symm
      have HQk : ∀ k, ((ordL i k).take m).all (fun x => decide (x ∈ homeB s i)) = q k := fun k => by rw [← hq, firstP_all i k _ (homeB_len s i), hhlen]
      have hfl : firstL (i : Int) (homeB s i) = tryL q := by rw [firstL, if_pos (homeB_ok s i), hq]
      generalize homeB s i = home at *
      have HP := Lib.hid HPk
      have HQ := Lib.hid HQk
      have HFL := Lib.hid hfl
      have HSp := Lib.hid hp
      clear HPk HQk hfl hp hq hown hn hr
      go_wp2_with fail
      refine (Smallest_ok _ _ _ (by omega) (by omega) (by omega) (by omega)).mono ?_
      rintro e w1 ⟨rfl, bw1⟩
      rw [HSp.out]
      have hh1 := hh.below bw1
      have k1 := hb.trans (bw1.mono hsz)
      clear bw1 hh
      go_wp2_with fail
      refine (First_ok _ _ _ _ _ _ (by omega) (by omega) hh1).mono ?_
      rintro e w2 ⟨rfl, bw2⟩
      rw [HFL.out]
      have hh2 := hh1.below bw2
      have k2 := k1.trans (bw2.mono k1.size)
      clear bw2 hh1 k1 hb hsz HSp HFL
      go_wp2
      go_loopw [15, 16, 17] (fun vx vy vk wr => ∃ (k x y : Nat), 1 ≤ k ∧ k ≤ 1001 ∧ vk = .int .i64 k ∧ vx = .int .i64 x ∧ vy = .int .i64 y ∧ Hid (fnd p (k - 1) = x) ∧ Hid (fnd q (k - 1) = y) ∧ IsL wr a m c home ∧ Below w.heap.size w wr) (fun _ _ vk _ => 1001 - (intOf vk).toNat)
      case atStart => exact ⟨1, 0, 0, by omega, by omega, rfl, rfl, rfl, Lib.hid rfl, Lib.hid rfl, hh2, k2⟩
      case round =>
        obtain ⟨k, x, y, k0, k1, rfl, rfl, rfl, hX, hY, hh3, k3⟩ := hrel
        generalize wr = wo at *
        obtain ⟨K, rfl⟩ : ∃ K, k = K + 1 := ⟨k - 1, by omega⟩
        rw [Nat.add_sub_cancel] at hX hY
        by_cases hmore : K + 1 ≤ 1000 ∧ (x = 0 ∨ y = 0)
        · obtain ⟨k1', hxy⟩ := hmore
          obtain ⟨z, hz⟩ : ∃ z, (ordL i (K + 1)).getD (i - 1) 0 = z := ⟨_, rfl⟩
          have hzp := HP.out (K + 1) k0
          rw [hz] at hzp
          have hcase : (x = 0 ∧ (z == (r : Int)) = true ∧ Hid (fnd p (K + 1) = K + 1)) ∨ (x = 0 ∧ (z == (r : Int)) = false ∧ Hid (fnd p (K + 1) = 0)) ∨ (((x : Int) == 0) = false ∧ Hid (fnd p (K + 1) = x) ∧ ((y : Int) == 0) = true ∧ Hid (y = 0)) := by
            rcases Nat.eq_zero_or_pos x with h | h
            · cases hp : p (K + 1) with
              | true => exact .inl ⟨h, by rw [hzp, hp], Lib.hid (fnd_hit p K (hX.out.trans h) hp)⟩
              | false => exact .inr (.inl ⟨h, by rw [hzp, hp], Lib.hid (fnd_miss p K (hX.out.trans h) hp)⟩)
            · exact .inr (.inr ⟨by simp; omega, Lib.hid ((fnd_keep p K (by rw [hX.out]; omega)).trans hX.out), by simp; omega, Lib.hid (by omega)⟩)
          have HZ := Lib.hid hz
          clear hz hzp hxy
          have hnn : decide (K + 1 ≤ 1000) = true := by simpa using k1'
          rcases hcase with ⟨rfl, hz1, HX2⟩ | ⟨rfl, hz1, HX2⟩ | ⟨hz1, HX2, hy4, hy5⟩
          all_goals
            go_wp2
            go_loopw [18, 72] (fun v vi wr => ∃ (j : Nat) (a : Option Addr) (c : Nat), j ≤ i ∧ vi = .int .i64 j ∧ v = .slice a j c ∧ OwnL wr 3 wo.heap.size a j c (rng j) ∧ Below wo.heap.size wo wr) (fun _ vi _ => i - (intOf vi).toNat)
            case atStart => exact ⟨0, none, 0, by omega, rfl, rfl, OwnL.nilL _ _ _, Below.refl _ _⟩
            case round =>
              obtain ⟨j, a5, c5, hj, rfl, rfl, hs5, b5⟩ := hrel
              have hsz5 := b5.size
              by_cases hji : j < i
              · go_wp2_with (at_builtin; refine wl_app_own Try.underlying22 elem3 wo.heap.size (.tmp 75) (.tmp 77) rfl rfl rfl rfl (hs5.alloc _) (isL_one _ _ _) (by simp; omega) (by omega) ?_)
                intro a6 c6 w6 hown6 hg6 hb6 _
                have hb7 := (b5.alloc hsz5 (.cells #[.int .i64 j] 3)).trans hb6
                clear hg6 hb6 hs5
                rw [← rng_succ] at hown6
                go_wp2
                go_roundw
                case rel => exact ⟨j + 1, a6, c6, by omega, by go_num, rfl, hown6, hb7⟩
                case measure => simp [intOf]; omega
              · obtain rfl : j = i := by omega
                obtain ⟨g, rfl⟩ := hs5.addr (by omega)
                go_wp2
                go_loopw [18, 19, 21] (fun v vo vt wr => ∃ (m t co : Nat) (l out : List Int) (ao : Option Addr), m ≤ j ∧ t ≤ m ∧ v = .slice (some ⟨g, 0, none⟩) m c5 ∧ vo = .slice ao (j - m) co ∧ vt = .int .i64 t ∧ OwnL wr 3 wo.heap.size (some ⟨g, 0, none⟩) m c5 l ∧ OwnL wr 3 wo.heap.size ao (j - m) co out ∧ Sep (some ⟨g, 0, none⟩) ao ∧ Hid (out ++ ordG (K + 1) m (rotA l t) = ordL j (K + 1)) ∧ Below wo.heap.size wo wr) (fun v _ _ _ => lenOf v)
                case atStart => exact ⟨j, 0, 0, rng j, [], none, by omega, by omega, rfl, by simp, rfl, hs5, by simpa using OwnL.nilL _ _ _, Sep.none_right _, Lib.hid (by simp [rotA_zero, ordL]), b5⟩
                case round =>
                  obtain ⟨m6, t, co, l, out, ao, hm6, ht6, rfl, rfl, rfl, hs6, ho6, sep6, H6, b6⟩ := hrel
                  have hsz6 := b6.size
                  by_cases hm0 : 0 < m6
                  · have hmz : ((m6 : Int) == 0) = false := by simp; omega
                    obtain ⟨jj, hjj⟩ : ∃ jj, (t + K) % m6 = jj := ⟨_, rfl⟩
                    have hjm : jj < m6 := by rw [← hjj]; exact Nat.mod_lt _ hm0
                    have hq : ((t : Int) + ((K : Int) + 1) - 1) % (m6 : Int) = (jj : Int) := by
                      rw [← hjj]; push_cast; congr 1; omega
                    have hlen6 := hs6.len
                    have hst := seat_step (K + 1) m6 t l out hlen6 hm0 (by omega) ht6
                    rw [Nat.add_sub_cancel, hjj] at hst
                    have HN : Hid (out ++ [l.getD jj 0] ++ ordG (K + 1) (m6 - 1) (rotA (l.eraseIdx jj) jj) = ordL j (K + 1)) := Lib.hid (hst ▸ H6.out)
                    have hcell : wr.cell? ⟨g, jj, none⟩ = some (.int .i64 (l.getD jj 0)) := by
                      obtain ⟨_, _, _, _, _, _, _, hx, _, _⟩ := hs6.parts
                      exact hx jj hjm
                    have hjn : j - m6 + 1 = j - (m6 - 1) := by omega
                    clear hst hjj H6
                    generalize l.getD jj 0 = zz at *
                    go_wp2_with (at_builtin; refine wl_app_own Try.underlying22 elem3 wo.heap.size (.tmp 90) (.tmp 95) rfl rfl rfl rfl (ho6.alloc _) (isL_one _ _ _) (by simp; omega) (by omega) ?_)
                    intro a8 c8 w8 ho8 hg8 hb8 hv8
                    have hs8 := (hs6.alloc (.cells #[.int .i64 zz] 3)).grown hg8 sep6
                    have hb9 := (b6.alloc hsz6 (.cells #[.int .i64 zz] 3)).trans hb8
                    have sep8 : Sep (some ⟨g, 0, none⟩) a8 := (sep6.symm.via hv8 (fun x hx => by have := (hs6.lt x hx).2; simp; omega)).symm
                    clear hg8 hb8 hs6 ho6 hv8 hcell b6
                    go_wp2_with fail
                    refine (delete_one g m6 c5 _ jj l _ hs8 hjm).mono ?_
                    rintro e w9 ⟨rfl, hs9, hg9⟩
                    have ho9 := ho8.grownS hg9 sep8.symm
                    have hb10 := hb9.grown hg9 hb9.size (fun k hk => by cases hk; exact (hs8.lt _ rfl).1)
                    clear hg9 hb9 hs8 ho8
                    go_wp2
                    go_roundw
                    case rel => exact ⟨m6 - 1, jj, c8, l.eraseIdx jj, out ++ [zz], a8, by omega, by omega, rfl, rfl, rfl, hs9, ho9, sep8, HN, hb10⟩
                    case measure => simp [lenOf]; omega
                  · obtain rfl : m6 = 0 := by omega
                    have hout : out = ordL j (K + 1) := by simpa [ordG] using H6.out
                    have hlo := ho6.len
                    rw [Nat.sub_zero] at ho6 hlo ⊢
                    obtain ⟨g2, rfl⟩ := ho6.addr (by omega)
                    obtain ⟨_, _, _, hjco, hcom, _, _, hcel, _, _⟩ := ho6.parts
                    have hcm2 : co ≤ 9223372036854775807 := by simpa [maxLen] using hcom
                    have hqk := HQ.out (K + 1)
                    have hzc := hcel (j - 1) (by omega)
                    rw [hout, HZ.out] at hzc
                    rw [← hout] at hqk
                    have hh6 := hh3.below b6
                    have k6 := k3.trans (b6.mono k3.size)
                    have HC := Lib.hid hcel
                    have HQ2 := Lib.hid hqk
                    have hmco : m ≤ co := by omega
                    clear hout hcel hqk H6 hcom
                    go_wp2
                    go_loop [22, 119] (fun vg vi => ∃ b : Nat, b ≤ m ∧ vi = .int .i64 b ∧ vg = .bool ((out.take b).all fun x => decide (x ∈ home))) (fun _ vi => m - (intOf vi).toNat)
                    case atStart => exact ⟨0, by omega, rfl, by simp⟩
                    case round =>
                      obtain ⟨b, hb, rfl, rfl⟩ := hrel
                      by_cases hbm : b < m
                      · have hcb := HC.out b (by omega)
                        have htk : (out.take (b + 1)).all (fun x => decide (x ∈ home)) = ((out.take b).all (fun x => decide (x ∈ home)) && decide (out.getD b 0 ∈ home)) := by
                          rw [take_succ_getD out b (by omega), List.all_append]; simp
                        obtain ⟨gd', hgd⟩ : ∃ g, (out.take (b + 1)).all (fun x => decide (x ∈ home)) = g := ⟨_, rfl⟩
                        rw [hgd] at htk
                        have HG := Lib.hid hgd
                        clear hgd
                        generalize (out.take b).all (fun x => decide (x ∈ home)) = gd at *
                        generalize out.getD b 0 = v at *
                        cases gd with
                        | false =>
                          obtain rfl : gd' = false := by simpa using htk
                          clear htk
                          go_wp2
                          go_round
                          case rel => exact ⟨b + 1, by omega, by go_num, by rw [HG.out]⟩
                          case measure => simp [intOf]; omega
                        | true =>
                          by_cases hvh : v ∈ home
                          · obtain rfl : gd' = true := by simpa [hvh] using htk
                            clear htk
                            go_wp2_with (go_at_call 40; refine (contains_yes a m c home v _ hh6 hvh).mono ?_; rintro e w' ⟨rfl, rfl⟩)
                            go_round
                            case rel => exact ⟨b + 1, by omega, by go_num, by rw [HG.out]⟩
                            case measure => simp [intOf]; omega
                          · obtain rfl : gd' = false := by simpa [hvh] using htk
                            clear htk
                            go_wp2_with (go_at_call 40; refine (contains_no a m c home v _ hh6 hvh).mono ?_; rintro e w' ⟨rfl, rfl⟩)
                            go_round
                            case rel => exact ⟨b + 1, by omega, by go_num, by rw [HG.out]⟩
                            case measure => simp [intOf]; omega
                      · obtain rfl : b = m := by omega
                        rw [HQ2.out]
                        rcases Nat.eq_zero_or_pos y with hy0 | hy0
                        · have hYK := hY.out.trans hy0
                          first
                            | subst hy0
                            | skip
                          cases hqv : q (K + 1) with
                          | true =>
                            have HY2 : Hid (fnd q (K + 1) = K + 1) := Lib.hid (fnd_hit q K hYK hqv)
                            clear hqv HQ2 hYK
                            go_wp2
                            go_roundw
                            case rel => exact ⟨K + 2, _, _, by omega, by omega, by go_num, by go_num, by go_num, HX2, HY2, hh6, k6⟩
                            case measure => simp [intOf]; omega
                          | false =>
                            have HY2 : Hid (fnd q (K + 1) = 0) := Lib.hid (fnd_miss q K hYK hqv)
                            clear hqv HQ2 hYK
                            go_wp2
                            go_roundw
                            case rel => exact ⟨K + 2, _, _, by omega, by omega, by go_num, by go_num, by go_num, HX2, HY2, hh6, k6⟩
                            case measure => simp [intOf]; omega
                        · first
                            | exact absurd hy5.out (by omega)
                            | (have HY2 : Hid (fnd q (K + 1) = y) := Lib.hid ((fnd_keep q K (by rw [hY.out]; omega)).trans hY.out)
                               have hyz : ((y : Int) == 0) = false := by simp; omega
                               clear HQ2
                               generalize q (K + 1) = qv at *
                               go_wp2
                               go_roundw
                               case rel => exact ⟨K + 2, _, _, by omega, by omega, by go_num, by go_num, by go_num, HX2, HY2, hh6, k6⟩
                               case measure => simp [intOf]; omega)
        · have hend : (x ≠ 0 ∧ y ≠ 0) ∨ K = 1000 := by omega
          have hF1 := fnd_end p K x (by omega) hX.out (by omega)
          have hF2 := fnd_end q K y (by omega) hY.out (by omega)
          have hT1 := tryL_fnd p
          have hT2 := tryL_fnd q
          rw [hF1] at hT1
          rw [hF2] at hT2
          clear hF1 hF2 hX hY HP HQ hmore
          have hcase : (K + 1 = 1001 ∧ x = 0 ∧ y = 0) ∨ (K + 1 = 1001 ∧ x = 0 ∧ 0 < y) ∨ (K + 1 = 1001 ∧ 0 < x ∧ y = 0) ∨ (K + 1 = 1001 ∧ 0 < x ∧ 0 < y) ∨ (K + 1 ≤ 1000 ∧ 0 < x ∧ 0 < y) := by omega
          have hx1 : (0 < x → ((x : Int) == 0) = false) ∧ (0 < y → ((y : Int) == 0) = false) := ⟨fun h => by simp; omega, fun h => by simp; omega⟩
          rcases hcase with ⟨hK, rfl, rfl⟩ | ⟨hK, rfl, hy⟩ | ⟨hK, hx, rfl⟩ | ⟨hK, hx, hy⟩ | ⟨hK, hx, hy⟩
          · rw [if_pos rfl] at hT1 hT2
            rw [hT1, hT2]
            obtain rfl : K = 1000 := by omega
            clear hend hx1 hT1 hT2
            go_wp2_with fail
            refine (works_any _).mono ?_
            rintro e w9 ⟨rfl, b9⟩
            have k9 := chain k3 b9
            go_wp2
            go_ret
            exact ⟨rfl, k9⟩
          · rw [if_pos rfl] at hT1
            rw [if_neg (by omega)] at hT2
            rw [hT1, hT2]
            obtain rfl : K = 1000 := by omega
            have hy1 := hx1.2 hy
            clear hend hx1 hT1 hT2
            go_wp2_with fail
            refine (works_any _).mono ?_
            rintro e w9 ⟨rfl, b9⟩
            have k9 := chain k3 b9
            go_wp2
            go_ret
            exact ⟨rfl, k9⟩
          · rw [if_neg (by omega)] at hT1
            rw [if_pos rfl] at hT2
            rw [hT1, hT2]
            obtain rfl : K = 1000 := by omega
            have hxx := hx1.1 hx
            have hxp : (0 : Int) < (x : Int) := by omega
            have hxd : decide (0 < x) = true := by simpa using hx
            clear hend hx1 hT1 hT2
            go_wp2_with fail
            refine (works_any _).mono ?_
            rintro e w9 ⟨rfl, b9⟩
            have k9 := chain k3 b9
            go_wp2
            go_ret
            exact ⟨rfl, k9⟩
          · rw [if_neg (by omega)] at hT1
            rw [if_neg (by omega)] at hT2
            rw [hT1, hT2]
            obtain rfl : K = 1000 := by omega
            have hxx := hx1.1 hx
            have hyy := hx1.2 hy
            have hxp : (0 : Int) < (x : Int) := by omega
            have hxd : decide (0 < x) = true := by simpa using hx
            clear hend hx1 hT1 hT2
            go_wp2_with fail
            refine (works_any _).mono ?_
            rintro e w9 ⟨rfl, b9⟩
            have k9 := chain k3 b9
            go_wp2
            go_ret
            exact ⟨rfl, k9⟩
          · rw [if_neg (by omega)] at hT1
            rw [if_neg (by omega)] at hT2
            rw [hT1, hT2]
            have hxx := hx1.1 hx
            have hyy := hx1.2 hy
            have hxp : (0 : Int) < (x : Int) := by omega
            have hxd : decide (0 < x) = true := by simpa using hx
            have hnn : decide (K + 1 ≤ 1000) = true := by simpa using hK
            clear hend hx1 hT1 hT2
            go_wp2_with fail
            refine (works_any _).mono ?_
            rintro e w9 ⟨rfl, b9⟩
            have k9 := chain k3 b9
            go_wp2
            go_ret
            exact ⟨rfl, k9⟩
end Go.Proofs.Ythocenkedncoeaa
