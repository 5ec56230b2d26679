/- TopHome: the law. -/
import Derived.Test.YtpfaoagddgcmbaaDoorTk
namespace Go.Proofs.YtpfaoagddgcmbaaDoor
open Go.RowKit Dock01 Grade03 Blend04 Bench06 Home06
set_option maxRecDepth 100000
theorem take_in (l : List Int) (x : Int) (j : Nat) (h : j < l.length) : x ∈ l.take (j + 1) ↔ x ∈ l.take j ∨ l.getD j 0 = x := by
  rw [Bench06.take_succ_getD l j h, List.mem_append, List.mem_singleton]
  exact ⟨fun h => h.imp id Eq.symm, fun h => h.imp id Eq.symm⟩
set_option maxHeartbeats 8000000 in
theorem TopHome_any (bx cx mx : Int) (w : World) (hT : Tab w) (hb0 : 0 ≤ bx ∧ bx < 256) (hc0 : 0 ≤ cx ∧ cx < 256) (hm0 : 0 ≤ mx ∧ mx < 256) :
    Calls Tryd.prog 5 #[.int .u8 bx, .int .u8 cx, .int .u8 mx] w fun e w' => e = .returned (.bool true) ∧ Below w.heap.size w w' := by
  obtain ⟨hb00, hb01⟩ := hb0
  obtain ⟨hc00, hc01⟩ := hc0
  obtain ⟨hm00, hm01⟩ := hm0
  have m1 := Int.emod_nonneg bx (b := 10) (by omega)
  have m2 := Int.emod_lt_of_pos bx (b := 10) (by omega)
  obtain ⟨n, hn⟩ : ∃ n : Nat, 1 + bx % 10 = (n : Int) := ⟨(1 + bx % 10).toNat, by omega⟩
  have n1 : 1 ≤ n := by omega
  have n10 : n ≤ 10 := by omega
  have w1 : IntKind.i64.wrap (1 + bx % 10) = (n : Int) := by rw [hn]; exact IntWalk.i64_in _ (by omega)
  obtain ⟨k, hk⟩ : ∃ k : Nat, 1 + cx = (k : Int) := ⟨(1 + cx).toNat, by omega⟩
  have k1 : 1 ≤ k := by omega
  have k2 : k ≤ 1000 := by omega
  have w2 : IntKind.i64.wrap (1 + cx) = (k : Int) := by rw [hk]; exact IntWalk.i64_in _ (by omega)
  have m3 := Int.emod_nonneg mx (b := (n : Int) + 1) (by omega)
  have m4 := Int.emod_lt_of_pos mx (b := (n : Int) + 1) (by omega)
  obtain ⟨m, hm⟩ : ∃ m : Nat, mx % ((n : Int) + 1) = (m : Int) := ⟨(mx % ((n : Int) + 1)).toNat, by omega⟩
  have mn : m ≤ n := by omega
  have w3 : IntKind.i64.wrap ((n : Int) + 1) = (n : Int) + 1 := IntWalk.i64_in _ (by omega)
  have q0 : (0 : Int) < (n : Int) + 1 := by omega
  obtain ⟨c, hfc, hc1, hck, hce⟩ := hom_first (n := n) k1 k2 mn
  have HFI : Hid (firstL (n : Int) (hom n k m) = ((c : Int), 0)) := Lib.hid (by rw [firstL, if_pos (hom_ok n k m)]; exact hfc)
  have HCE := Lib.hid hce
  have HT := Lib.hid hT
  clear m1 m2 m3 m4 hn hT hfc hce
  have hbw : Below w.heap.size w (w.alloc (.cells #[.int .i64 (n : Int)] 3)) := (Below.refl _ w).alloc (Nat.le_refl _) _
  have hcw : (w.alloc (.cells #[.int .i64 (n : Int)] 3)).cell? ⟨w.heap.size, 0, none⟩ = some (.int .i64 (n : Int)) := by simp [go_sem]
  have hpl : w.heap.size < (w.alloc (.cells #[.int .i64 (n : Int)] 3)).heap.size := by simp
  obtain ⟨W, hW⟩ : ∃ W, w.alloc (.cells #[.int .i64 (n : Int)] 3) = W := ⟨_, rfl⟩
  rw [hW] at hbw hcw hpl
  have HCELL : Hid (∀ x, Below W.heap.size W x → x.cell? ⟨w.heap.size, 0, none⟩ = some (.int .i64 (n : Int))) := Lib.hid (fun x h => by rw [h.cell (p := ⟨w.heap.size, 0, none⟩) hpl]; exact hcw)
  have HTB : Hid (∀ x, Below W.heap.size W x → Tab x) := Lib.hid (fun x h => HT.out.below (hbw.trans (h.mono hbw.size)))
  have HH : Hid (∀ (m' k' : Nat) x, Below W.heap.size W x → 1 ≤ k' → k' ≤ 1000 → m' ≤ n → Calls Tryd.prog 26 #[.int .i64 (m' : Int), .int .i64 (k' : Int), .pointer (some ⟨w.heap.size, 0, none⟩)] x fun e w' => ∃ a c, e = .returned (.tuple #[.slice a m' c, .bool true]) ∧ IsL w' a m' c (hom n k' m') ∧ Below x.heap.size x w') := Lib.hid (fun m' k' x h h1 h2 h3 => home_any _ n k' m' x (HCELL.out x h) n1 n10 h1 h2 h3)
  go_enter Tryd.func5, Tryd.ntmps5
  go_wp2_with fail
  rw [hm]
  have kw := Below.refl W.heap.size W
  refine (HH.out m k W kw k1 k2 mn).mono ?_
  rintro e x1 ⟨a1, c1, rfl, hl1, b1⟩
  clear kw hcw
  have q2 := HCELL.out x1 b1
  go_wp2_with fail
  refine (First_ok (n : Int) _ _ _ (hom n k m) x1 (by omega) (by omega) hl1).mono ?_
  rintro e x2 ⟨rfl, b2⟩
  rw [HFI.out]
  have hl2 := hl1.below b2
  have kk2 := b1.trans (b2.mono b1.size)
  have q3 : ¬ (c : Int) < 1 := by omega
  have q4 : ¬ (k : Int) < (c : Int) := by omega
  clear hl1 b1 b2 q2
  go_wp2_with fail
  refine (HH.out m c x2 kk2 hc1 (by omega) mn).mono ?_
  rintro e x3 ⟨a3, c3, rfl, hl3, b3⟩
  rw [HCE.out] at hl3
  have hlb := hl2.below b3
  have kk3 := kk2.trans (b3.mono kk2.size)
  have q5 := HCELL.out x3 kk3
  clear hl2 kk2 b3
  go_wp2_with fail
  refine (Away_zero a1 a3 n m c1 c3 (hom n k m) x3 hlb hl3 n1 n10 (hom_asc n k m) (by omega)).mono ?_
  rintro e x4 ⟨rfl, rfl⟩
  by_cases hmn : m = n
  · subst hmn
    have q6 : ((m : Int) == (m : Int)) = true := by simp
    go_wp2_with fail
    refine (benchWorks_any _ (HTB.out _ kk3)).mono ?_
    rintro e x5 ⟨rfl, b5⟩
    have kk5 := (hbw.trans (kk3.mono hbw.size)).trans (b5.mono (hbw.trans (kk3.mono hbw.size)).size)
    go_wp2_with fail
    go_ret
    exact ⟨rfl, kk5⟩
  · have q6 : ((m : Int) == (n : Int)) = false := by simp; omega
    have mlt : m < n := by omega
    have HWH : Hid (∀ w, Calls Tryd.prog 32 #[.int .i64 (n : Int), .int .i64 (k : Int), .int .i64 (m : Int)] w fun e w' => e = .returned (.tuple #[.int .i64 (whoG (k : Int) (n - m) m), .int .i64 0]) ∧ w = w') := Lib.hid (fun w => by
      have := Who_ok (n : Int) (k : Int) (m : Int) w (by omega) (by omega) (by omega) (by omega) (by omega) (by omega)
      rwa [Int.toNat_natCast, Int.toNat_natCast] at this)
    have HMO := Lib.hid (fun x => hom_more (n := n) k1 mlt x)
    have HML := Lib.hid (hom_len (n := n) k1 (show m + 1 ≤ n by omega))
    have HLL := Lib.hid (hom_len (n := n) k1 mn)
    have w4 : IntKind.i64.wrap ((m : Int) + 1) = ((m + 1 : Nat) : Int) := by rw [IntWalk.i64_in _ (by omega)]; omega
    have H4 := HH.out (m + 1) k
    clear hmn hl3 HFI HCE
    go_wp2_with fail
    refine (HWH.out _).mono ?_
    rintro e x4 ⟨rfl, rfl⟩
    go_wp2_with fail
    refine (H4 _ kk3 k1 k2 (by omega)).mono ?_
    rintro e x5 ⟨a5, c5, rfl, hm5, b5⟩
    have hl5 := hlb.below b5
    have kk5 := kk3.trans (b5.mono kk3.size)
    generalize whoG (k : Int) (n - m) m = who at *
    generalize hom n k (m + 1) = M at *
    generalize hom n k m = L at *
    have HM5 := Lib.hid hm5
    have HL5 := Lib.hid hl5
    have s1 := hm5.le
    have s2 := hm5.cap
    have s3 := hl5.le
    have s4 := hl5.cap
    clear hlb kk3 b5 H4 HWH q5 w4 hm5 hl5
    go_wp2_with fail
    go_loopw [116] (fun vi wr => ∃ i : Nat, i ≤ m + 1 ∧ vi = .int .i64 (i : Int) ∧ x5 = wr) (fun vi _ => m + 1 - (intOf vi).toNat)
    case atStart => exact ⟨0, by omega, rfl, rfl⟩
    case round =>
      obtain ⟨i, hi, rfl, rfl⟩ := hrel
      have w9 : IntKind.i64.wrap ((i : Int) + 1) = (i : Int) + 1 := IntWalk.i64_in _ (by omega)
      by_cases hlt : i < m + 1
      · have p1 : (i : Int) < (m : Int) + 1 := by omega
        have p2 : (i : Int) < ((m + 1 : Nat) : Int) := by omega
        obtain ⟨bb, oo, rfl, _, hcell⟩ := HM5.out.cells (by omega)
        have d1 := hcell i hlt
        have hxm : M.getD i 0 ∈ M := by rw [List.getD, List.getElem?_eq_getElem (by rw [HML.out]; exact hlt)]; exact List.getElem_mem _
        have hiff := HMO.out _ hxm
        generalize M.getD i 0 = x at *
        have HIF := Lib.hid hiff
        clear hcell hxm hiff
        go_wp2_with fail
        go_loopw [122, 21] (fun vj vb wr => ∃ j : Nat, j ≤ m ∧ vj = .int .i64 (j : Int) ∧ vb = .bool (decide (x ∈ L.take j)) ∧ x5 = wr) (fun vj _ _ => m - (intOf vj).toNat)
        case atStart => exact ⟨0, by omega, rfl, by simp, rfl⟩
        case round =>
          obtain ⟨j, hj, rfl, rfl, rfl⟩ := hrel
          have w8 : IntKind.i64.wrap ((j : Int) + 1) = (j : Int) + 1 := IntWalk.i64_in _ (by omega)
          by_cases hjt : j < m
          · have p3 : (j : Int) < (m : Int) := by omega
            obtain ⟨b6, o6, rfl, _, hcell⟩ := HL5.out.cells (by omega)
            have d2 := hcell j hjt
            have htk := take_in L x j (by rw [HLL.out]; exact hjt)
            by_cases hin : x ∈ L.take j
            · rw [decide_eq_true hin]
              have HN : Hid (true = decide (x ∈ L.take (j + 1))) := Lib.hid (by rw [decide_eq_true (htk.2 (.inl hin))])
              generalize L.getD j 0 = y at *
              clear hcell htk hin
              go_wp2_with fail
              exact ⟨⟨j + 1, by omega, by go_num, by rw [← HN.out], by simp⟩, by simp [intOf]; omega⟩
            · rw [decide_eq_false hin]
              by_cases hy : L.getD j 0 = x
              · have HN : Hid (true = decide (x ∈ L.take (j + 1))) := Lib.hid (by rw [decide_eq_true (htk.2 (.inr hy))])
                rw [hy] at d2
                clear hcell htk hin hy
                go_wp2_with fail
                exact ⟨⟨j + 1, by omega, by go_num, by rw [← HN.out], by simp⟩, by simp [intOf]; omega⟩
              · have HN : Hid (false = decide (x ∈ L.take (j + 1))) := Lib.hid (by rw [decide_eq_false (fun h => (htk.1 h).elim hin hy)])
                have hyb : (L.getD j 0 == x) = false := by simpa using hy
                generalize L.getD j 0 = y at *
                clear hcell htk hin
                go_wp2_with fail
                exact ⟨⟨j + 1, by omega, by go_num, by rw [← HN.out], by simp⟩, by simp [intOf]; omega⟩
          · obtain rfl : j = m := by omega
            rw [List.take_of_length_le (by rw [HLL.out]; exact Nat.le_refl _)]
            by_cases hxw : x = who
            · have hnl : ¬ x ∈ L := fun h => HIF.out.1 h hxw
              rw [decide_eq_false hnl]
              have hb : (x == who) = true := by simpa using hxw
              clear hnl
              go_wp2_with fail
              exact ⟨⟨i + 1, by omega, by go_num, by simp⟩, by simp [intOf]; omega⟩
            · have hnl : x ∈ L := HIF.out.2 hxw
              rw [decide_eq_true hnl]
              have hb : (x == who) = false := by simpa using hxw
              clear hnl
              go_wp2_with fail
              exact ⟨⟨i + 1, by omega, by go_num, by simp⟩, by simp [intOf]; omega⟩
      · obtain rfl : i = m + 1 := by omega
        go_wp2_with fail
        refine (benchWorks_any _ (HTB.out _ kk5)).mono ?_
        rintro e x6 ⟨rfl, b6⟩
        have kk6 := (hbw.trans (kk5.mono hbw.size)).trans (b6.mono (hbw.trans (kk5.mono hbw.size)).size)
        go_wp2_with fail
        go_ret
        exact ⟨rfl, kk6⟩
end Go.Proofs.YtpfaoagddgcmbaaDoor
