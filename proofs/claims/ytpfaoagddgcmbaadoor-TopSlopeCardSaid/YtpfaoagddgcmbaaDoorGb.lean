/- Walks of chapter 3 at the top seat: pairs in which orders differ, exchanges. -/
import Derived.Test.YtpfaoagddgcmbaaDoorGa
import Derived.Lib.SliceRun
namespace Go.Proofs.YtpfaoagddgcmbaaDoor
open Go.RowKit Grade03
theorem OwnP.weaken {w : World} {e B B' : Nat} {a : Option Addr} {n c : Nat} {A : List (Int × Int)} (h : OwnP w e B a n c A) (hB : B' ≤ B) : OwnP w e B' a n c A := by
  obtain ⟨h1, h2⟩ := h
  refine ⟨h1, ?_⟩
  rcases h2 with h2 | ⟨g, cap, cur, hv, hg, r⟩
  · exact .inl h2
  · exact .inr ⟨g, cap, cur, hv, Nat.le_trans hB hg, r⟩
/-- 'placed', its cells written out -/
theorem placed_c (a : Option Addr) (n c : Nat) (l : List Int) (w : World) (h : IsL w a n c l) (hO : IsO l) (h7 : n ≤ 7) {p0 p1 p2 p3 p4 p5 p6 : Int} (hp : plL l = [p0, p1, p2, p3, p4, p5, p6]) : Calls Tryd.prog 82 #[.slice a n c] w fun e w' => e = .returned (.agg #[I64 p0, I64 p1, I64 p2, I64 p3, I64 p4, I64 p5, I64 p6]) ∧ Below w.heap.size w w' := by
  have := placed_any a n c l w h hO h7
  rw [hp] at this
  exact this
def DiffP (la lb : List Int) (w : World) (e : Ending) (w' : World) : Prop := ∃ a' m c', e = .returned (.tuple #[.slice a' m c', .int .i64 (bothE la lb)]) ∧ OwnP w' 123 w.heap.size a' m c' (if bothE la lb = 0 then difL la lb else []) ∧ Below w.heap.size w w'
set_option maxHeartbeats 4000000 in
set_option maxRecDepth 100000 in
theorem Differ_any (a b : Option Addr) (n m0 c d : Nat) (la lb : List Int) (w : World) (h : IsL w a n c la) (h' : IsL w b m0 d lb) :
    Calls Tryd.prog 38 #[.slice a n c, .slice b m0 d] w (DiffP la lb w) := by
  have HCH := Lib.hid (checked2 a b n m0 c d la lb w h h')
  by_cases he : bothE la lb = 0
  · obtain ⟨hc1, hc2, hlen⟩ := bothE_zero.1 he
    obtain ⟨hO, hn1, hn7⟩ := chkE_zero.1 hc1
    obtain ⟨hO', _, _⟩ := chkE_zero.1 hc2
    have hl := h.len
    have hl' := h'.len
    obtain rfl : m0 = n := by omega
    rw [hl] at hn1 hn7
    have HL := Lib.hid hl
    have HO := Lib.hid hO
    have HO' := Lib.hid hO'
    have HE := Lib.hid he
    have HRES : Hid ((if bothE la lb = 0 then difL la lb else []) = difL la lb) := Lib.hid (by rw [if_pos he])
    have HB1 : Hid (∀ x y : Nat, x < m0 → y < m0 → decide ((plL la).getD x 0 < (plL la).getD y 0) = decide (bef la x y)) := Lib.hid (fun x y hx hy => plL_bef hO (by omega) (by omega) (by omega))
    have HB2 : Hid (∀ x y : Nat, x < m0 → y < m0 → decide ((plL lb).getD x 0 < (plL lb).getD y 0) = decide (bef lb x y)) := Lib.hid (fun x y hx hy => plL_bef hO' (by omega) (by omega) (by omega))
    obtain ⟨p0, p1, p2, p3, p4, p5, p6, hp⟩ := seven (plL_len la)
    obtain ⟨q0, q1, q2, q3, q4, q5, q6, hq⟩ := seven (plL_len lb)
    have HP := Lib.hid hp
    have HQ := Lib.hid hq
    clear he hc1 hc2 hlen hO hO' hl hl' hp hq
    go_enter Tryd.func38, Tryd.ntmps38
    go_wp2_with fail
    refine HCH.out.mono ?_
    rintro e w1 ⟨rfl, b1⟩
    rw [HE.out]
    go_wp2_with fail
    refine (placed_c _ _ _ _ _ (h.below b1) HO.out hn7 HP.out).mono ?_
    rintro e w2 ⟨rfl, b2⟩
    have k2 := b1.trans (b2.mono b1.size)
    go_wp2_with fail
    refine (placed_c _ _ _ _ _ (h'.below k2) HO'.out hn7 HQ.out).mono ?_
    rintro e w3 ⟨rfl, b3⟩
    have k3 := k2.trans (b3.mono k2.size)
    clear b1 b2 b3 k2 HCH
    go_wp2_with fail
    have A1 : ArrV I64 ((w3.alloc (.cells #[.int .i64 p0, .int .i64 p1, .int .i64 p2, .int .i64 p3, .int .i64 p4, .int .i64 p5, .int .i64 p6] 120)).alloc (.cells #[.int .i64 q0, .int .i64 q1, .int .i64 q2, .int .i64 q3, .int .i64 q4, .int .i64 q5, .int .i64 q6] 120)) w3.heap.size 120 (plL la) := (ArrV.new w3 _ _ _ _ rfl (by rw [HP.out]; rfl)).alloc _
    have A2 : ArrV I64 ((w3.alloc (.cells #[.int .i64 p0, .int .i64 p1, .int .i64 p2, .int .i64 p3, .int .i64 p4, .int .i64 p5, .int .i64 p6] 120)).alloc (.cells #[.int .i64 q0, .int .i64 q1, .int .i64 q2, .int .i64 q3, .int .i64 q4, .int .i64 q5, .int .i64 q6] 120)) (w3.heap.size + 1) 120 (plL lb) := ArrV.new (w3.alloc _) _ _ _ _ (by simp) (by rw [HQ.out]; rfl)
    have k4 : Below w.heap.size w ((w3.alloc (.cells #[.int .i64 p0, .int .i64 p1, .int .i64 p2, .int .i64 p3, .int .i64 p4, .int .i64 p5, .int .i64 p6] 120)).alloc (.cells #[.int .i64 q0, .int .i64 q1, .int .i64 q2, .int .i64 q3, .int .i64 q4, .int .i64 q5, .int .i64 q6] 120)) := (k3.alloc k3.size _).alloc (by have := k3.size; simp; omega) _
    obtain ⟨W, hW⟩ : ∃ W, ((w3.alloc (.cells #[.int .i64 p0, .int .i64 p1, .int .i64 p2, .int .i64 p3, .int .i64 p4, .int .i64 p5, .int .i64 p6] 120)).alloc (.cells #[.int .i64 q0, .int .i64 q1, .int .i64 q2, .int .i64 q3, .int .i64 q4, .int .i64 q5, .int .i64 q6] 120)) = W := ⟨_, rfl⟩
    obtain ⟨g1, hg1⟩ : ∃ g, w3.heap.size = g := ⟨_, rfl⟩
    rw [hW] at A1 A2 k4 ⊢
    simp only [hg1] at A1 A2 ⊢
    have HA1 := Lib.hid A1
    have HA2 := Lib.hid A2
    clear A1 A2 hW hg1 k3 HP HQ
    go_loopw [25, 9] (fun vx va wr => ∃ (x m : Nat) (a' : Option Addr) (c' : Nat), x ≤ m0 ∧ m ≤ 1000 ∧ vx = .int .i64 (x : Int) ∧ va = .slice a' m c' ∧ Hid (OwnP wr 123 W.heap.size a' m c' (difA la lb x)) ∧ Below W.heap.size W wr) (fun vx _ _ => m0 - (intOf vx).toNat)
    case atStart => exact ⟨0, 0, none, 0, by omega, by omega, rfl, rfl, Lib.hid (OwnP.nilP _ _ _), Below.refl _ _⟩
    case round =>
      obtain ⟨x, m, a', c', hx, hm, rfl, rfl, hO, hb⟩ := hrel
      by_cases hlt : x < m0
      · have q1 : (x : Int) < (m0 : Int) := by omega
        go_wp2_with fail
        go_loopw [30, 9] (fun vy va wr => ∃ (y m : Nat) (a' : Option Addr) (c' : Nat), y ≤ m0 ∧ vy = .int .i64 (y : Int) ∧ va = .slice a' m c' ∧ Hid (OwnP wr 123 W.heap.size a' m c' (difA la lb x ++ difR la lb x y)) ∧ Below W.heap.size W wr) (fun vy _ _ => m0 - (intOf vy).toNat)
        case atStart => exact ⟨0, m, a', c', by omega, rfl, rfl, by rw [difR, List.append_nil]; exact hO, hb⟩
        case round =>
          clear hO hb hm
          obtain ⟨y, m, a', c', hy, rfl, rfl, hO, hb⟩ := hrel
          have hsz := hb.size
          have hm : m ≤ 100 := by
            have h1 := hO.out.len
            rw [List.length_append] at h1
            have h2 := difA_le la lb x
            have h3 := difR_le la lb x y
            rw [HL.out] at h2
            have h4 : x * m0 ≤ 7 * 7 := Nat.mul_le_mul (by omega) hn7
            omega
          by_cases hyn : y < m0
          · have q2 : (y : Int) < (m0 : Int) := by omega
            obtain ⟨B1, hB1⟩ : ∃ B, decide (bef la x y) = B := ⟨_, rfl⟩
            obtain ⟨B2, hB2⟩ : ∃ B, decide (bef lb y x) = B := ⟨_, rfl⟩
            have HS : Hid (difR la lb x (y + 1) = difR la lb x y ++ (if B1 && B2 then [((x : Int), (y : Int))] else [])) := Lib.hid (by
              rw [difR, ← hB1, ← hB2]
              congr 1
              by_cases c1 : bef la x y <;> by_cases c2 : bef lb y x <;> simp [c1, c2])
            have HC1 := Lib.hid (first_any g1 120 (plL la) x y wr (HA1.out.below hb) (plL_len la) (by omega) (by omega) B1 (by rw [HB1.out x y hlt hyn]; exact hB1))
            have HC2 : Hid (∀ w9, Below wr.heap.size wr w9 → Calls Tryd.prog 83 #[.pointer (some ⟨g1 + 1, 0, none⟩), .int .i64 (y : Int), .int .i64 (x : Int)] w9 fun e w' => e = .returned (.bool B2) ∧ Below w9.heap.size w9 w') := Lib.hid (fun w9 hb9 => first_any (g1 + 1) 120 (plL lb) y x w9 ((HA2.out.below hb).below hb9) (plL_len lb) (by omega) (by omega) B2 (by rw [HB2.out y x hyn hlt]; exact hB2))
            clear hB1 hB2
            have hO1 := hO.out
            cases B1 with
            | false =>
              have HN : Hid (difR la lb x (y + 1) = difR la lb x y) := Lib.hid (by rw [HS.out]; simp)
              go_wp2_with (go_at_call 83; (with_reducible refine HC1.out.mono ?_); rintro e w9 ⟨rfl, b9⟩)
              have hO9 := Lib.hid (hO1.below b9)
              have k9 := hb.trans (b9.mono hsz)
              clear b9 hO1 hb hO
              go_roundw
              case rel => first | exact ⟨y + 1, m, a', c', by omega, by go_num, rfl, by rw [HN.out]; exact hO9, k9⟩ | ((repeat apply Exists.intro); exact ⟨⟨y + 1, m, a', c', by omega, by go_num, rfl, by rw [HN.out]; exact hO9, k9⟩, rfl⟩)
              case measure => (simp [intOf] <;> omega)
            | true =>
              cases B2 with
              | false =>
                have HN : Hid (difR la lb x (y + 1) = difR la lb x y) := Lib.hid (by rw [HS.out]; simp)
                go_wp2_with (first
                  | (go_at_call 83; (with_reducible refine HC1.out.mono ?_); rintro e w9 ⟨rfl, b9⟩)
                  | (go_at_call 83; (with_reducible refine (HC2.out _ b9).mono ?_); rintro e w10 ⟨rfl, b10⟩))
                have k9 := b9.trans (b10.mono b9.size)
                have hO9 := Lib.hid (hO1.below k9)
                have k10 := hb.trans (k9.mono hsz)
                clear b9 b10 k9 hO1 hb hO
                go_roundw
                case rel => first | exact ⟨y + 1, m, a', c', by omega, by go_num, rfl, by rw [HN.out]; exact hO9, k10⟩ | ((repeat apply Exists.intro); exact ⟨⟨y + 1, m, a', c', by omega, by go_num, rfl, by rw [HN.out]; exact hO9, k10⟩, rfl⟩)
                case measure => (simp [intOf] <;> omega)
              | true =>
                have HN : Hid (difA la lb x ++ difR la lb x (y + 1) = (difA la lb x ++ difR la lb x y) ++ [((x : Int), (y : Int))]) := Lib.hid (by rw [HS.out]; simp)
                go_wp2_with (first
                  | (go_at_call 83; (with_reducible refine HC1.out.mono ?_); rintro e w9 ⟨rfl, b9⟩)
                  | (go_at_call 83; (with_reducible refine (HC2.out _ b9).mono ?_); rintro e w10 ⟨rfl, b10⟩)
                  | (at_builtin; refine wl_app_pair Tryd.underlying57 info65 W.heap.size (.tmp 41) (.tmp 45) rfl rfl rfl rfl (((hO1.below b9).below b10).alloc _) (x : Int) (y : Int) (by simp [go_sem]) (by simp [go_sem]) (by have := b9.size; have := b10.size; simp; omega) (by omega) ?_))
                intro a2 c2 w3 ho2 hg2 hb2
                have k9 := b9.trans (b10.mono b9.size)
                have k10 := hb.trans (k9.mono hsz)
                have hO4 : Hid (OwnP w3 123 W.heap.size a2 (m + 1) c2 (difA la lb x ++ difR la lb x (y + 1))) := Lib.hid (by rw [HN.out]; simpa using ho2)
                have hb4 := (k10.alloc k10.size (.cells #[.int .i64 (x : Int), .int .i64 (y : Int)] 123)).trans hb2
                clear hg2 hb2 hO1 ho2 hb hO k9 k10 b9 b10
                go_wp2
                go_roundw
                case rel => first | exact ⟨y + 1, m + 1, a2, c2, by omega, by go_num, rfl, hO4, hb4⟩ | ((repeat apply Exists.intro); exact ⟨⟨y + 1, m + 1, a2, c2, by omega, by go_num, rfl, hO4, hb4⟩, rfl⟩)
                case measure => (simp [intOf] <;> omega)
          · obtain rfl : y = m0 := by omega
            have HN : Hid (difA la lb (x + 1) = difA la lb x ++ difR la lb x y) := Lib.hid (by rw [difA, HL.out])
            go_wp2
            go_roundw
            case rel => first | exact ⟨x + 1, m, a', c', by omega, by omega, by go_num, rfl, by rw [HN.out]; exact hO, hb⟩ | ((repeat apply Exists.intro); exact ⟨⟨x + 1, m, a', c', by omega, by omega, by go_num, rfl, by rw [HN.out]; exact hO, hb⟩, rfl⟩)
            case measure => (simp [intOf] <;> omega)
      · obtain rfl : x = m0 := by omega
        have HN : Hid (difL la lb = difA la lb x) := Lib.hid (by rw [difL, HL.out])
        go_wp2
        go_ret2
        exact ⟨_, _, _, by rw [HE.out]; rfl, by rw [HRES.out, HN.out]; exact hO.out.weaken k4.size, k4.trans (hb.mono k4.size)⟩
  · obtain ⟨e0, he0⟩ : ∃ e0, bothE la lb = e0 := ⟨_, rfl⟩
    have e1 : (e0 != 0) = true := by rw [← he0]; simpa using he
    have e2 : (e0 == 0) = false := by rw [← he0]; simpa using he
    have HRES : Hid ((if bothE la lb = 0 then difL la lb else []) = []) := Lib.hid (by rw [if_neg he])
    have HE := Lib.hid he0
    clear he he0
    go_enter Tryd.func38, Tryd.ntmps38
    go_wp2_with fail
    refine HCH.out.mono ?_
    rintro e w1 ⟨rfl, b1⟩
    rw [HE.out]
    go_wp2
    go_ret2
    exact ⟨_, _, _, by rw [HE.out]; rfl, by rw [HRES.out]; exact OwnP.nilP _ _ _, b1⟩
end Go.Proofs.YtpfaoagddgcmbaaDoor
namespace Go.Proofs.YtpfaoagddgcmbaaDoor
open Go.RowKit Grade03
set_option maxHeartbeats 4000000 in
set_option maxRecDepth 100000 in
theorem swap_any (B : Nat) (a : Option Addr) (n c i : Nat) (l : List Int) (w : World) (h : OwnL w 3 B a n c l) (hi : i + 1 < n) (hn : n ≤ 1000) (hB : B ≤ w.heap.size) : Calls Tryd.prog 99 #[.slice a n c, .int .i64 (i : Int)] w fun e w' => e = .returned (.tuple #[]) ∧ OwnL w' 3 B a n c (swp l i) ∧ Below B w w' ∧ w.grownBy w' (Value.slice a n c).ownBlock := by
  obtain ⟨g, rfl⟩ := h.addr (by omega)
  have hg := (h.lt _ rfl).1
  simp only [] at hg
  obtain ⟨y11, y12⟩ := h.gen.cell i 0 (by omega)
  obtain ⟨y21, y22⟩ := h.gen.cell (i + 1) 0 (by omega)
  have hs : OwnL _ 3 B (some ⟨g, 0, none⟩) n c (swp l i) := (h.set i (l.getD (i + 1) 0) (by omega)).set (i + 1) (l.getD i 0) (by omega)
  have hb : Below B w ((w.setCell ⟨g, i, none⟩ (.int .i64 (l.getD (i + 1) 0))).setCell ⟨g, i + 1, none⟩ (.int .i64 (l.getD i 0))) := ((Below.refl _ w).setCell (p := ⟨g, i, none⟩) hg _).setCell (p := ⟨g, i + 1, none⟩) hg _
  obtain ⟨u, hu⟩ : ∃ u, l.getD i 0 = u := ⟨_, rfl⟩
  obtain ⟨v, hv⟩ : ∃ v, l.getD (i + 1) 0 = v := ⟨_, rfl⟩
  rw [hu] at y11 hs hb
  rw [hv] at y21 hs hb
  have hgr : w.grownBy ((w.setCell ⟨g, i, none⟩ (.int .i64 v)).setCell ⟨g, i + 1, none⟩ (.int .i64 u)) (some g) := grown_trans (grown_setCell w g i _) (grown_setCell _ g (i + 1) _)
  have HS := Lib.hid hs
  have HG := Lib.hid hgr
  have q1 : (i : Int) < (n : Int) := by omega
  have q2 : (i : Int) + 1 < (n : Int) := by omega
  have w1 : IntKind.i64.wrap ((i : Int) + 1) = (i : Int) + 1 := IntWalk.i64_in _ (by omega)
  have q3 : (0 : Int) ≤ (i : Int) + 1 := by omega
  have q4 : ((i : Int) + 1).toNat = i + 1 := by omega
  clear hu hv hs h hgr
  go_enter Tryd.func99, Tryd.ntmps99
  go_wp2_with fail
  go_region
  all_goals
    go_wp2_with fail
    go_end0
    exact ⟨rfl, HS.out.drew, hb.drew, grown_trans HG.out (grown_drew _ _)⟩
set_option maxHeartbeats 2000000 in
set_option maxRecDepth 100000 in
theorem Clone_any (a : Option Addr) (n c : Nat) (l : List Int) (w : World) (h : IsL w a n c l) (hn : 1 ≤ n) (hs : n ≤ 1000000) : Calls Tryd.prog 87 #[.slice a n c] w fun e w' => ∃ a' c', e = .returned (.slice a' n c') ∧ OwnL w' 3 w.heap.size a' n c' l ∧ Below w.heap.size w w' := by
  obtain ⟨b, o, rfl, hb0, hc⟩ := h.cells (by omega)
  have hB := own_lit w 3 w.heap.size (Nat.le_refl _) ([] : List Int) #[] 0 rfl rfl (by decide)
  have h2 := h.alloc (.cells #[] 3)
  clear hc
  have e1 : (binOp .eql 23 (.slice (some ⟨b, o, none⟩) n c) (.slice none 0 0)).run Tryd.prog w = .ok (.bool false) w := by rw [Lib.run_eql_slice_nil w 23 3 _ _ _ _ _ Tryd.underlying23]; rfl
  go_enter Tryd.func87, Tryd.ntmps87
  go_wp2_with (at_builtin; refine wl_app_own Tryd.underlying23 elem3 w.heap.size (.tmp 5) (.tmp 6) rfl rfl rfl rfl hB h2 (by simp) (by omega) ?_)
  intro a2 c2 w2 ho hg hb2 _
  have hbb := ((Below.refl _ w).alloc (Nat.le_refl _) (.cells #[] 3)).trans hb2
  clear hg hb2
  go_wp2
  go_ret
  exact ⟨_, _, rfl, ho, hbb⟩
end Go.Proofs.YtpfaoagddgcmbaaDoor
namespace Go.Proofs.YtpfaoagddgcmbaaDoor
open Go.RowKit Grade03
set_option maxHeartbeats 2000000 in
set_option maxRecDepth 100000 in
theorem first_q (g : Nat) (t : TypeId) (L : List Int) (x y : Nat) (w : World) (hA : ArrV I64 w g t L) (hL : L.length = 7) (hx : x < 7) (hy : y < 7) (B : Bool) (hB : decide (L.getD x 0 < L.getD y 0) = B) :
    Calls Tryd.prog 83 #[.pointer (some ⟨g, 0, none⟩), .int .i64 (x : Int), .int .i64 (y : Int)] w fun e w' => e = .returned (.bool B) ∧ ∃ n, w' = w.drewN n := by
  have y1 := hA.cell x 0 (by omega)
  have y2 := hA.cell y 0 (by omega)
  obtain ⟨u, hu⟩ : ∃ u, L.getD x 0 = u := ⟨_, rfl⟩
  obtain ⟨v, hv⟩ : ∃ v, L.getD y 0 = v := ⟨_, rfl⟩
  rw [hu, hv] at hB
  rw [hu] at y1
  rw [hv] at y2
  have q1 : (x : Int) < 7 := by omega
  have q2 : (y : Int) < 7 := by omega
  clear hu hv hA hL
  go_enter Tryd.func83, Tryd.ntmps83
  go_wp2_with fail
  go_quiet (fail)
  go_wp2
  go_ret
  exact ⟨rfl, _, rfl⟩
def WayP (la lb : List Int) (w : World) (e : Ending) (w' : World) : Prop := ∃ a' m c', e = .returned (.tuple #[.slice a' m c', .int .i64 (bothE la lb)]) ∧ IsL w' a' m c' (if bothE la lb = 0 then wayR lb la else []) ∧ Below w.heap.size w w'
set_option maxHeartbeats 4000000 in
set_option maxRecDepth 100000 in
theorem Way_any (a b : Option Addr) (n m0 c d : Nat) (la lb : List Int) (w : World) (h : IsL w a n c la) (h' : IsL w b m0 d lb) :
    Calls Tryd.prog 58 #[.slice a n c, .slice b m0 d] w (WayP la lb w) := by
  have HCH := Lib.hid (checked2 a b n m0 c d la lb w h h')
  by_cases he : bothE la lb = 0
  · obtain ⟨hc1, hc2, hlen⟩ := bothE_zero.1 he
    obtain ⟨hO, hn1, hn7⟩ := chkE_zero.1 hc1
    obtain ⟨hO', _, _⟩ := chkE_zero.1 hc2
    have hl := h.len
    have hl' := h'.len
    obtain rfl : m0 = n := by omega
    rw [hl] at hn1 hn7
    have HL := Lib.hid hl
    have HLL := Lib.hid hlen
    have HO := Lib.hid hO
    have HO' := Lib.hid hO'
    have HE := Lib.hid he
    have HRES : Hid ((if bothE la lb = 0 then wayR lb la else []) = wayR lb la) := Lib.hid (by rw [if_pos he])
    have HB2 : Hid (∀ x y : Nat, x < m0 → y < m0 → decide ((plL lb).getD x 0 < (plL lb).getD y 0) = decide (bef lb x y)) := Lib.hid (fun x y hx hy => plL_bef hO' (by omega) (by omega) (by omega))
    have HD49 : Hid (dist la lb ≤ 49) := Lib.hid (dist_le (by omega))
    obtain ⟨p0, p1, p2, p3, p4, p5, p6, hp⟩ := seven (plL_len lb)
    have HP := Lib.hid hp
    have HST : Hid (WayS la lb la [] 0) := Lib.hid (WayS.start hO)
    clear he hc1 hc2 hlen hO hO' hl hl' hp
    go_enter Tryd.func58, Tryd.ntmps58
    go_wp2_with fail
    refine HCH.out.mono ?_
    rintro e w1 ⟨rfl, b1⟩
    rw [HE.out]
    go_wp2_with fail
    refine (placed_c _ _ _ _ _ (h'.below b1) HO'.out hn7 HP.out).mono ?_
    rintro e w2 ⟨rfl, b2⟩
    have k2 := b1.trans (b2.mono b1.size)
    have A1 : ArrV I64 (w2.alloc (.cells #[.int .i64 p0, .int .i64 p1, .int .i64 p2, .int .i64 p3, .int .i64 p4, .int .i64 p5, .int .i64 p6] 120)) w2.heap.size 120 (plL lb) := ArrV.new w2 _ _ _ _ rfl (by rw [HP.out]; rfl)
    have k4 : Below w.heap.size w (w2.alloc (.cells #[.int .i64 p0, .int .i64 p1, .int .i64 p2, .int .i64 p3, .int .i64 p4, .int .i64 p5, .int .i64 p6] 120)) := k2.alloc k2.size _
    clear b1 b2 k2 HCH HP
    go_wp2_with fail
    obtain ⟨W, hW⟩ : ∃ W, (w2.alloc (.cells #[.int .i64 p0, .int .i64 p1, .int .i64 p2, .int .i64 p3, .int .i64 p4, .int .i64 p5, .int .i64 p6] 120)) = W := ⟨_, rfl⟩
    obtain ⟨g1, hg1⟩ : ∃ g, w2.heap.size = g := ⟨_, rfl⟩
    rw [hW] at A1 k4 ⊢
    simp only [hg1] at A1 ⊢
    have HA1 := Lib.hid A1
    clear A1 hW hg1
    refine (Clone_any _ _ _ _ _ (h.below k4) hn1 (by omega)).mono ?_
    rintro e w3 ⟨a2, c2, rfl, hN, b3⟩
    have hN2 := Lib.hid hN
    clear hN
    go_wp2_with fail
    go_loopw [10, 9] (fun vi vo wr => ∃ (i m : Nat) (now out : List Int) (a3 : Option Addr) (c3 : Nat), i ≤ m0 ∧ vi = .int .i64 (i : Int) ∧ vo = .slice a3 m c3 ∧ m ≤ 50 ∧ Hid (WayS la lb now out i) ∧ Hid (OwnL wr 3 W.heap.size a2 m0 c2 now) ∧ Hid (OwnL wr 3 W.heap.size a3 m c3 out) ∧ Sep a2 a3 ∧ Below W.heap.size W wr) (fun vi vo _ => 2 * (100 - lenOf vo) + (100 - (intOf vi).toNat))
    case atStart => exact ⟨0, 0, la, [], none, 0, by omega, rfl, rfl, by omega, HST, hN2, Lib.hid (OwnL.nilL _ _ _), Sep.none_right _, b3⟩
    case round =>
      clear hN2 b3
      obtain ⟨i, m, now, out, a3, c3, hi, rfl, rfl, hm, hS, hN, hT, hsep, hb⟩ := hrel
      have hsz := hb.size
      have w1 : IntKind.i64.wrap ((i : Int) + 1) = (i : Int) + 1 := IntWalk.i64_in _ (by omega)
      by_cases hlt : i + 1 < m0
      · have q1 : (i : Int) + 1 < (m0 : Int) := by omega
        have q2 : (i : Int) < (m0 : Int) := by omega
        have q3 : (0 : Int) ≤ (i : Int) + 1 := by omega
        have q4 : ((i : Int) + 1).toNat = i + 1 := by omega
        obtain ⟨b, o, rfl, _, hc⟩ := hN.out.isL.cells (by omega)
        have y1 := hc i (by omega)
        have y2 := hc (i + 1) hlt
        have hlen : now.length = m0 := by rw [hS.out.len, HL.out]
        have lo1 := hS.out.ord.lo i (by omega)
        have lo2 := hS.out.ord.lo (i + 1) (by omega)
        rw [hlen] at lo1 lo2
        obtain ⟨u, hu⟩ : ∃ u : Nat, now.getD i 0 = (u : Int) := ⟨(now.getD i 0).toNat, by omega⟩
        obtain ⟨v, hv⟩ : ∃ v : Nat, now.getD (i + 1) 0 = (v : Int) := ⟨(now.getD (i + 1) 0).toNat, by omega⟩
        rw [hu] at y1 lo1
        rw [hv] at y2 lo2
        obtain ⟨B, hB⟩ : ∃ B, decide (bef lb u v) = B := ⟨_, rfl⟩
        have HOK : Hid (okP lb now i ↔ B = true) := Lib.hid (by rw [← hB, decide_eq_true_iff]; unfold okP bef; rw [hu, hv])
        have HC : Hid (∀ k, Calls Tryd.prog 83 #[.pointer (some ⟨g1, 0, none⟩), .int .i64 (u : Int), .int .i64 (v : Int)] (wr.drewN k) fun e w' => e = .returned (.bool B) ∧ ∃ n, w' = (wr.drewN k).drewN n) := Lib.hid (fun k => first_q g1 120 (plL lb) u v _ ((HA1.out.below hb).drewN k) (plL_len lb) (by omega) (by omega) B (by rw [HB2.out u v (by omega) (by omega)]; exact hB))
        clear hc hu hv hB lo1 lo2 hlen
        cases B with
        | true =>
          have hS2 : Hid (WayS la lb now out (i + 1)) := Lib.hid (hS.out.next (HOK.out.2 rfl))
          have hN1 := hN.out
          have hT1 := hT.out
          clear hN hT hS
          go_wp2_with fail
          go_quiet ((go_at_call 83; exact Calls.quiet_of (HC.out _)))
          go_wp2
          go_roundw
          case rel => first | exact ⟨i + 1, m, now, out, a3, c3, by omega, by go_num, rfl, hm, hS2, Lib.hid (hN1.drewN _), Lib.hid (hT1.drewN _), hsep, belowN hb _⟩ | ((repeat apply Exists.intro); exact ⟨⟨i + 1, m, now, out, a3, c3, by omega, by go_num, rfl, hm, hS2, Lib.hid (hN1.drewN _), Lib.hid (hT1.drewN _), hsep, belowN hb _⟩, rfl⟩)
          case measure => (simp [intOf, lenOf] <;> omega)
        | false =>
          have hnok : ¬ okP lb now i := fun e => by have := HOK.out.1 e; cases this
          have hS1 := hS.out.swap HO'.out HLL.out (by rw [HL.out]; exact hlt) hnok
          have hS2 := Lib.hid hS1
          have hm2 : m + 1 ≤ 50 := by
            have h1 := hS1.cnt
            have h2 := dist_nonneg (swp now i) lb
            have h3 := HD49.out
            have h4 := hT.out.len
            simp at h1
            omega
          have hN1 := hN.out
          have hT1 := hT.out
          clear hN hT hS hS1 hnok
          go_wp2_with fail
          go_quiet ((go_at_call 83; exact Calls.quiet_of (HC.out _)))
          rcases Nat.eq_zero_or_pos i with hi0 | hi0
          · subst hi0
            have w2 : IntKind.i64.wrap (((0 : Nat) : Int) - 1) = -1 := by decide
            go_wp2_with (first
              | (go_at_call 99; refine (swap_any W.heap.size _ m0 c2 _ now _ (hN1.drewN _) hlt (by omega) (belowN hb _).size).mono ?_; rintro e w5 ⟨rfl, hN5, b5, g5⟩)
              | (at_builtin; refine wl_app_own Tryd.underlying23 elem3 W.heap.size (.tmp 42) (.tmp 44) rfl rfl rfl rfl ((OwnL.grown (hT1.drewN _) g5 hsep.symm).alloc _) (isL_one _ _ _) (by have := b5.size; have := (belowN hb nq).size; simp; omega) (by omega) ?_))
            intro a6 c6 w6 o6 g6 b6 v6
            have hk5 := (belowN hb nq).trans b5
            have hN6 := Lib.hid ((hN5.alloc _).grown g6 hsep)
            have hO6 := Lib.hid o6
            have hS6 := (hsep.symm.via v6 (fun x hx => by have := (hN5.lt x hx).2; simp; omega)).symm
            have hk6 := (hk5.alloc hk5.size _).trans b6
            clear g6 b6 v6 o6 hN5 b5 g5 hk5 hb hT1 hN1
            go_wp2
            go_roundw
            case rel => first | exact ⟨0, m + 1, _, _, a6, c6, by omega, by go_num, rfl, hm2, hS2, hN6, hO6, hS6, hk6⟩ | ((repeat apply Exists.intro); exact ⟨⟨0, m + 1, _, _, a6, c6, by omega, by go_num, rfl, hm2, hS2, hN6, hO6, hS6, hk6⟩, rfl⟩)
            case measure => (simp [intOf, lenOf] <;> omega)
          · obtain ⟨j, rfl⟩ : ∃ j, i = j + 1 := ⟨i - 1, by omega⟩
            have w2 : IntKind.i64.wrap (((j + 1 : Nat) : Int) - 1) = (j : Int) := by rw [show ((j + 1 : Nat) : Int) - 1 = (j : Int) by omega]; exact IntWalk.i64_in _ (by omega)
            have w3 : ¬ ((j : Int) < 0) := by omega
            go_wp2_with (first
              | (go_at_call 99; refine (swap_any W.heap.size _ m0 c2 _ now _ (hN1.drewN _) hlt (by omega) (belowN hb _).size).mono ?_; rintro e w5 ⟨rfl, hN5, b5, g5⟩)
              | (at_builtin; refine wl_app_own Tryd.underlying23 elem3 W.heap.size (.tmp 42) (.tmp 44) rfl rfl rfl rfl ((OwnL.grown (hT1.drewN _) g5 hsep.symm).alloc _) (isL_one _ _ _) (by have := b5.size; have := (belowN hb nq).size; simp; omega) (by omega) ?_))
            intro a6 c6 w6 o6 g6 b6 v6
            have hk5 := (belowN hb nq).trans b5
            have hN6 := Lib.hid ((hN5.alloc _).grown g6 hsep)
            have hO6 := Lib.hid o6
            have hS6 := (hsep.symm.via v6 (fun x hx => by have := (hN5.lt x hx).2; simp; omega)).symm
            have hk6 := (hk5.alloc hk5.size _).trans b6
            clear g6 b6 v6 o6 hN5 b5 g5 hk5 hb hT1 hN1
            go_wp2
            go_roundw
            case rel => first | exact ⟨j, m + 1, _, _, a6, c6, by omega, by go_num, rfl, hm2, hS2, hN6, hO6, hS6, hk6⟩ | ((repeat apply Exists.intro); exact ⟨⟨j, m + 1, _, _, a6, c6, by omega, by go_num, rfl, hm2, hS2, hN6, hO6, hS6, hk6⟩, rfl⟩)
            case measure => (simp [intOf, lenOf] <;> omega)
      · have q1 : ¬ (i : Int) + 1 < (m0 : Int) := by omega
        obtain ⟨f1, f2⟩ := hS.out.fin HO'.out HLL.out (by rw [HL.out]; omega)
        have F1 := Lib.hid f1
        clear f1 f2
        go_wp2_with fail
        go_ret2
        exact ⟨_, _, _, by rw [HE.out]; rfl, by rw [HRES.out, ← F1.out]; exact hT.out.isL, k4.trans (hb.mono k4.size)⟩
  · obtain ⟨e0, he0⟩ : ∃ e0, bothE la lb = e0 := ⟨_, rfl⟩
    have e1 : (e0 != 0) = true := by rw [← he0]; simpa using he
    have e2 : (e0 == 0) = false := by rw [← he0]; simpa using he
    have HRES : Hid ((if bothE la lb = 0 then wayR lb la else []) = []) := Lib.hid (by rw [if_neg he])
    have HE := Lib.hid he0
    clear he he0
    go_enter Tryd.func58, Tryd.ntmps58
    go_wp2_with fail
    refine HCH.out.mono ?_
    rintro e w1 ⟨rfl, b1⟩
    rw [HE.out]
    go_wp2
    go_ret2
    exact ⟨_, _, _, by rw [HE.out]; rfl, by rw [HRES.out]; exact IsL.nilL _, b1⟩
end Go.Proofs.YtpfaoagddgcmbaaDoor
