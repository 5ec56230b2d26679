/- Walks of chapter 2: the largest choice; a plan is checked; the fewest hands. -/
import Derived.Test.YtpfaoagddgcmbaaDoorHk
import Derived.ArgAppend
namespace Go.Proofs.YtpfaoagddgcmbaaDoor
open Go.RowKit Heap02
section
variable {P : Program} {t e : TypeId} (ht : P.underlying t = some (.slice e))
  (he : (P.info? e).map (fun i => (i.zero, i.size, i.bytes)) = some (some (.agg #[.int .i64 0, .int .i64 0]), 2, 16))
include ht he
/-- append of one heap: what the row was before still reads -/
theorem run_app_heap (w : World) (B ty : Nat) (a : Option Addr) (n c g : Nat) (A : List Hp) (x y : Int) (h : OwnP w e B a n c A) (h0 : w.cell? ⟨g, 0, none⟩ = some (.int .i64 x)) (h1 : w.cell? ⟨g, 1, none⟩ = some (.int .i64 y)) (hB : B ≤ w.heap.size) (hsmall : n + 1 ≤ 1000000) :
    ∃ a2 c2 w', (Builtin.append_ #[t, t] ty #[.slice a n c, .slice (some ⟨g, 0, none⟩) 1 1]).run P w = .ok (.slice a2 (n + 1) c2) w' ∧ OwnP w' e B a2 (n + 1) c2 (A ++ [(x, y)]) ∧ OwnP w' e B a n c A ∧ w.grownBy w' (Value.slice a n c).ownBlock ∧ Via w a a2 := by
  obtain ⟨i, hi, hz, hs, hby⟩ := info_parts he
  have hnews : ∀ j u, ([Value.int .i64 x, Value.int .i64 y] : List Value)[j]? = some u → w.cell? ((⟨g, 0, none⟩ : Addr).add j) = some u := by
    intro j u hj
    match j, hj with
    | 0, hj => simp at hj; subst hj; simpa [Addr.add] using h0
    | 1, hj => simp at hj; subst hj; simpa [Addr.add] using h1
  have fresh : ∀ v' w', w'.ownsRow w.heap.size e 2 v' (n + 1) (pairF A ++ [Value.int .i64 x, Value.int .i64 y]) →
      ∃ a2 c2, v' = .slice a2 (n + 1) c2 ∧ OwnP w' e B a2 (n + 1) c2 (A ++ [(x, y)]) ∧ Via w a a2 := by
    intro v' w' h2
    rw [pairF_snoc] at h2
    have hsh : ∃ g2 c2, v' = .slice (some ⟨g2, 0, none⟩) (n + 1) c2 ∧ w.heap.size ≤ g2 := by
      rcases h2.2 with ⟨rfl, h0⟩ | ⟨g, cap, cur, rfl, hg, _⟩
      · omega
      · exact ⟨_, _, rfl, hg⟩
    obtain ⟨g2, c2, rfl, hg2⟩ := hsh
    exact ⟨_, c2, rfl, OwnP.weakenP (B' := B) h2 hB, fun q hq => .inr (by cases hq; exact hg2)⟩
  rcases h.2 with ⟨hv, hn⟩ | ⟨gg, cap, cur, hv, hg, hh, hnc, hcm, hcs, htk⟩
  · simp only [Value.slice.injEq] at hv
    obtain ⟨rfl, rfl, rfl⟩ := hv
    obtain rfl : A = [] := List.eq_nil_of_length_eq_zero h.len
    obtain ⟨v', w', hr, h2, h3, _⟩ := run_append_own (P := P) w w.heap.size t ty e i _ 2 16 ht hi hz hs hby rfl (by decide) (.slice none 0 0) 0 [] (World.ownsRow_nil w _ e 2) ⟨g, 0, none⟩ 1 1 [Value.int .i64 x, Value.int .i64 y]
      rfl hnews (by simp [Value.oneCell']) (by unfold maxLen; omega) (by omega) (Nat.le_refl _)
    obtain ⟨a2, c2, rfl, h5, h6⟩ := fresh v' w' (by simpa [pairF] using h2)
    exact ⟨a2, c2, w', hr, h5, OwnP.nilP _ _ _, h3, h6⟩
  · simp only [Value.slice.injEq] at hv
    obtain ⟨rfl, _, rfl⟩ := hv
    by_cases hroom : n + 1 ≤ c
    · obtain ⟨w', hr, h2, h3⟩ := run_append_fits (P := P) w B t ty e i 2 ht hi hs gg n c (pairF A) h ⟨g, 0, none⟩ 1 1 [Value.int .i64 x, Value.int .i64 y] rfl hnews (by simp [Value.oneCell']) hroom
      rw [pairF_snoc] at h2
      have h4 : OwnP w' e B (some ⟨gg, 0, none⟩) (n + 1) c (A ++ [(x, y)]) := h2
      have h5 := h4.front (m := n) (by omega)
      rw [List.take_left' h.len] at h5
      exact ⟨_, _, w', hr, h4, h5, h3, Via.refl _ _⟩
    · obtain ⟨v', w', hr, h2, h3⟩ := run_append_arg_grows (P := P) w t ty e i _ 2 16 ht hi hz hs hby rfl (by decide) ⟨gg, 0, none⟩ n c (pairF A) h.1 (by
          intro j u hj
          have hj2 : j < (pairF A).length := (List.getElem?_eq_some_iff.1 hj).1
          rw [pairF_len, h.len] at hj2
          rw [add_lit0, Nat.zero_add]
          obtain ⟨e1, e2⟩ := pairF_fst A (j / 2) (by rw [h.len]; omega)
          obtain ⟨d1, d2⟩ := h.cell (j / 2) (by omega)
          rcases Nat.mod_two_eq_zero_or_one j with h0 | h0
          · have ej : j = j / 2 * 2 := by omega
            rw [← ej] at e1 d1
            rw [d1, ← e1, hj]
          · have ej : j = j / 2 * 2 + 1 := by omega
            rw [← ej] at e2 d2
            rw [d2, ← e2, hj]) ⟨g, 0, none⟩ 1 1 [Value.int .i64 x, Value.int .i64 y] rfl hnews (by omega) (by unfold maxLen; omega) (by omega)
      obtain ⟨a2, c2, rfl, h5, h6⟩ := fresh v' w' h2
      refine ⟨a2, c2, w', hr, h5, ?_, ⟨h3.os, h3.tape, h3.output, h3.size, fun k hk _ => h3.block k hk (by simp)⟩, h6⟩
      exact OwnP.grownP (o := none) (k := 0) (co := 0) h (by simpa [Value.ownBlock] using h3) (Sep.none_right _)
/-- THE WALK's LAW: append(heaps, h), the old slice still reads. -/
theorem wl_app_heap {w : World} {ops : Array Oper} {rest : List Oper} {o : Oper} {ac : Act} {Q : Exit → Act → World → Prop} (B : Nat) {a : Option Addr} {n c g : Nat} {A : List Hp} (x y : Int)
    (s z : Operand) (hg : o.guard = none) (ho : o.op = .call { callee := .builtin .append, args := #[s, z], argTypes := #[t, t] })
    (hs : ac.eval s = .slice a n c) (hz : ac.eval z = .slice (some ⟨g, 0, none⟩) 1 1) (h : OwnP w e B a n c A) (h0 : w.cell? ⟨g, 0, none⟩ = some (.int .i64 x)) (h1 : w.cell? ⟨g, 1, none⟩ = some (.int .i64 y)) (hB : B ≤ w.heap.size) (hsmall : n + 1 ≤ 1000000)
    (hK : ∀ a2 c2 w', OwnP w' e B a2 (n + 1) c2 (A ++ [(x, y)]) → OwnP w' e B a n c A → w.grownBy w' (Value.slice a n c).ownBlock → Below B w w' → Via w a a2 → wpList P ops Q rest (ac.put o.dst (.slice a2 (n + 1) c2)) w') :
    wpList P ops Q (o :: rest) ac w := by
  refine wpList_plain hg fun K hK' => ?_
  obtain ⟨a2, c2, w', hr, h2, h3, h4, h5⟩ := run_app_heap ht he w B o.type a n c g A x y h h0 h1 hB hsmall
  unfold Oper.wp
  simp [execOp, ho, resolve, invoke, builtin, hs, hz, hr, Result.andThen]
  exact hK' _ _ (hK a2 c2 w' h2 h3 h4 ((Below.refl _ _).grown h4 hB (fun k hk => (World.ownsRow.lt h k hk).1)) h5)
end
set_option maxHeartbeats 2000000 in
theorem keep1_any (pk : Nat) (a : Option Addr) (n c : Nat) (L : List Hp) (w : World) (h : IsH w a n c L) (hn : 1 ≤ n) (h12 : n ≤ 12) (hS : SmlH L) (hF : Feas 0 L) (hk : ArrV VT w pk 3 [.int .i64 1]) :
    Calls Tryd.prog 56 #[.slice a n c, .pointer (some ⟨pk, 0, none⟩)] w fun e w' => e = .returned (.bool true) ∧ Below w.heap.size w w' := by
  have HC := Lib.hid (possible_any a n c L w h hn h12 hS true ⟨fun _ => hF, fun _ => rfl⟩)
  have z1 := cellT hk 0 rfl
  clear h hS hF hk
  go_enter Tryd.func56, Tryd.ntmps56
  go_wp2_with fail
  refine HC.out.mono ?_
  rintro e w2 ⟨rfl, b2⟩
  go_wp2
  go_ret
  exact ⟨rfl, b2⟩
set_option maxHeartbeats 8000000 in
set_option maxRecDepth 100000 in
theorem choose_any (pk : Nat) (a : Option Addr) (n c : Nat) (L : List Hp) (w : World) (h : IsH w a n c L) (hn : 1 ≤ n) (h10 : n ≤ 10) (hS : SmlH L) (hF : Feas 0 L) (hk : ArrV VT w pk 3 [.int .i64 1]) :
    Calls Tryd.prog 55 #[.slice a n c, .func (.func 56) #[] #[.pointer (some ⟨pk, 0, none⟩)]] w fun e w' => ∃ a' c', e = .returned (.slice a' n c') ∧ Below w.heap.size w w' := by
  have hle := h.le
  have hcap := h.cap
  have HL := Lib.hid h.len
  have HH := Lib.hid h
  have HS := Lib.hid hS
  have HF := Lib.hid hF
  have HK := Lib.hid hk
  clear h hS hF hk
  go_enter Tryd.func55, Tryd.ntmps55
  go_wp2_with fail
  go_loopw [11, 5, 6] (fun vi vo vk wr => ∃ (i : Nat) (a5 a6 : Option Addr) (c5 c6 : Nat) (O : List Int), i ≤ n ∧ vi = .int .i64 (i : Int) ∧ vo = .slice a5 i c5 ∧ vk = .slice a6 i c6 ∧ Hid (OwnL wr 3 w.heap.size a5 i c5 O) ∧ Hid (OwnP wr 27 w.heap.size a6 i c6 (L.take i)) ∧ Sep a5 a6 ∧ Below w.heap.size w wr) (fun vi _ _ _ => n - (intOf vi).toNat)
  case atStart => exact ⟨0, none, none, 0, 0, [], by omega, rfl, rfl, rfl, Lib.hid (OwnL.nilL _ _ _), Lib.hid (OwnP.nilP _ _ _), Sep.none_left _, Below.refl _ _⟩
  case round =>
    obtain ⟨i, a5, a6, c5, c6, O, hi, rfl, rfl, rfl, hO, hP, hsep, hb⟩ := hrel
    by_cases hlt : i < n
    · have q1 : (i : Int) < (n : Int) := by omega
      have hkk := HH.out.below hb
      obtain ⟨b, rfl, _, hc⟩ := hkk.cells (by omega)
      obtain ⟨c1, c2⟩ := hc i hlt
      have hts : Hid (L.take (i + 1) = L.take i ++ [L.getD i (0, 0)]) := Lib.hid (by
        rw [List.take_succ_eq_append_getElem (by rw [HL.out]; exact hlt)]
        simp [List.getD, show i < L.length by rw [HL.out]; exact hlt])
      obtain ⟨⟨x, y⟩, hx⟩ : ∃ x, L.getD i (0, 0) = x := ⟨_, rfl⟩
      rw [hx] at c1 c2 hts
      simp only [] at c1 c2
      have hFi : Hid (Feas 0 (L.take (i + 1))) := Lib.hid (by have := HF.out; rw [← List.take_append_drop (i + 1) L] at this; exact this.left)
      have hSi : Hid (SmlH (L.take (i + 1))) := Lib.hid (fun z hz => HS.out z (List.mem_of_mem_take hz))
      have hsz := hb.size
      have hA1 : ArrV VT (wr.alloc (.cells #[.int .i64 x, .int .i64 y] 27)) wr.heap.size 27 [.int .i64 x, .int .i64 y] := ArrV.new (f := VT) wr _ _ _ _ rfl rfl
      have hb1 : Below w.heap.size w (wr.alloc (.cells #[.int .i64 x, .int .i64 y] 27)) := hb.alloc hsz _
      have hO1 := hO.out.alloc (.cells #[.int .i64 x, .int .i64 y] 27)
      have hP1 := hP.out.alloc (.cells #[.int .i64 x, .int .i64 y] 27)
      have hP0 := hP.out
      have hO0 := hO.out
      clear hc hkk hx hO hP hb
      have hlt6 : ∀ q, a6 = some q → q.block < wr.heap.size := fun q hq => by have := (hP0.ltP q hq).2; exact this
      have hlt5 : ∀ q, a5 = some q → q.block < wr.heap.size := fun q hq => (hO0.lt q hq).2
      clear hP0 hO0
      obtain ⟨gx, hgx⟩ : ∃ g, wr.heap.size = g := ⟨_, rfl⟩
      have hgs : (wr.alloc (.cells #[.int .i64 x, .int .i64 y] 27)).heap.size = gx + 1 := by simp; omega
      have hgw : w.heap.size ≤ gx := by omega
      rw [hgx] at hA1 hlt6 hlt5
      have G1 : OwnP ((wr.alloc (.cells #[.int .i64 x, .int .i64 y] 27)).alloc (.cells #[.int .i64 x, .int .i64 y] 27)) 27 w.heap.size a6 i c6 (L.take i) := hP1.alloc _
      have G2 : ((wr.alloc (.cells #[.int .i64 x, .int .i64 y] 27)).alloc (.cells #[.int .i64 x, .int .i64 y] 27)).cell? ⟨gx + 1, 0, none⟩ = some (.int .i64 x) := by rw [← hgs]; simp [go_sem]
      have G3 : ((wr.alloc (.cells #[.int .i64 x, .int .i64 y] 27)).alloc (.cells #[.int .i64 x, .int .i64 y] 27)).cell? ⟨gx + 1, 1, none⟩ = some (.int .i64 y) := by rw [← hgs]; simp [go_sem]
      have G4 : w.heap.size ≤ ((wr.alloc (.cells #[.int .i64 x, .int .i64 y] 27)).alloc (.cells #[.int .i64 x, .int .i64 y] 27)).heap.size := by simp; omega
      have G5 : i + 1 ≤ 1000000 := by omega
      have G6 : i + 1 ≤ 17592186044416 := by omega
      have hA2 := hA1.alloc (.cells #[.int .i64 x, .int .i64 y] 27)
      have hO2 := hO1.alloc (.cells #[.int .i64 x, .int .i64 y] 27)
      have hb2 : Below w.heap.size w ((wr.alloc (.cells #[.int .i64 x, .int .i64 y] 27)).alloc (.cells #[.int .i64 x, .int .i64 y] 27)) := hb1.alloc hb1.size _
      have hsz2 : ((wr.alloc (.cells #[.int .i64 x, .int .i64 y] 27)).alloc (.cells #[.int .i64 x, .int .i64 y] 27)).heap.size = gx + 2 := by simp; omega
      go_wp2_with (at_builtin; refine wl_app_heap Tryd.underlying25 info27 w.heap.size x y (.tmp 17) (.tmp 19) rfl rfl rfl rfl G1 G2 G3 G4 G5 ?_)
      intro a7 c7 w7 p7 k7 g7 b7 v7
      rw [← hts.out] at p7
      have hne6 : ∀ o : Nat, o = gx → (Value.slice a6 i c6).ownBlock ≠ some o := fun o ho => by
        subst ho
        cases a6 with
        | none => simp [Value.ownBlock]
        | some q => have := hlt6 q rfl; simp [Value.ownBlock]; omega
      have hA7 := hA2.grown g7 (hne6 gx rfl).symm
      have hO7 := hO2.grown g7 hsep
      have hb7 := hb2.trans b7
      have hK7 := HK.out.below hb7
      have hw7 := g7.size
      have HC := Lib.hid (keep1_any pk a7 (i + 1) c7 _ w7 p7.isH (by omega) (by omega) hSi.out hFi.out hK7)
      clear G1 G2 G3 G4 hA1 hA2 hO1 hO2 hb1 hb2 hP1 g7 b7 v7 p7 hK7 hgs c1 c2
      go_wp2_with fail
      refine HC.out.mono ?_
      rintro e w8 ⟨rfl, b8⟩
      have hA8 := hA7.below b8
      have hO8 := hO7.below b8
      have hk8 := k7.below b8
      have hb8 := hb7.trans (b8.mono hb7.size)
      have hw8 := b8.size
      have z1 := cellT hA8 0 rfl
      have z2 := cellT hA8 1 rfl
      clear hA7 hO7 k7 hb7 b8 HC hgx
      have G1 := hk8.alloc (.cells #[.int .i64 x, .int .i64 y] 27)
      have G2 : (w8.alloc (.cells #[.int .i64 x, .int .i64 y] 27)).cell? ⟨w8.heap.size, 0, none⟩ = some (.int .i64 x) := by simp [go_sem]
      have G3 : (w8.alloc (.cells #[.int .i64 x, .int .i64 y] 27)).cell? ⟨w8.heap.size, 1, none⟩ = some (.int .i64 y) := by simp [go_sem]
      have G4 : w.heap.size ≤ (w8.alloc (.cells #[.int .i64 x, .int .i64 y] 27)).heap.size := by simp; omega
      have hO9 := hO8.alloc (.cells #[.int .i64 x, .int .i64 y] 27)
      have hb9 : Below w.heap.size w (w8.alloc (.cells #[.int .i64 x, .int .i64 y] 27)) := hb8.alloc hb8.size _
      have hw9 : (w8.alloc (.cells #[.int .i64 x, .int .i64 y] 27)).heap.size = w8.heap.size + 1 := by simp
      go_wp2_with (at_builtin; refine wl_app_heap Tryd.underlying25 info27 w.heap.size x y (.tmp 22) (.tmp 24) rfl rfl rfl rfl G1 G2 G3 G4 G5 ?_)
      intro a10 c10 w10 p10 k10 g10 b10 v10
      rw [← hts.out] at p10
      have hO10 := hO9.grown g10 hsep
      have hb10 := hb9.trans b10
      have hsep10 : Sep a5 a10 := (hsep.symm.via v10 (fun q hq => by have := hlt5 q hq; omega)).symm
      have hw10 := g10.size
      have h5lt : ∀ q, a5 = some q → q.block < w10.heap.size := fun q hq => by have := hlt5 q hq; omega
      have h10lt : ∀ q, a10 = some q → q.block < w10.heap.size := fun q hq => (p10.ltP q hq).2
      clear G1 G2 G3 G4 hO9 hb9 hA8 hO8 hk8 hb8 g10 b10 v10 k10 hsep z1 z2
      have G7 := hO10.alloc (.cells #[.int .i64 (i : Int)] 3)
      have G8 := isL_one w10 (i : Int) 3
      have G9 : w.heap.size ≤ (w10.alloc (.cells #[.int .i64 (i : Int)] 3)).heap.size := by simp; omega
      have hp11 := p10.alloc (.cells #[.int .i64 (i : Int)] 3)
      have hb11 : Below w.heap.size w (w10.alloc (.cells #[.int .i64 (i : Int)] 3)) := hb10.alloc hb10.size _
      have hw11 : (w10.alloc (.cells #[.int .i64 (i : Int)] 3)).heap.size = w10.heap.size + 1 := by simp
      go_wp2_with (at_builtin; refine wl_app_own Tryd.underlying23 elem3 w.heap.size (.tmp 26) (.tmp 28) rfl rfl rfl rfl G7 G8 G9 G6 ?_)
      intro a12 c12 w12 o12 g12 b12 v12
      have hP12 := Lib.hid (hp11.grownP g12 hsep10.symm)
      have hO12 := Lib.hid o12
      have hb12 := hb11.trans b12
      have hsep12 : Sep a12 a10 := hsep10.via v12 (fun q hq => by have := h10lt q hq; omega)
      clear G7 G8 G9 hp11 hb11 g12 b12 v12 o12 hO10 hb10 p10
      go_wp2_with fail
      go_roundw
      case rel => first | exact ⟨i + 1, a12, a10, c12, c10, _, by omega, by go_num, rfl, rfl, hO12, hP12, hsep12, hb12⟩ | ((repeat apply Exists.intro); exact ⟨⟨i + 1, a12, a10, c12, c10, _, by omega, by go_num, rfl, rfl, hO12, hP12, hsep12, hb12⟩, rfl⟩)
      case measure => (simp [intOf] <;> omega)
    · obtain rfl : i = n := by omega
      go_wp2
      go_ret
      exact ⟨a5, c5, rfl, hb⟩
set_option maxHeartbeats 4000000 in
theorem Keep_any (a : Option Addr) (n c : Nat) (L : List Hp) (w : World) (h : IsH w a n c L) (hn : 1 ≤ n) (h10 : n ≤ 10) (hK : OkH L) (hF : Feas 0 L) :
    Calls Tryd.prog 14 #[.slice a n c, .int .i64 1] w fun e w' => ∃ a' c', e = .returned (.tuple #[.slice a' n c', .int .i64 0]) ∧ Below w.heap.size w w' := by
  have hb0 : Below w.heap.size w (w.alloc (.cells #[.int .i64 1] 3)) := (Below.refl _ w).alloc (Nat.le_refl _) _
  have K0 : ArrV VT (w.alloc (.cells #[.int .i64 1] 3)) w.heap.size 3 [.int .i64 1] := ArrV.new (f := VT) w _ _ _ _ rfl rfl
  have hI := h.below hb0
  have HH := Lib.hid (handed_any a n c L _ hI h10 hK)
  have HK := Lib.hid hK
  have HF := Lib.hid hF
  have HI := Lib.hid hI
  clear h hK hF hI
  go_enter Tryd.func14, Tryd.ntmps14
  go_wp2_with fail
  generalize w.alloc (.cells #[.int .i64 1] 3) = w0 at *
  refine HH.out.mono ?_
  rintro e w1 ⟨rfl, b1⟩
  have hI1 := HI.out.below b1
  have K1 := K0.below b1
  have k1 := hb0.trans (b1.mono hb0.size)
  clear HH K0 hb0 b1 HI
  go_wp2_with fail
  refine (choose_any w.heap.size a n c L w1 hI1 hn h10 HK.out.sml HF.out K1).mono ?_
  rintro e w2 ⟨a', c', rfl, b2⟩
  have k2 := k1.trans (b2.mono k1.size)
  go_wp2
  go_ret2
  exact ⟨a', c', rfl, k2⟩
set_option maxHeartbeats 2000000 in
theorem Fewest_any (a : Option Addr) (n c : Nat) (L : List Hp) (w : World) (h : IsH w a n c L) (hn : 1 ≤ n) (h10 : n ≤ 10) (hK : OkH L) (hF : Feas 0 L) :
    Calls Tryd.prog 13 #[.slice a n c] w fun e w' => e = .returned (.tuple #[.int .i64 1, .int .i64 0]) ∧ Below w.heap.size w w' := by
  have q1 : ¬ (n : Int) < 1 := by omega
  have hle := h.le
  have hcap := h.cap
  have HC := Lib.hid (CheckH_any a n c L w h h10 hK)
  have HK := Lib.hid hK
  have HF := Lib.hid hF
  have HH := Lib.hid h
  clear h hK hF
  go_enter Tryd.func13, Tryd.ntmps13
  go_wp2_with fail
  refine HC.out.mono ?_
  rintro e w1 ⟨rfl, b1⟩
  go_wp2_with fail
  go_loopw [5] (fun v wr => v = .int .i64 1 ∧ w1 = wr) (fun _ _ => 0)
  case atStart => exact ⟨rfl, rfl⟩
  case round =>
    obtain ⟨rfl, rfl⟩ := hrel
    have h1 := HH.out.below b1
    go_wp2_with fail
    refine (possible_any a n c L _ h1 hn (by omega) HK.out.sml true ⟨fun _ => HF.out, fun _ => rfl⟩).mono ?_
    rintro e w2 ⟨rfl, b2⟩
    have k2 := b1.trans (b2.mono b1.size)
    go_wp2
    go_ret2
    exact ⟨rfl, k2⟩
end Go.Proofs.YtpfaoagddgcmbaaDoor
