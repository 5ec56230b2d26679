/- Walks of chapter 1 at the top seat: Park, Way, Lucky. -/
import Derived.Test.YtpfaoagddgcmbaaDoorDf
namespace Go.Proofs.YtpfaoagddgcmbaaDoor
open Go.RowKit Dock01
set_option maxRecDepth 100000
theorem ta1 (w : World) : (Instr.typeAssert (.iface 99 (.agg #[])) 94 96 true).run Tryd.prog w = .ok (.tuple #[.agg #[.int .i64 0, .int .i64 0], .bool false]) w := by
  obtain ⟨i, hi, hz⟩ := Option.map_eq_some_iff.1 (show (Tryd.prog.info? 96).map (·.zero) = some (some (.agg #[.int .i64 0, .int .i64 0])) by kernel_rfl)
  simp [Instr.typeAssert, run_underlying Tryd.underlying96, typeInfo, zeroValue, hi, hz]
theorem ta2 (x y : Int) (w : World) : (Instr.typeAssert (.iface 96 (.agg #[.int .i64 x, .int .i64 y])) 94 96 true).run Tryd.prog w = .ok (.tuple #[.agg #[.int .i64 x, .int .i64 y], .bool true]) w := by
  simp [Instr.typeAssert, run_underlying Tryd.underlying96, typeInfo, zeroValue]
theorem ta3 (w : World) : (Instr.typeAssert (.iface 99 (.agg #[])) 94 99 true).run Tryd.prog w = .ok (.tuple #[.agg #[], .bool true]) w := by
  simp [Instr.typeAssert, run_underlying Tryd.underlying99, typeInfo, zeroValue]
theorem map_next {α β : Type} (f : α → β) (F : List α) (d : α) (i : Nat) (hi : i < F.length) : (F.take (i + 1)).map f = (F.take i).map f ++ [f (F.getD i d)] := by
  rw [List.take_add_one, List.map_append, List.getElem?_eq_getElem hi]
  simp [List.getD, hi]
set_option maxHeartbeats 4000000 in
theorem Park_any (a : Option Addr) (n c bays : Nat) (l : List Int) (w : World) (hT : Tab w) (h : IsL w a n c l) (hb1 : 1 ≤ bays) (hb8 : bays ≤ 8) (hn : n ≤ bays) (hl : InL l ((bays : Int) - 1)) :
    Calls Tryd.prog 21 #[.int .i64 (bays : Int), .slice a n c] w fun e w' => ∃ a' c', e = .returned (.tuple #[.slice a' n c', .int .i64 0]) ∧ OwnL w' 3 w.heap.size a' n c' (parkL bays l) ∧ Below w.heap.size w w' := by
  have HC := Lib.hid (comes_any a n c bays l w hT h hb1 hb8 hn hl)
  clear h hl hT
  go_enter Tryd.func21, Tryd.ntmps21
  go_wp2_with fail
  refine HC.out.mono ?_
  rintro e w1 ⟨af, cf, rfl, hF, b1⟩
  have HP : Hid (parkL bays l = (fatesL bays l).map bayI) := Lib.hid rfl
  generalize fatesL bays l = F at *
  have HL := Lib.hid hF.len
  have HF := Lib.hid hF
  have hs1 := b1.size
  clear hF
  go_wp2_with fail
  go_loopw [21, 8] (fun vi vo wr => ∃ (i : Nat) (a1 : Option Addr) (c1 : Nat), i ≤ n ∧ vi = .int .i64 (i : Int) ∧ vo = .slice a1 i c1 ∧ Hid (OwnL wr 3 w1.heap.size a1 i c1 ((F.take i).map bayI)) ∧ Below w1.heap.size w1 wr) (fun vi _ _ => n - (intOf vi).toNat)
  case atStart => exact ⟨0, none, 0, by omega, rfl, rfl, Lib.hid (OwnL.nilL _ _ _), Below.refl _ _⟩
  case round =>
    obtain ⟨i, a1, c1, hi, rfl, rfl, hO, hb⟩ := hrel
    have w9 : IntKind.i64.wrap ((i : Int) + 1) = (i : Int) + 1 := IntWalk.i64_in _ (by omega)
    by_cases hlt : i < n
    · have q1 : (i : Int) < (n : Int) := by omega
      have hFr := HF.out.below hb
      obtain ⟨gf, rfl⟩ := hFr.addr (by omega)
      obtain ⟨k1, k2⟩ := hFr.cell i none hlt
      obtain ⟨k3, k4⟩ := hFr.caps
      have hnext : (F.take (i + 1)).map bayI = (F.take i).map bayI ++ [bayI (F.getD i none)] := map_next bayI F none i (by rw [HL.out]; exact hlt)
      have hsr := hb.size
      clear hFr k2
      cases hx : F.getD i none with
      | none =>
        rw [hx] at k1 hnext
        simp only [fateV] at k1
        have t1 := ta1
        have t2 := ta2
        have t3 := ta3
        have HN := Lib.hid hnext
        clear hx hnext
        go_wp2_with (at_builtin; refine wl_app_own Tryd.underlying23 elem3 w1.heap.size (.tmp 37) (.tmp 38) rfl rfl rfl rfl ((hO.out.alloc _).alloc _) (isL_oneAt _ (-1) 3 _ (by simp)) (by simp; omega) (by omega) ?_)
        intro a7 c7 w7 o7 g7 b7 v7
        have hb7 : Below w1.heap.size w1 w7 := ((hb.alloc hsr _).alloc (by simp; omega) _).trans b7
        have HO7 : Hid (OwnL w7 3 w1.heap.size a7 (i + 1) c7 ((F.take (i + 1)).map bayI)) := Lib.hid (by rw [HN.out, List.map_take]; exact o7)
        clear o7 g7 b7 v7 hO
        go_wp2_with fail
        exact ⟨⟨i + 1, a7, c7, by omega, by go_num, rfl, HO7, hb7⟩, by simp [intOf]; omega⟩
      | some p =>
        obtain ⟨p1, p2⟩ := p
        rw [hx] at k1 hnext
        simp only [fateV] at k1
        have t1 := ta1
        have t2 := ta2
        have t3 := ta3
        have HN := Lib.hid hnext
        clear hx hnext
        go_wp2_with (at_builtin; refine wl_app_own Tryd.underlying23 elem3 w1.heap.size (.tmp 29) (.tmp 32) rfl rfl rfl rfl ((hO.out.alloc _).alloc _) (isL_oneAt _ (p1 : Int) 3 _ (by simp)) (by simp; omega) (by omega) ?_)
        intro a7 c7 w7 o7 g7 b7 v7
        have hb7 : Below w1.heap.size w1 w7 := ((hb.alloc hsr _).alloc (by simp; omega) _).trans b7
        have HO7 : Hid (OwnL w7 3 w1.heap.size a7 (i + 1) c7 ((F.take (i + 1)).map bayI)) := Lib.hid (by rw [HN.out, List.map_take]; exact o7)
        clear o7 g7 b7 v7 hO
        go_wp2_with fail
        exact ⟨⟨i + 1, a7, c7, by omega, by go_num, rfl, HO7, hb7⟩, by simp [intOf]; omega⟩
    · obtain rfl : i = n := by omega
      go_wp2
      go_ret2
      exact ⟨a1, c1, rfl, by rw [HP.out, ← List.take_of_length_le (l := F) (i := i) (by rw [HL.out]; omega)]; exact hO.out.weaken hs1, b1.trans (hb.mono hs1)⟩
theorem sumK_bound {g : Option (Nat × Nat) → Int} {F : List (Option (Nat × Nat))} (h : ∀ x, 0 ≤ g (F.getD x none) ∧ g (F.getD x none) ≤ 8) : ∀ k, 0 ≤ sumK g F k ∧ sumK g F k ≤ 8 * k
  | 0 => by simp [sumK]
  | k + 1 => by have := sumK_bound h k; have := h k; rw [sumK]; omega
theorem comeT_lt {bays t w b : Nat} (h : comeT bays t w = some b) : b < bays := by
  have := List.mem_of_find?_eq_some h
  simpa using this
theorem fate_way (bays : Nat) (ws : List Int) (hb : bays ≤ 8) : ∀ k x, 0 ≤ wayI ((fateK bays ws k).getD x none) ∧ wayI ((fateK bays ws k).getD x none) ≤ 8
  | 0, x => by simp [fateK, wayI]
  | k + 1, x => by
    rw [fateK]
    rcases Nat.lt_trichotomy x k with h | h | h
    · have e : (fateK bays ws k ++ [fateT bays (rowK bays ws k) (ws.getD k 0)]).getD x none = (fateK bays ws k).getD x none := by
        rw [List.getD, List.getElem?_append_left (by rw [fateK_len]; exact h)]; rfl
      rw [e]; exact fate_way bays ws hb k x
    · have e : (fateK bays ws k ++ [fateT bays (rowK bays ws k) (ws.getD k 0)]).getD x none = fateT bays (rowK bays ws k) (ws.getD k 0) := by
        rw [h, List.getD, List.getElem?_append_right (by rw [fateK_len]; omega), fateK_len]; simp
      rw [e, fateT]
      cases hc : comeT bays (rowK bays ws k) (ws.getD k 0).toNat with
      | none => simp [wayI]
      | some b => have := comeT_lt hc; simp [wayI]; omega
    · have e : (fateK bays ws k ++ [fateT bays (rowK bays ws k) (ws.getD k 0)]).getD x none = none := by
        rw [List.getD, List.getElem?_eq_none (by rw [List.length_append, fateK_len]; simp; omega)]; rfl
      rw [e]; simp [wayI]
set_option maxHeartbeats 4000000 in
theorem Way_dock (a : Option Addr) (n c bays : Nat) (l : List Int) (w : World) (hT : Tab w) (h : IsL w a n c l) (hb1 : 1 ≤ bays) (hb8 : bays ≤ 8) (hn : n ≤ bays) (hl : InL l ((bays : Int) - 1)) :
    Calls Tryd.prog 20 #[.int .i64 (bays : Int), .slice a n c] w fun e w' => e = .returned (.tuple #[.int .i64 (sumK wayI (fatesL bays l) n), .int .i64 0]) ∧ Below w.heap.size w w' := by
  have HC := Lib.hid (comes_any a n c bays l w hT h hb1 hb8 hn hl)
  have HB := Lib.hid (fate_way bays l hb8 l.length)
  clear h hl hT
  go_enter Tryd.func20, Tryd.ntmps20
  go_wp2_with fail
  refine HC.out.mono ?_
  rintro e w1 ⟨af, cf, rfl, hF, b1⟩
  have HBB : Hid (∀ x, 0 ≤ wayI ((fatesL bays l).getD x none) ∧ wayI ((fatesL bays l).getD x none) ≤ 8) := Lib.hid (fun x => HB.out x)
  clear HB HC
  obtain ⟨F, hFe⟩ : ∃ F, fatesL bays l = F := ⟨_, rfl⟩
  rw [hFe] at hF HBB
  have HE := Lib.hid hFe
  clear hFe
  have HL := Lib.hid hF.len
  have HF := Lib.hid hF
  have hs1 := b1.size
  clear hF
  go_wp2_with fail
  go_loopw [21, 8] (fun vi vo wr => ∃ (i : Nat) (s : Int), i ≤ n ∧ vi = .int .i64 (i : Int) ∧ vo = .int .i64 s ∧ Hid (s = sumK wayI F i) ∧ Below w1.heap.size w1 wr) (fun vi _ _ => n - (intOf vi).toNat)
  case atStart => exact ⟨0, 0, by omega, rfl, rfl, Lib.hid rfl, Below.refl _ _⟩
  case round =>
    obtain ⟨i, s, hi, rfl, rfl, hS, hb⟩ := hrel
    have w9 : IntKind.i64.wrap ((i : Int) + 1) = (i : Int) + 1 := IntWalk.i64_in _ (by omega)
    by_cases hlt : i < n
    · have q1 : (i : Int) < (n : Int) := by omega
      have hFr := HF.out.below hb
      obtain ⟨gf, rfl⟩ := hFr.addr (by omega)
      obtain ⟨k1, k2⟩ := hFr.cell i none hlt
      obtain ⟨k3, k4⟩ := hFr.caps
      have hbd := sumK_bound HBB.out i
      have hx8 := HBB.out i
      have hsr := hb.size
      have hS2 : sumK wayI F (i + 1) = s + wayI (F.getD i none) := by rw [sumK, hS.out]
      rw [← hS.out] at hbd
      clear hFr k2
      cases hx : F.getD i none with
      | none =>
        rw [hx] at k1 hS2 hx8
        simp only [fateV] at k1
        have t1 := ta1
        have t2 := ta2
        have t3 := ta3
        have HS2 : Hid (s = sumK wayI F (i + 1)) := Lib.hid (by rw [hS2]; simp [wayI])
        clear hx hS2
        go_wp2_with fail
        exact ⟨⟨i + 1, s, by omega, by go_num, rfl, HS2, hb.alloc hsr _⟩, by simp [intOf]; omega⟩
      | some p =>
        obtain ⟨p1, p2⟩ := p
        rw [hx] at k1 hS2 hx8
        simp only [fateV] at k1
        have t1 := ta1
        have t2 := ta2
        have t3 := ta3
        simp only [wayI] at hS2 hx8
        have HS2 : Hid (s + (p2 : Int) = sumK wayI F (i + 1)) := Lib.hid hS2.symm
        have w8 : IntKind.i64.wrap (s + (p2 : Int)) = s + (p2 : Int) := IntWalk.i64_in _ (by omega)
        clear hx hS2
        go_wp2_with fail
        exact ⟨⟨i + 1, s + (p2 : Int), by omega, by go_num, rfl, HS2, hb.alloc hsr _⟩, by simp [intOf]; omega⟩
    · obtain rfl : i = n := by omega
      go_wp2
      go_ret2
      exact ⟨by rw [hS.out, HE.out]; rfl, b1.trans (hb.mono hs1)⟩
theorem lucI_bound (x : Option (Nat × Nat)) : 0 ≤ lucI x ∧ lucI x ≤ 8 := by
  cases x with
  | none => simp [lucI]
  | some p => simp only [lucI]; split <;> simp
set_option maxHeartbeats 4000000 in
theorem Lucky_any (a : Option Addr) (n c bays : Nat) (l : List Int) (w : World) (hT : Tab w) (h : IsL w a n c l) (hb1 : 1 ≤ bays) (hb8 : bays ≤ 8) (hn : n ≤ bays) (hl : InL l ((bays : Int) - 1)) :
    Calls Tryd.prog 22 #[.int .i64 (bays : Int), .slice a n c] w fun e w' => e = .returned (.tuple #[.int .i64 (sumK lucI (fatesL bays l) n), .int .i64 0]) ∧ Below w.heap.size w w' := by
  have HC := Lib.hid (comes_any a n c bays l w hT h hb1 hb8 hn hl)
  clear h hl hT
  go_enter Tryd.func22, Tryd.ntmps22
  go_wp2_with fail
  refine HC.out.mono ?_
  rintro e w1 ⟨af, cf, rfl, hF, b1⟩
  clear HC
  obtain ⟨F, hFe⟩ : ∃ F, fatesL bays l = F := ⟨_, rfl⟩
  rw [hFe] at hF
  have HE := Lib.hid hFe
  clear hFe
  have HBB : Hid (∀ x, 0 ≤ lucI (F.getD x none) ∧ lucI (F.getD x none) ≤ 8) := Lib.hid (fun x => lucI_bound _)
  have HL := Lib.hid hF.len
  have HF := Lib.hid hF
  have hs1 := b1.size
  clear hF
  go_wp2_with fail
  go_loopw [20, 8] (fun vi vo wr => ∃ (i : Nat) (s : Int), i ≤ n ∧ vi = .int .i64 (i : Int) ∧ vo = .int .i64 s ∧ Hid (s = sumK lucI F i) ∧ Below w1.heap.size w1 wr) (fun vi _ _ => n - (intOf vi).toNat)
  case atStart => exact ⟨0, 0, by omega, rfl, rfl, Lib.hid rfl, Below.refl _ _⟩
  case round =>
    obtain ⟨i, s, hi, rfl, rfl, hS, hb⟩ := hrel
    have w9 : IntKind.i64.wrap ((i : Int) + 1) = (i : Int) + 1 := IntWalk.i64_in _ (by omega)
    by_cases hlt : i < n
    · have q1 : (i : Int) < (n : Int) := by omega
      have hFr := HF.out.below hb
      obtain ⟨gf, rfl⟩ := hFr.addr (by omega)
      obtain ⟨k1, k2⟩ := hFr.cell i none hlt
      obtain ⟨k3, k4⟩ := hFr.caps
      have hbd := sumK_bound HBB.out i
      have hsr := hb.size
      have hS2 : sumK lucI F (i + 1) = s + lucI (F.getD i none) := by rw [sumK, hS.out]
      rw [← hS.out] at hbd
      clear hFr k2
      cases hx : F.getD i none with
      | none =>
        rw [hx] at k1 hS2
        simp only [fateV] at k1
        have t1 := ta1
        have t2 := ta2
        have t3 := ta3
        have HS2 : Hid (s = sumK lucI F (i + 1)) := Lib.hid (by rw [hS2]; simp [lucI])
        clear hx hS2
        go_wp2_with fail
        exact ⟨⟨i + 1, s, by omega, by go_num, rfl, HS2, hb⟩, by simp [intOf]; omega⟩
      | some p =>
        obtain ⟨p1, p2⟩ := p
        rw [hx] at k1 hS2
        simp only [fateV] at k1
        have t1 := ta1
        have t2 := ta2
        have t3 := ta3
        simp only [lucI] at hS2
        clear hx
        by_cases h0 : p2 = 0
        · subst h0
          have HS2 : Hid (s + 1 = sumK lucI F (i + 1)) := Lib.hid hS2.symm
          have w8 : IntKind.i64.wrap (s + 1) = s + 1 := IntWalk.i64_in _ (by omega)
          clear hS2
          go_wp2_with fail
          exact ⟨⟨i + 1, s + 1, by omega, by go_num, rfl, HS2, hb.alloc hsr _⟩, by simp [intOf]; omega⟩
        · have HS2 : Hid (s = sumK lucI F (i + 1)) := Lib.hid (by rw [hS2, if_neg h0]; omega)
          have q2 : (((p2 : Nat) : Int) == 0) = false := by simp; omega
          clear hS2
          go_wp2_with fail
          exact ⟨⟨i + 1, s, by omega, by go_num, rfl, HS2, hb.alloc hsr _⟩, by simp [intOf]; omega⟩
    · obtain rfl : i = n := by omega
      go_wp2
      go_ret2
      exact ⟨by rw [hS.out, HE.out]; rfl, b1.trans (hb.mono hs1)⟩
end Go.Proofs.YtpfaoagddgcmbaaDoor
