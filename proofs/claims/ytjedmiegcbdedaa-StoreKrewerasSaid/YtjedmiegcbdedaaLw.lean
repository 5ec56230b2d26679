/- Law of chapter 11: StoreKreweras. -/
import Derived.Test.YtjedmiegcbdedaaXm
import Derived.Test.YtjedmiegcbdedaaXb
import Derived.Test.YtjedmiegcbdedaaLr
import Derived.Laws.EntriesVeiled
namespace Go.Proofs.Ytjedmiegcbdedaa
open Go.RowKit Store11
theorem MapB.len {w : World} {b N sz : Nat} {f : ByteArray → Bool} (h : MapB encS 4 w b N sz f) (ty : TypeId) : (Builtin.len_ #[61] ty #[.map (some b)]).run Try.prog w = .ok (.int .i64 (sz : Int)) w := by
  obtain ⟨D, hD, hs, _⟩ := h
  rw [← hs]
  exact hD.len Try.underlying61 ty
theorem krew_start (w W : World) (n : Nat) (hW : ((((w.alloc (.cells #[.int .i64 (n : Int)] 3)).alloc (.cells #[.int .i64 0] 3)).alloc (.cells #[.bool true] 4)).alloc (.map #[] 0)).alloc (.cells #[.map (some (w.heap.size + 1 + 1 + 1))] 61) = W) : KrI w w.heap.size n 0 W := by
  subst hW
  unfold KrI
  rw [List.take_zero]
  have hm : MapB encS 4 ((((w.alloc (.cells #[.int .i64 (n : Int)] 3)).alloc (.cells #[.int .i64 0] 3)).alloc (.cells #[.bool true] 4)).alloc (.map #[] 0)) (w.heap.size + 3) 0 0 (seenK []) := by
    have := MapB.made (E := encS) (e := 4) (((w.alloc (.cells #[.int .i64 (n : Int)] 3)).alloc (.cells #[.int .i64 0] 3)).alloc (.cells #[.bool true] 4))
    rw [show (((w.alloc (.cells #[.int .i64 (n : Int)] 3)).alloc (.cells #[.int .i64 0] 3)).alloc (.cells #[.bool true] 4)).heap.size = w.heap.size + 3 by simp] at this
    exact this
  have a0 : ArrV VW (w.alloc (.cells #[.int .i64 (n : Int)] 3)) w.heap.size 3 [.int .i64 (n : Int)] := ArrV.new w _ _ _ _ rfl rfl
  have a1 : ArrV VW ((w.alloc (.cells #[.int .i64 (n : Int)] 3)).alloc (.cells #[.int .i64 0] 3)) (w.heap.size + 1) 3 [.int .i64 0] := ArrV.new _ _ _ _ _ (by simp) rfl
  have a2 : ArrV VW (((w.alloc (.cells #[.int .i64 (n : Int)] 3)).alloc (.cells #[.int .i64 0] 3)).alloc (.cells #[.bool true] 4)) (w.heap.size + 2) 4 [.bool true] := ArrV.new _ _ _ _ _ (by simp) rfl
  have b5 : Below w.heap.size w (((((w.alloc (.cells #[.int .i64 (n : Int)] 3)).alloc (.cells #[.int .i64 0] 3)).alloc (.cells #[.bool true] 4)).alloc (.map #[] 0)).alloc (.cells #[.map (some (w.heap.size + 1 + 1 + 1))] 61)) := (((((Below.refl _ w).alloc (Nat.le_refl _) _).alloc (by simp) _).alloc (by simp; omega) _).alloc (by simp; omega) _).alloc (by simp; omega) _
  refine ⟨by simp, (((a0.alloc _).alloc _).alloc _).alloc _, ((a1.alloc _).alloc _).alloc _, (a2.alloc _).alloc _, hm.alloc _, ?_, b5⟩
  exact ArrV.new _ _ _ _ _ (by simp) rfl
set_option maxHeartbeats 8000000 in
set_option maxRecDepth 100000 in
theorem StoreKreweras_u (b : Int) (w : World) (hb : 0 ≤ b ∧ b ≤ 255) : Calls Try.prog 13 #[.int .u8 b] w fun e w' => e = .returned (.bool true) ∧ Below w.heap.size w w' := by
  obtain ⟨n, hn, hn1, hn6⟩ : ∃ n : Nat, 1 + b % 6 = (n : Int) ∧ 1 ≤ n ∧ n < 7 := ⟨(1 + b % 6).toNat, by omega, by omega, by omega⟩
  obtain ⟨W, hW⟩ : ∃ W, ((((w.alloc (.cells #[.int .i64 (n : Int)] 3)).alloc (.cells #[.int .i64 0] 3)).alloc (.cells #[.bool true] 4)).alloc (.map #[] 0)).alloc (.cells #[.map (some (w.heap.size + 1 + 1 + 1))] 61) = W := ⟨_, rfl⟩
  have K0 := Lib.hid (krew_start w W n hW)
  have HW := Lib.hid hW
  have hmk := @run_makeMap Try.prog
  obtain ⟨q1, q2, q3⟩ := krew_cnt n hn6 hn1
  obtain ⟨ct, hct⟩ : ∃ ct, flatC (allL n) = ct := ⟨_, rfl⟩
  rw [hct] at q1
  have Q1 := Lib.hid q1.symm
  have Q2 := Lib.hid q2
  have HC := Lib.hid hct
  clear hW q1 q2 q3 hct
  go_enter Try.func13, Try.ntmps13
  go_wp2_with fail
  rw [HW.out]
  refine (all_any n (w.heap.size + 5) 56 #[.pointer (some ⟨w.heap.size + 2, 0, none⟩), .pointer (some ⟨w.heap.size + 1, 0, none⟩), .pointer (some ⟨w.heap.size, 0, none⟩), .pointer (some ⟨w.heap.size + 4, 0, none⟩)] (fun i w' => KrI w w.heap.size n i w') (by omega) (fun _ _ => rfl) (Lib.hid fun _ _ _ h1 h2 => KrS.newB h1 h2) (Lib.hid ?_) W K0.out.s5 K0.out).mono ?_
  · intro i l w1 a1 m c1 hl hI h1 hx _
    by_cases hc : 0 < (cnX l).1
    · exact krew_no w w.heap.size n hn1 hn6 i l w1 a1 m c1 hl hI h1 hc
    · exact krew_yes w w.heap.size n hn1 hn6 i l w1 a1 m c1 hl hI h1 hx hc
  rintro e w2 ⟨rfl, hI, _⟩
  have hF : KrS w w.heap.size n (allL n).length ct ct (seenK (allL n)) w2 := by
    have h : KrS w w.heap.size n (allL n).length (flatC ((allL n).take (allL n).length)) (flatC ((allL n).take (allL n).length)) (seenK ((allL n).take (allL n).length)) w2 := hI
    rw [List.take_length, HC.out] at h
    exact h
  have HF := Lib.hid hF
  have z0 := cellV hF.hn 0 rfl
  clear hI hF hmk
  go_wp2_with fail
  refine (Flat_c _ _ Q1.out Q2.out).mono ?_
  rintro e w3 ⟨rfl, b3⟩
  have hF := HF.out.new b3
  have z1 := cellV hF.hg 0 rfl
  have z2 := cellV hF.hc 0 rfl
  have z3 := cellV hF.hx 0 rfl
  have z4 := hF.hm.len
  have HB := Lib.hid hF.bel
  clear hF z0 HF b3
  go_wp2_with fail
  refine (works_any _).mono ?_
  rintro e w7 ⟨rfl, b7⟩
  have B7 := HB.out.trans (b7.mono HB.out.size)
  go_wp2
  go_ret
  exact ⟨rfl, B7⟩
theorem StoreKreweras_any (a0 : Int) (w0 : (Lit.int .u8 a0).wf = true) (w : World) : Calls Try.prog 13 #[.int .u8 a0] w fun e w' => e = .returned (.bool true) ∧ Below w.heap.size w w' :=
  StoreKreweras_u a0 w (u8_bounds w0)
end Go.Proofs.Ytjedmiegcbdedaa
