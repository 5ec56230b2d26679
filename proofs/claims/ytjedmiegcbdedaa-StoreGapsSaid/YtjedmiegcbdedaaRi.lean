/- Walks of chapter 11: the reference's flat ones. -/
import Derived.Test.YtjedmiegcbdedaaRh
import Derived.Test.YtjedmiegcbdedaaPb
namespace Go.Proofs.Ytjedmiegcbdedaa
open Go.RowKit Store11

theorem rflat_any (a : Option Addr) (n c : Nat) (l : List Int) (w : World) (h : IsL w a n c l) :
    Calls Try.prog 82 #[.slice a n c] w fun e w' => e = .returned (.int .i64 (flatE l)) ∧ Below w.heap.size w w' := by
  obtain ⟨u, v, hcn⟩ : ∃ u v, cnL l = (u, v) := ⟨_, _, rfl⟩
  obtain ⟨x, hx⟩ : ∃ x, chkL l = x := ⟨_, rfl⟩
  have h0 : 0 ≤ u := by
    have e : u = (cnL l).1 := by rw [hcn]
    rw [e, cnL]
    split
    · exact cnR_nonneg l
    · exact Int.le_refl _
  have hf : flatE l = if x = 0 then (if 0 < u then 13 else 0) else x := by
    unfold flatE
    rw [hx]
    by_cases e : x = 0
    · rw [if_pos e, if_pos e]
      have : (cnR l).1 = u := by rw [cnL, if_pos (by rw [hx, e])] at hcn; rw [hcn]
      rw [this]
    · rw [if_neg e, if_neg e]
  have HC := Lib.hid hcn
  have HX := Lib.hid hx
  have HF := Lib.hid hf
  clear hcn hx hf
  by_cases hxz : x = 0
  · have hx1 : (x == 0) = true := by simpa using hxz
    by_cases hu : 0 < u
    · have d1 : decide (0 < u) = true := by simpa using hu
      have HR : Hid ((13 : Int) = flatE l) := Lib.hid (by rw [HF.out, if_pos hxz, if_pos hu])
      clear hxz
      go_enter Try.func82, Try.ntmps82
      go_wp2_with fail
      refine (rArcs_any _ _ _ _ _ h).mono ?_
      rintro e w1 ⟨rfl, b1⟩
      rw [HC.out, HX.out]
      simp only []
      go_wp2
      go_ret
      exact ⟨ret_i HR.out, b1⟩
    · have d1 : decide (0 < u) = false := by simpa using hu
      have HR : Hid (x = flatE l) := Lib.hid (by rw [HF.out, if_pos hxz, if_neg hu, hxz])
      clear hxz
      go_enter Try.func82, Try.ntmps82
      go_wp2_with fail
      refine (rArcs_any _ _ _ _ _ h).mono ?_
      rintro e w1 ⟨rfl, b1⟩
      rw [HC.out, HX.out]
      simp only []
      go_wp2
      go_ret
      exact ⟨ret_i HR.out, b1⟩
  · have hx1 : (x == 0) = false := by simpa using hxz
    have HR : Hid (x = flatE l) := Lib.hid (by rw [HF.out, if_neg hxz])
    clear hxz
    go_enter Try.func82, Try.ntmps82
    go_wp2_with fail
    refine (rArcs_any _ _ _ _ _ h).mono ?_
    rintro e w1 ⟨rfl, b1⟩
    rw [HC.out, HX.out]
    simp only []
    go_wp2
    go_ret
    exact ⟨ret_i HR.out, b1⟩
end Go.Proofs.Ytjedmiegcbdedaa
