/- Walks of chapter 4 at the top seat: Count, number, missing. -/
import Derived.Test.YtpfaoagddgcmbaaDoorBb
import Derived.Test.YtpfaoagddgcmbaaDoorTk
import Derived.BigQuiet
import Derived.Deep.QuietTactic
namespace Go.Proofs.YtpfaoagddgcmbaaDoor
open Go.RowKit Blend04
set_option maxRecDepth 100000
theorem Count_ok (n k : Nat) (w : World) (h1 : 1 ≤ n) (h10 : n ≤ 10) (hk : k ≤ n) (v : Nat) (hv : chN n k = v) : Calls Tryd.prog 39 #[.int .i64 (n : Int), .int .i64 (k : Int)] w fun e w' => e = .returned (.tuple #[.int .i64 (v : Int), .int .i64 0]) ∧ w = w' := by
  have H1 := Lib.hid (fun w => sized_ok n k w h1 h10 hk)
  have H2 := Lib.hid (fun w => chooseB_any n k w (by omega) (by omega) v hv)
  clear hv
  go_enter Tryd.func39, Tryd.ntmps39
  go_wp2_with fail
  refine (H1.out _).mono ?_
  rintro e w1 ⟨rfl, rfl⟩
  go_wp2_with fail
  refine (H2.out _).mono ?_
  rintro e w1 ⟨rfl, rfl⟩
  go_wp2_with fail
  go_ret2
  exact ⟨rfl, rfl⟩
def missK (a b : List Int) (i : Nat) : Prop := ∀ j, j < i → a.getD j 0 ∈ b
theorem missL_hit {a b : List Int} {i : Nat} (h : missK a b i) (hi : i < a.length) (hn : a.getD i 0 ∉ b) : missL a b = a.getD i 0 := by
  have e : a.find? (fun x => decide (x ∉ b)) = some (a.getD i 0) := by
    rw [List.find?_eq_some_iff_getElem]
    refine ⟨by simpa using hn, i, hi, by rw [List.getD, List.getElem?_eq_getElem hi]; rfl, fun j hj => ?_⟩
    have := h j hj
    rw [List.getD, List.getElem?_eq_getElem (by omega)] at this
    simpa using this
  rw [missL, e]
theorem missL_none {a b : List Int} (h : missK a b a.length) : missL a b = -1 := by
  have e : a.find? (fun x => decide (x ∉ b)) = none := by
    rw [List.find?_eq_none]
    intro x hx
    obtain ⟨j, hj, rfl⟩ := List.mem_iff_getElem.1 hx
    have := h j hj
    rw [List.getD, List.getElem?_eq_getElem hj] at this
    simpa using this
  rw [missL, e]
set_option maxHeartbeats 4000000 in
theorem missing_any (a b : Option Addr) (n m c d : Nat) (l l' : List Int) (w : World) (h : IsL w a n c l) (h' : IsL w b m d l') (hn : n ≤ 1000) :
    Calls Tryd.prog 90 #[.slice a n c, .slice b m d] w fun e w' => e = .returned (.int .i64 (missL l l')) ∧ w = w' := by
  have hle := h.le
  have hcap := h.cap
  have HL := Lib.hid h.len
  have HH := Lib.hid h
  have HH' := Lib.hid h'
  clear h h'
  go_enter Tryd.func90, Tryd.ntmps90
  go_wp2_with fail
  go_loopw [9] (fun vi wr => ∃ i : Nat, i ≤ n ∧ vi = .int .i64 (i : Int) ∧ Hid (missK l l' i) ∧ w = wr) (fun vi _ => n - (intOf vi).toNat)
  case atStart => exact ⟨0, by omega, rfl, Lib.hid (fun j hj => by omega), rfl⟩
  case round =>
    obtain ⟨i, hi, rfl, hK, rfl⟩ := hrel
    have w9 : IntKind.i64.wrap ((i : Int) + 1) = (i : Int) + 1 := IntWalk.i64_in _ (by omega)
    by_cases hlt : i < n
    · have q1 : (i : Int) < (n : Int) := by omega
      obtain ⟨b', o', rfl, _, hcell⟩ := HH.out.cells (by omega)
      have c1 := hcell i hlt
      by_cases hin : l.getD i 0 ∈ l'
      · have HC := Lib.hid (contains_yes b m d l' (l.getD i 0) w HH'.out hin)
        have hK2 : Hid (missK l l' (i + 1)) := Lib.hid (fun j hj => by
          by_cases e : j = i
          · rw [e]; exact hin
          · exact hK.out j (by omega))
        generalize l.getD i 0 = x at *
        clear hcell hin hK
        go_wp2_with fail
        refine HC.out.mono ?_
        rintro e w1 ⟨rfl, rfl⟩
        go_wp2_with fail
        exact ⟨⟨i + 1, by omega, by go_num, hK2, by simp⟩, by simp [intOf]; omega⟩
      · have HC := Lib.hid (contains_no b m d l' (l.getD i 0) w HH'.out hin)
        have HR := Lib.hid (missL_hit hK.out (by rw [HL.out]; exact hlt) hin)
        generalize l.getD i 0 = x at *
        clear hcell hin hK
        go_wp2_with fail
        refine HC.out.mono ?_
        rintro e w1 ⟨rfl, rfl⟩
        go_wp2_with fail
        go_ret
        exact ⟨by rw [HR.out]; rfl, rfl⟩
    · obtain rfl : i = n := by omega
      have HR : Hid (missL l l' = -1) := Lib.hid (missL_none (by have := hK.out; rwa [← HL.out] at this))
      go_wp2
      go_ret
      exact ⟨by rw [HR.out]; rfl, rfl⟩
end Go.Proofs.YtpfaoagddgcmbaaDoor
