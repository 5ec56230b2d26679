/- Walks of the top chapter: the examples of chapters 4 and 6; turned pairs. -/
import Derived.Test.YtpfaoagddgcmbaaDoorTc
import Derived.Test.YtpfaoagddgcmbaaDoorBa
import Derived.Test.YtpfaoagddgcmbaaDoorBb
namespace Blend04
theorem sumL_snoc (l : List Int) (x : Int) : sumL (l ++ [x]) = sumL l + x := by
  induction l with
  | nil => simp [sumL]
  | cons y l ih => simp only [List.cons_append, sumL, ih]; omega
theorem sumL_next (l : List Int) (i : Nat) (h : i < l.length) : sumL (l.take (i + 1)) = sumL (l.take i) + l.getD i 0 := by
  have e : l.take (i + 1) = l.take i ++ [l.getD i 0] := by
    rw [List.take_add_one, List.getElem?_eq_getElem h]
    simp [List.getD, h]
  rw [e, sumL_snoc]
end Blend04
namespace Go.Proofs.YtpfaoagddgcmbaaDoor
open Go.RowKit Dock01 Grade03 Blend04 Bench06
set_option maxRecDepth 100000
set_option maxHeartbeats 4000000 in
theorem chosenWorks_any (w : World) (hT : Tab w) : Calls Tryd.prog 46 #[] w fun e w' => e = .returned (.bool true) ∧ Below w.heap.size w w' := by
  have HT := Lib.hid hT
  have HC : Hid (∀ w, Calls Tryd.prog 40 #[.int .i64 4, .int .i64 2, .int .i64 3] w fun e w' => ∃ a, e = .returned (.tuple #[.slice a 2 2, .int .i64 0]) ∧ IsL w' a 2 2 [2, 3] ∧ Below w.heap.size w w') := Lib.hid (fun w => by
    refine (Nth_ok 4 2 3 w (by decide) (by decide) (by decide) (by decide +kernel)).mono ?_
    rintro e w' ⟨a, rfl, o, b⟩
    rw [show nthL 2 3 = [2, 3] by decide +kernel] at o
    exact ⟨a, rfl, o.isL, b⟩)
  clear hT
  go_enter Tryd.func46, Tryd.ntmps46
  go_wp2_with fail
  refine (HC.out _).mono ?_
  rintro e w1 ⟨a, rfl, h1, k1⟩
  have hs1 := k1.size
  go_wp2_with fail
  refine (list_any _ _ _ _).mono ?_
  rintro e w2 ⟨rfl, rfl⟩
  go_wp2_with fail
  have k2 := k1.alloc hs1 (.cells #[.int .i64 2, .int .i64 3] 3)
  refine (same_yes _ _ _ _ _ _ [2, 3] [2, 3] _ (h1.alloc _) (isL_litAt w1 [2, 3] _ _ _ _ rfl rfl rfl (by decide)) rfl).mono ?_
  rintro e w3 ⟨rfl, b3⟩
  have k3 := k2.trans (b3.mono k2.size)
  clear b3 k2 h1 k1
  go_wp2_with fail
  refine (waitingWorks_any _ (HT.out.below k3)).mono ?_
  rintro e w4 ⟨rfl, b4⟩
  have k4 := k3.trans (b4.mono k3.size)
  go_wp2_with fail
  go_ret
  exact ⟨rfl, k4⟩
set_option maxHeartbeats 4000000 in
theorem benchWorks_any (w : World) (hT : Tab w) : Calls Tryd.prog 31 #[] w fun e w' => e = .returned (.bool true) ∧ Below w.heap.size w w' := by
  have HT := Lib.hid hT
  have HC : Hid (∀ w, Calls Tryd.prog 48 #[.int .i64 7, .int .i64 3] w fun e w' => ∃ a c, e = .returned (.tuple #[.slice a 7 c, .int .i64 0]) ∧ IsL w' a 7 c [2, 5, 1, 6, 4, 0, 3] ∧ Below w.heap.size w w') := Lib.hid (fun w => by
    refine (Order_ok 7 3 w (by decide) (by decide) (by decide) (by decide)).mono ?_
    rintro e w' ⟨a, c, rfl, o, b⟩
    rw [show ordL (7 : Int).toNat (3 : Int).toNat = [2, 5, 1, 6, 4, 0, 3] by decide +kernel] at o
    exact ⟨a, c, rfl, o.isL, b⟩)
  clear hT
  go_enter Tryd.func31, Tryd.ntmps31
  go_wp2_with fail
  refine (HC.out _).mono ?_
  rintro e w1 ⟨a, c, rfl, h1, k1⟩
  have hs1 := k1.size
  go_wp2_with fail
  refine (list_any _ _ _ _).mono ?_
  rintro e w2 ⟨rfl, rfl⟩
  go_wp2_with fail
  have k2 := k1.alloc hs1 (.cells #[.int .i64 2, .int .i64 5, .int .i64 1, .int .i64 6, .int .i64 4, .int .i64 0, .int .i64 3] 3)
  refine (same_yes _ _ _ _ _ _ [2, 5, 1, 6, 4, 0, 3] [2, 5, 1, 6, 4, 0, 3] _ (h1.alloc _) (isL_litAt w1 [2, 5, 1, 6, 4, 0, 3] _ _ _ _ rfl rfl rfl (by decide)) rfl).mono ?_
  rintro e w3 ⟨rfl, b3⟩
  have k3 := k2.trans (b3.mono k2.size)
  clear b3 k2 h1 k1
  go_wp2_with fail
  refine (chosenWorks_any _ (HT.out.below k3)).mono ?_
  rintro e w4 ⟨rfl, b4⟩
  have k4 := k3.trans (b4.mono k3.size)
  go_wp2_with fail
  go_ret
  exact ⟨rfl, k4⟩
set_option maxHeartbeats 4000000 in
theorem turned_any (a : Option Addr) (n c : Nat) (l : List Int) (w : World) (h : IsL w a n c l) (hck : chkE l = 0) :
    Calls Tryd.prog 49 #[.slice a n c] w fun e w' => e = .returned (.tuple #[.int .i64 (sumL (codeL l)), .bool true]) ∧ Below w.heap.size w w' := by
  obtain ⟨hO, hl1, hl7⟩ := chkE_zero.1 hck
  have hln := h.len
  rw [hln] at hl1 hl7
  have hCF := cod_facts hO hln hl1 hl7
  have HLC := Lib.hid hCF.len
  have HIN := Lib.hid hCF.inl
  have HC : Hid (∀ w, IsL w a n c l → Calls Tryd.prog 18 #[.slice a n c] w fun e w' => ∃ a' c', e = .returned (.tuple #[.slice a' n c', .int .i64 0]) ∧ IsL w' a' n c' (codeL l) ∧ Below w.heap.size w w') := Lib.hid (fun w h => by
    refine (Code_any _ _ _ l _ h).mono ?_
    rintro e w3 ⟨ac, mc, cc, rfl, hc, b3⟩
    unfold codE at hc
    rw [if_pos hck] at hc
    obtain rfl : mc = n := by rw [← hc.len, hCF.len]
    exact ⟨ac, cc, by rw [hck], hc, b3⟩)
  have HB : Hid (∀ i, i ≤ n → 0 ≤ sumL ((codeL l).take i) ∧ sumL ((codeL l).take i) ≤ 7 * i) := Lib.hid (fun i => by
    induction i with
    | zero => intro _; simp [sumL]
    | succ i ih =>
      intro hi
      have h1 := ih (by omega)
      have h2 := hCF.inl i (by rw [hCF.len]; omega)
      rw [sumL_next _ _ (by rw [hCF.len]; omega)]
      omega)
  have HF : Hid (sumL (codeL l) = sumL ((codeL l).take n)) := Lib.hid (by rw [List.take_of_length_le (by rw [hCF.len]; exact Nat.le_refl _)])
  clear hO hck hCF
  go_enter Tryd.func49, Tryd.ntmps49
  go_wp2_with fail
  refine (HC.out _ h).mono ?_
  rintro e w1 ⟨a1, c1, rfl, h1, b1⟩
  obtain ⟨L, hLe⟩ : ∃ L, codeL l = L := ⟨_, rfl⟩
  have HE := Lib.hid hLe
  rw [hLe] at h1 HB HIN HLC
  clear hLe
  have H1 := Lib.hid h1
  have hle := h1.le
  have hcap := h1.cap
  clear h1 HC h
  go_wp2_with fail
  go_loopw [16, 6] (fun vi vs wr => ∃ i : Nat, i ≤ n ∧ vi = .int .i64 (i : Int) ∧ vs = .int .i64 (sumL (L.take i)) ∧ Below w1.heap.size w1 wr) (fun vi _ _ => n - (intOf vi).toNat)
  case atStart => exact ⟨0, by omega, rfl, rfl, Below.refl _ _⟩
  case round =>
    obtain ⟨i, hi, rfl, rfl, kr⟩ := hrel
    have w9 : IntKind.i64.wrap ((i : Int) + 1) = (i : Int) + 1 := IntWalk.i64_in _ (by omega)
    by_cases hlt : i < n
    · have q1 : (i : Int) < (n : Int) := by omega
      obtain ⟨b', o', rfl, _, hcell⟩ := (H1.out.below kr).cells (by omega)
      have c1 := hcell i hlt
      have hb0 := HB.out i (by omega)
      have hb1 := HB.out (i + 1) (by omega)
      have hnx := sumL_next L i (by rw [HLC.out]; exact hlt)
      have HNX := Lib.hid hnx
      have w8 : IntKind.i64.wrap (sumL (L.take i) + L.getD i 0) = sumL (L.take i) + L.getD i 0 := IntWalk.i64_in _ (by omega)
      obtain ⟨x, hx⟩ : ∃ x, L.getD i 0 = x := ⟨_, rfl⟩
      rw [hx] at c1 w8 HNX
      clear hcell hnx hb1 hx
      go_wp2_with fail
      exact ⟨⟨i + 1, by omega, by go_num, by rw [HNX.out], kr⟩, by simp [intOf]; omega⟩
    · obtain rfl : i = n := by omega
      have q3 : ((i : Int) == (i : Int)) = true := by simp
      go_wp2
      go_ret2
      exact ⟨by rw [HF.out, HE.out]; rfl, b1.trans (kr.mono b1.size)⟩
end Go.Proofs.YtpfaoagddgcmbaaDoor
