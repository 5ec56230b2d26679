/- Walks of the top chapter: turned pairs of a blend's order (TopChosen's closure). -/
import Derived.Test.YtpfaoagddgcmbaaDoorTn
namespace Go.Proofs.YtpfaoagddgcmbaaDoor
open Go.RowKit Blend04 Grade03 Dock01
set_option maxRecDepth 100000
set_option maxHeartbeats 8000000 in
theorem turnC_any (p n k : Nat) (a : Option Addr) (c : Nat) (l : List Int) (w : World) (hp : w.cell? ⟨p, 0, none⟩ = some (.int .i64 (n : Int))) (h : IsL w a k c l) (h7 : n ≤ 7) (hk : k ≤ 7) (hck : chkE (ahdL n l) = 0) (hlen : (ahdL n l).length = n) :
    Calls Tryd.prog 41 #[.slice a k c, .pointer (some ⟨p, 0, none⟩)] w fun e w' => e = .returned (.tuple #[.int .i64 (sumL (codeL (ahdL n l))), .int .i64 (majL (ahdL n l)), .bool true]) ∧ Below w.heap.size w w' := by
  have hpl : p < w.heap.size := by
    rcases Nat.lt_or_ge p w.heap.size with h2 | h2
    · exact h2
    · exfalso
      have : w.heap[p]? = none := Array.getElem?_eq_none h2
      simp [World.cell?, this] at hp
  obtain ⟨hO, hl1, hl7⟩ := chkE_zero.1 hck
  have hCF := cod_facts hO hlen (by omega) h7
  have HLC := Lib.hid hCF.len
  have HAH := Lib.hid (fun w h => ahead_any n a k c l w h h7 hk)
  have HCELL : Hid (∀ x, Below w.heap.size w x → x.cell? ⟨p, 0, none⟩ = some (.int .i64 (n : Int))) := Lib.hid (fun x h => by rw [h.cell (p := ⟨p, 0, none⟩) hpl]; exact hp)
  have HC : Hid (∀ a z c w, IsL w a z c (ahdL n l) → Calls Tryd.prog 18 #[.slice a z c] w fun e w' => ∃ a' c', e = .returned (.tuple #[.slice a' n c', .int .i64 0]) ∧ IsL w' a' n c' (codeL (ahdL n l)) ∧ Below w.heap.size w w') := Lib.hid (fun a z c w h => by
    refine (Code_any _ _ _ _ _ h).mono ?_
    rintro e w3 ⟨ac, mc, cc, rfl, hc, b3⟩
    unfold codE at hc
    rw [if_pos hck] at hc
    obtain rfl : mc = n := by rw [← hc.len, hCF.len]
    exact ⟨ac, cc, by rw [hck], hc, b3⟩)
  have HM : Hid (∀ a z c w, IsL w a z c (ahdL n l) → Calls Tryd.prog 43 #[.slice a z c] w fun e w' => e = .returned (.tuple #[.int .i64 (majL (ahdL n l)), .int .i64 0]) ∧ Below w.heap.size w w') := Lib.hid (fun a z c w h => by
    refine (Major_any _ _ _ _ _ h).mono ?_
    rintro e w3 ⟨rfl, b3⟩
    unfold majE
    rw [if_pos hck, hck]
    exact ⟨rfl, b3⟩)
  have HB : Hid (∀ i, i ≤ n → 0 ≤ sumL ((codeL (ahdL n l)).take i) ∧ sumL ((codeL (ahdL n l)).take i) ≤ 7 * i) := Lib.hid (fun i => by
    induction i with
    | zero => intro _; simp [sumL]
    | succ i ih =>
      intro hi
      have h1 := ih (by omega)
      have h2 := hCF.inl i (by rw [hCF.len]; omega)
      rw [sumL_next _ _ (by rw [hCF.len]; omega)]
      omega)
  have HF : Hid (sumL (codeL (ahdL n l)) = sumL ((codeL (ahdL n l)).take n)) := Lib.hid (by rw [List.take_of_length_le (by rw [hCF.len]; exact Nat.le_refl _)])
  have HH := Lib.hid h
  clear hO hck hCF h hl1 hl7 hlen
  go_enter Tryd.func41, Tryd.ntmps41
  go_wp2_with fail
  refine (HAH.out _ HH.out).mono ?_
  rintro e w1 ⟨a1, z1, c1, rfl, o1, b1⟩
  go_wp2_with fail
  refine (HC.out _ _ _ _ o1.isL).mono ?_
  rintro e w2 ⟨a2, c2, rfl, h2, b2⟩
  have k2 := b1.trans (b2.mono b1.size)
  have p2 := HCELL.out w2 k2
  have hh2 := HH.out.below k2
  clear o1 b1 b2 hp
  go_wp2_with fail
  refine (HAH.out _ hh2).mono ?_
  rintro e w3 ⟨a3, z3, c3, rfl, o3, b3⟩
  have h3 := h2.below b3
  have k3 := k2.trans (b3.mono k2.size)
  clear h2 k2 b3 p2 hh2
  go_wp2_with fail
  refine (HM.out _ _ _ _ o3.isL).mono ?_
  rintro e w4 ⟨rfl, b4⟩
  have h4 := h3.below b4
  have k4 := k3.trans (b4.mono k3.size)
  have hle := h4.le
  have hcap := h4.cap
  have H4 := Lib.hid h4
  clear h3 o3 k3 b4 h4 HAH HC HM
  obtain ⟨L, hLe⟩ : ∃ L, codeL (ahdL n l) = L := ⟨_, rfl⟩
  have HE := Lib.hid hLe
  rw [hLe] at HB HLC H4
  clear hLe
  go_wp2_with fail
  go_loopw [29, 10] (fun vi vs wr => ∃ i : Nat, i ≤ n ∧ vi = .int .i64 (i : Int) ∧ vs = .int .i64 (sumL (L.take i)) ∧ Below w4.heap.size w4 wr) (fun vi _ _ => n - (intOf vi).toNat)
  case atStart => exact ⟨0, by omega, rfl, rfl, Below.refl _ _⟩
  case round =>
    obtain ⟨i, hi, rfl, rfl, kr⟩ := hrel
    have w9 : IntKind.i64.wrap ((i : Int) + 1) = (i : Int) + 1 := IntWalk.i64_in _ (by omega)
    by_cases hlt : i < n
    · have q1 : (i : Int) < (n : Int) := by omega
      obtain ⟨b', o', rfl, _, hcell⟩ := (H4.out.below kr).cells (by omega)
      have c1 := hcell i hlt
      have hb0 := HB.out i (by omega)
      have hb1 := HB.out (i + 1) (by omega)
      have hnx := sumL_next L i (by rw [HLC.out]; exact hlt)
      have HNX := Lib.hid hnx
      have w8 : IntKind.i64.wrap (sumL (L.take i) + L.getD i 0) = sumL (L.take i) + L.getD i 0 := IntWalk.i64_in _ (by omega)
      obtain ⟨x, hx⟩ : ∃ x, L.getD i 0 = x := ⟨_, rfl⟩
      rw [hx] at c1 w8 HNX
      clear hcell hnx hb1 hx
      go_wp2_with fail
      exact ⟨⟨i + 1, by omega, by go_num, by rw [HNX.out], kr⟩, by simp [intOf]; omega⟩
    · obtain rfl : i = n := by omega
      have kk := k4.trans (kr.mono k4.size)
      have p4 := HCELL.out wr kk
      have q3 : ((i : Int) == (i : Int)) = true := by simp
      go_wp2
      go_quiet (fail)
      go_wp2
      go_ret3
      exact ⟨by rw [HF.out, HE.out]; rfl, belowN kk _⟩
end Go.Proofs.YtpfaoagddgcmbaaDoor
