/- Walks of chapter 4 at the top seat: the number of a blend. -/
import Derived.Test.YtpfaoagddgcmbaaDoorBc
namespace Go.Proofs.YtpfaoagddgcmbaaDoor
open Go.RowKit Blend04
set_option maxRecDepth 100000
theorem numG_take (l : List Int) (i : Nat) : ∀ j, j ≤ i → numG (l.take i) j = numG l j
  | 0, _ => rfl
  | j + 1, h => by
    have e : (l.take i).getD j 0 = l.getD j 0 := by
      rw [List.getD, List.getD, List.getElem?_take, if_pos (by omega)]
    rw [numG, numG, e, numG_take l i j (by omega)]
theorem chN_bd (n k : Nat) (hn : n ≤ 12) : chN n k ≤ 1000 := by
  rw [chN]
  split
  · omega
  · exact (chI_bound n (by omega) k (by omega)).2
theorem numG_bd (l : List Int) : ∀ k, (∀ i, i < k → 0 ≤ l.getD i 0 ∧ l.getD i 0 ≤ 10) → -1001 * (k : Int) ≤ numG l k ∧ numG l k ≤ 1001 * k
  | 0, _ => by simp [numG]
  | k + 1, h => by
    have h1 := numG_bd l k (fun i hi => h i (by omega))
    have h2 := h k (by omega)
    have h3 := chN_bd ((l.getD k 0).toNat + 1) (k + 1) (by omega)
    rw [numG]
    omega
set_option maxHeartbeats 4000000 in
theorem number_any : ∀ (k : Nat) (a : Option Addr) (c : Nat) (l : List Int) (w : World), IsL w a k c l → k ≤ 8 → (∀ i, i < k → 0 ≤ l.getD i 0 ∧ l.getD i 0 ≤ 10) →
    Calls Tryd.prog 89 #[.slice a k c] w fun e w' => e = .returned (.int .i64 (numG l k)) ∧ ∃ m, w' = w.drewN m
  | 0, a, c, l, w, h, _, _ => by
    go_enter Tryd.func89, Tryd.ntmps89
    go_wp2
    go_ret
    exact ⟨rfl, 0, rfl⟩
  | j + 1, a, c, l, w, h, h8, hb => by
    have hcap := h.cap
    have hle := h.le
    have hrec := fun (n : Nat) => number_any j a c (l.take j) (w.drewN n) ((h.drewN n).pre j c (by omega) (by omega) (Nat.le_refl _)) (by omega) (fun i hi => by
      have := hb i (by omega)
      rwa [show (l.take j).getD i 0 = l.getD i 0 by rw [List.getD, List.getD, List.getElem?_take, if_pos hi]])
    rw [numG_take l j j (Nat.le_refl _)] at hrec
    obtain ⟨b, o, rfl, _, hcell⟩ := h.cells (by omega)
    have c1 := hcell j (by omega)
    have hx0 := hb j (by omega)
    have hbd := numG_bd l j (fun i hi => hb i (by omega))
    obtain ⟨x, hx⟩ : ∃ x : Nat, l.getD j 0 = (x : Int) := ⟨(l.getD j 0).toNat, by omega⟩
    have hnx : numG l (j + 1) = (chN (x + 1) (j + 1) : Int) - 1 - numG l j := by rw [numG, hx, Int.toNat_natCast]
    rw [hx] at c1 hx0
    have hvb := chN_bd (x + 1) (j + 1) (by omega)
    have HCV := fun w => chooseB_any (x + 1) (j + 1) w (by omega) (by omega) _ rfl
    generalize chN (x + 1) (j + 1) = v at *
    have e0 : ((j + 1 : Nat) : Int) = (j : Int) + 1 := by omega
    have HC : Hid (∀ n, Calls Tryd.prog 85 #[.int .i64 ((x + 1 : Nat) : Int), .int .i64 ((j : Int) + 1)] (w.drewN n) fun e w' => e = .returned (.int .i64 (v : Int)) ∧ w' = w.drewN n) := Lib.hid (fun n => by
      have := HCV (w.drewN n)
      rw [e0] at this
      exact this.mono fun e w' ⟨h1, h2⟩ => ⟨h1, h2.symm⟩)
    have HR := Lib.hid hrec
    have HNX := Lib.hid hnx
    generalize numG l j = r at *
    have w9 : IntKind.i64.wrap ((j : Int) + 1 - 1) = (j : Int) := by rw [IntWalk.i64_in _ (by omega)]; omega
    have w9' : IntKind.i64.wrap (j : Int) = (j : Int) := IntWalk.i64_in _ (by omega)
    have w8 : IntKind.i64.wrap ((x : Int) + 1) = ((x + 1 : Nat) : Int) := by rw [IntWalk.i64_in _ (by omega)]; omega
    have w7 : IntKind.i64.wrap ((v : Int) - 1) = (v : Int) - 1 := IntWalk.i64_in _ (by omega)
    have w6 : IntKind.i64.wrap ((v : Int) - 1 - r) = (v : Int) - 1 - r := IntWalk.i64_in _ (by omega)
    have q1 : ((j : Int) + 1 == 0) = false := by simp; omega
    have q2 : (j : Int) < (j : Int) + 1 := by omega
    have q3 : (j : Int) ≤ (j : Int) + 1 := by omega
    have q4 : (j : Int) ≤ (c : Int) := by omega
    clear hcell hx hnx hrec HCV hb hvb
    go_enter Tryd.func89, Tryd.ntmps89
    go_wp2_with fail
    go_quiet (first | (go_at_call 85; exact Calls.quiet_of_same (HC.out _)) | (go_at_call 89; exact Calls.quiet_of (HR.out _)))
    go_wp2
    go_ret
    exact ⟨by rw [HNX.out]; rfl, _, rfl⟩
end Go.Proofs.YtpfaoagddgcmbaaDoor
