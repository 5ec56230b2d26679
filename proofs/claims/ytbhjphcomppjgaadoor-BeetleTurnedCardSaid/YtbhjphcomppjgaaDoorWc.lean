/- Walks of chapter 9: rows and columns are laid. -/
import Derived.Test.YtbhjphcomppjgaaDoorWb
namespace Beetle09
set_option maxRecDepth 100000
/-- Two bales become neighbours. -/
def jn (L : List Nat) (a b : Nat) : List Nat := (L.set a (L.getD a 0 ||| 2 ^ b)).set b ((L.set a (L.getD a 0 ||| 2 ^ b)).getD b 0 ||| 2 ^ a)
theorem jn_len (L : List Nat) (a b : Nat) : (jn L a b).length = L.length := by simp [jn]
/-- The neighbours when the first n bales were gone through. -/
def nearN (C : Nat) : Nat → List Nat
  | 0 => List.replicate 25 0
  | n + 1 =>
    let L := if 0 < n % C then jn (nearN C n) n (n - 1) else nearN C n
    if C ≤ n then jn L n (n - C) else L
theorem nearN_len (C : Nat) : ∀ n, (nearN C n).length = 25
  | 0 => by rw [nearN, List.length_replicate]
  | n + 1 => by
    have := nearN_len C n
    simp only [nearN]
    split <;> split <;> simp [jn_len, this]
theorem near_d : ∀ R, R < 5 → ∀ C, C < 5 → ∀ n, n < (R + 1) * (C + 1) → (nearN (C + 1) ((R + 1) * (C + 1))).getD n 0 = nbS (R + 1) (C + 1) n := by decide +kernel
theorem near_at {R C n : Nat} (hs : Sd R C) (hn : n < R * C) : (nearN C (R * C)).getD n 0 = nbS R C n :=
  sd_cases (p := fun R C => ∀ n, n < R * C → (nearN C (R * C)).getD n 0 = nbS R C n) near_d hs n hn
theorem set_lt {L : List Nat} {i v M : Nat} (h : ∀ j, L.getD j 0 < M) (hv : v < M) (j : Nat) : (L.set i v).getD j 0 < M := by
  simp only [List.getD, List.getElem?_set]
  split
  · split
    · exact hv
    · simp; omega
  · exact h j
theorem jn_lt {L : List Nat} {a b : Nat} (ha : a < 25) (hb : b < 25) (h : ∀ j, L.getD j 0 < 2 ^ 25) (j : Nat) : (jn L a b).getD j 0 < 2 ^ 25 := by
  have h1 : ∀ j, (L.set a (L.getD a 0 ||| 2 ^ b)).getD j 0 < 2 ^ 25 := set_lt h (Nat.or_lt_two_pow (h a) (Nat.pow_lt_pow_right (by omega) hb))
  exact set_lt h1 (Nat.or_lt_two_pow (h1 b) (Nat.pow_lt_pow_right (by omega) ha)) j
theorem nearN_lt (C : Nat) : ∀ n, n ≤ 25 → ∀ j, (nearN C n).getD j 0 < 2 ^ 25
  | 0, _, j => by
    rw [nearN]
    simp only [List.getD, List.getElem?_replicate]
    split <;> simp
  | n + 1, hn, j => by
    have ih := nearN_lt C n (by omega)
    have h1 : ∀ j, (if 0 < n % C then jn (nearN C n) n (n - 1) else nearN C n).getD j 0 < 2 ^ 25 := by
      split
      · exact jn_lt (by omega) (by omega) ih
      · exact ih
    simp only [nearN]
    split
    · exact jn_lt (by omega) (by omega) h1 j
    · exact h1 j
end Beetle09
namespace Go.Proofs.YtbhjphcomppjgaaDoor
open Go.RowKit Beetle09

/-- The cells of a floor. -/
def flL (R C : Nat) (L : List Nat) : List Value := .int .i64 (R : Int) :: .int .i64 (C : Int) :: .int .i64 ((R * C : Nat) : Int) :: L.map (fun (k : Nat) => Value.int .u32 (k : Int))
/-- A floor lies in a block. -/
abbrev Flr (w : World) (g R C : Nat) (L : List Nat) : Prop := ArrV (fun v : Value => v) w g 85 (flL R C L)
theorem flL_set (R C : Nat) (L : List Nat) (i k : Nat) : (flL R C L).set (3 + i) (.int .u32 (k : Int)) = flL R C (L.set i k) := by
  rw [Nat.add_comm]
  simp [flL, List.map_set]
theorem Flr.set {w : World} {g R C : Nat} {L : List Nat} (h : Flr w g R C L) (i k : Nat) : Flr (w.setCell ⟨g, 3 + i, none⟩ (.int .u32 (k : Int))) g R C (L.set i k) := by
  have := ArrV.set (f := fun v : Value => v) h (3 + i) (.int .u32 (k : Int))
  rw [flL_set] at this
  exact this
theorem Flr.near {w : World} {g R C : Nat} {L : List Nat} (h : Flr w g R C L) (i : Nat) (hi : i < L.length) : w.cell? ⟨g, 3 + i, none⟩ = some (.int .u32 ((L.getD i 0 : Nat) : Int)) := by
  have := ArrV.cell (f := fun v : Value => v) h (3 + i) (.bool false) (by simp [flL]; omega)
  rw [this, Nat.add_comm]
  congr 1
  simp [flL, List.getD, hi]
theorem Flr.rows {w : World} {g R C : Nat} {L : List Nat} (h : Flr w g R C L) : w.cell? ⟨g, 0, none⟩ = some (.int .i64 (R : Int)) := ArrV.cell (f := fun v : Value => v) h 0 (.bool false) (by simp [flL])
theorem Flr.cols {w : World} {g R C : Nat} {L : List Nat} (h : Flr w g R C L) : w.cell? ⟨g, 1, none⟩ = some (.int .i64 (C : Int)) := ArrV.cell (f := fun v : Value => v) h 1 (.bool false) (by simp [flL])
theorem Flr.bales {w : World} {g R C : Nat} {L : List Nat} (h : Flr w g R C L) : w.cell? ⟨g, 2, none⟩ = some (.int .i64 ((R * C : Nat) : Int)) := ArrV.cell (f := fun v : Value => v) h 2 (.bool false) (by simp [flL])
theorem or_facts (k b : Nat) (hk : k < 2 ^ 25) (hb : b < 25) : ∃ V r : Nat, r = k ||| 2 ^ b ∧ r < 2 ^ 25 ∧ V ≤ 16777216 ∧ (2 : Int) ^ b = (V : Int) ∧ IntKind.u32.wrap (V : Int) = (V : Int) ∧ (V : Int) % 4294967296 = (V : Int) ∧ bits .or .u32 (k : Int) (V : Int) = (r : Int) := by
  obtain ⟨V, hV, hV1, f1, f2, f3⟩ := pow_facts b hb
  have h25 : (2 : Nat) ^ 25 = 33554432 := by decide
  exact ⟨V, k ||| V, by rw [hV], Nat.or_lt_two_pow hk (by rw [hV]; exact Nat.pow_lt_pow_right (by omega) hb), hV1, f1, f2, f3, u32_or_nat k V (by omega) (by omega)⟩

set_option maxHeartbeats 4000000 in
set_option maxRecDepth 100000 in
theorem join_any (g p R C a b : Nat) (L : List Nat) (w : World) (hF : Flr w g R C L) (hL : L.length = 25) (hlt : ∀ j, L.getD j 0 < 2 ^ 25) (hp : w.cell? ⟨p, 0, none⟩ = some (.pointer (some ⟨g, 0, none⟩))) (hpg : p ≠ g) (ha : a < 25) (hb : b < 25) :
    Calls Tryd.prog 83 #[.int .i64 (a : Int), .int .i64 (b : Int), .pointer (some ⟨p, 0, none⟩)] w fun e w' => e = .returned (.tuple #[]) ∧ Flr w' g R C (jn L a b) ∧ w.grownBy w' (some g) := by
  obtain ⟨V, r, hr, hr25, hV1, f1, f2, f3, f4⟩ := or_facts (L.getD a 0) b (hlt a) hb
  have m0 := hF.near a (by omega)
  have m1 := ArrV.frozen hF (3 + a)
  have HF1 := hF.set a r
  have hl1 := set_lt (i := a) hlt hr25
  obtain ⟨V2, r2, hr2, hr25', hV2, e1, e2, e3, e4⟩ := or_facts ((L.set a r).getD b 0) a (hl1 b) ha
  have n0 := HF1.near b (by rw [List.length_set]; omega)
  have n1 := ArrV.frozen HF1 (3 + b)
  have HF2 := Lib.hid (HF1.set b r2)
  have HJ : Hid ((L.set a r).set b r2 = jn L a b) := Lib.hid (by rw [jn, hr2, hr])
  have HG := Lib.hid (grown_trans (grown_setCell w g (3 + a) (.int .u32 (r : Int))) (grown_setCell _ g (3 + b) (.int .u32 (r2 : Int))))
  have p1 : (w.setCell ⟨g, 3 + a, none⟩ (.int .u32 (r : Int))).cell? ⟨p, 0, none⟩ = some (.pointer (some ⟨g, 0, none⟩)) := by
    rw [World.cell?_setCell_other _ _ _ _ (by simp)]; exact hp
  obtain ⟨k, hk⟩ : ∃ k, L.getD a 0 = k := ⟨_, rfl⟩
  obtain ⟨k2, hk2⟩ : ∃ k, (L.set a r).getD b 0 = k := ⟨_, rfl⟩
  rw [hk] at m0 f4
  rw [hk2] at n0 e4
  have q1 : (a : Int) < 25 := by omega
  have q2 : (b : Int) < 25 := by omega
  clear hr hr2 hF HF1 hlt hl1 hk hk2
  go_enter Tryd.func83, Tryd.ntmps83
  go_wp2_with fail
  go_region
  all_goals
    go_wp2_with fail
    go_region
    all_goals
      go_end0
      exact ⟨rfl, by rw [← HJ.out]; exact (HF2.out.drew).drew, grown_trans HG.out (grown_trans (grown_drew _ _) (grown_drew _ _))⟩
end Go.Proofs.YtbhjphcomppjgaaDoor
