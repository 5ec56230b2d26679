/- Walks of chapter 9: the reference: a store is checked. -/
import Derived.Test.YtbhjphcomppjgaaDoorWj
namespace Beetle09
theorem mem_getD (l : List Int) (i : Nat) (h : i < l.length) : l.getD i 0 ∈ l := by
  rw [List.getD, List.getElem?_eq_getElem h]; exact List.getElem_mem h
theorem getD_of_mem {l : List Int} {x : Int} (h : x ∈ l) : ∃ i, i < l.length ∧ l.getD i 0 = x := by
  obtain ⟨i, hi, rfl⟩ := List.mem_iff_getElem.1 h
  exact ⟨i, hi, by simp [List.getD, hi]⟩
theorem take_snoc (l : List Int) (i : Nat) (h : i < l.length) : l.take (i + 1) = l.take i ++ [l.getD i 0] := by
  rw [List.take_succ_eq_append_getElem h]; simp [List.getD, h]
/-- One more is read. -/
theorem Rd.snoc {N : Nat} {P : List Int} {s n : Nat} (h : Rd N P s) (hn : n < N) (hb : s.testBit n = false) : Rd N (P ++ [(n : Int)]) (s ||| 2 ^ n) := by
  have hk : sickE N [(n : Int)] s = (0, s ||| 2 ^ n) := by rw [sickE_ok hn hb]; rfl
  have := sick_rd (S := [(n : Int)]) h (by rw [hk])
  rwa [hk] at this
theorem Rd.bit {N : Nat} {P : List Int} {s n : Nat} (h : Rd N P s) : s.testBit n = decide ((n : Int) ∈ P) := by
  rw [Bool.eq_iff_iff, h.mem, decide_eq_true_eq]
end Beetle09
namespace Go.Proofs.YtbhjphcomppjgaaDoor
open Go.RowKit Beetle09

set_option maxHeartbeats 1000000 in
theorem in_any (x lo hi : Int) (w : World) (B : Bool) (hB : decide (lo ≤ x ∧ x ≤ hi) = B) : Calls Tryd.prog 82 #[.int .i64 x, .int .i64 lo, .int .i64 hi] w fun e w' => e = .returned (.bool B) ∧ w = w' := by
  by_cases h1 : lo ≤ x
  · by_cases h2 : x ≤ hi
    · obtain rfl : B = true := by rw [← hB]; simp; omega
      clear hB
      go_enter Tryd.func82, Tryd.ntmps82
      go_wp2
      go_ret
      exact ⟨rfl, rfl⟩
    · obtain rfl : B = false := by rw [← hB]; simp; omega
      have hd : decide (x ≤ hi) = false := by simpa using h2
      clear hB
      go_enter Tryd.func82, Tryd.ntmps82
      go_wp2
      go_ret
      exact ⟨rfl, rfl⟩
  · obtain rfl : B = false := by rw [← hB]; simp; omega
    have hd : decide (lo ≤ x) = false := by simpa using h1
    clear hB
    go_enter Tryd.func82, Tryd.ntmps82
    go_wp2
    go_ret
    exact ⟨rfl, rfl⟩
set_option maxHeartbeats 1000000 in
theorem rhas_any (a : Option Addr) (n c : Nat) (l : List Int) (x : Int) (w : World) (h : IsL w a n c l) (B : Bool) (hB : decide (x ∈ l) = B) : Calls Tryd.prog 58 #[.slice a n c, .int .i64 x] w fun e w' => e = .returned (.bool B) ∧ w = w' := by
  have hcap := h.cap
  have hle := h.le
  have hl := h.len
  have HL := Lib.hid hl
  have HB := Lib.hid hB
  clear hl hB
  go_enter Tryd.func58, Tryd.ntmps58
  go_wp2_with fail
  go_loopw [5] (fun vi wr => ∃ i : Nat, i ≤ n ∧ vi = .int .i64 (i : Int) ∧ Hid (∀ j, j < i → l.getD j 0 ≠ x) ∧ w = wr) (fun vi _ => n - (intOf vi).toNat)
  case atStart => exact ⟨0, by omega, rfl, Lib.hid (fun j hj => by omega), rfl⟩
  case round =>
    obtain ⟨i, hi, rfl, hD, rfl⟩ := hrel
    by_cases hlt : i < n
    · obtain ⟨b, o, rfl, _, hc⟩ := h.cells (by omega)
      have y := hc i hlt
      have q1 : (i : Int) < (n : Int) := by omega
      obtain ⟨v, hv⟩ : ∃ v, l.getD i 0 = v := ⟨_, rfl⟩
      rw [hv] at y
      have HV := Lib.hid hv
      clear hc hv
      by_cases hx : v = x
      · subst hx
        have e1 : (v == v) = true := by simp
        have HR : Hid (true = B) := Lib.hid (by rw [← HB.out, eq_comm, decide_eq_true_eq, ← HV.out]; exact mem_getD l i (by rw [HL.out]; exact hlt))
        go_wp2_with fail
        go_ret
        exact ⟨ret_b HR.out, rfl⟩
      · have e1 : (v == x) = false := by simpa using hx
        have hD2 : Hid (∀ j, j < i + 1 → l.getD j 0 ≠ x) := Lib.hid (fun j hj => by
          by_cases hj2 : j = i
          · rw [hj2, HV.out]; exact hx
          · exact hD.out j (by omega))
        clear hx
        go_wp2_with fail
        go_roundw
        case rel => first | exact ⟨i + 1, by omega, by go_num, hD2, by first | trivial | rfl⟩ | ((repeat apply Exists.intro); exact ⟨⟨i + 1, by omega, by go_num, hD2, by first | trivial | rfl⟩, rfl⟩)
        case measure => simp [intOf]; omega
    · obtain rfl : i = n := by omega
      have HR : Hid (false = B) := Lib.hid (by
        rw [← HB.out, eq_comm, decide_eq_false_iff_not]
        intro hm
        obtain ⟨j, hj, e⟩ := getD_of_mem hm
        exact hD.out j (by rw [HL.out] at hj; exact hj) e)
      go_wp2_with fail
      go_ret
      exact ⟨ret_b HR.out, rfl⟩
theorem sides_any (r c : Int) (w : World) (B : Bool) (hB : sdB r c = B) : Calls Tryd.prog 65 #[.int .i64 r, .int .i64 c] w fun e w' => e = .returned (.bool B) ∧ w = w' := by
  have hB' : decide (1 ≤ r ∧ r ≤ 5 ∧ 1 ≤ c ∧ c ≤ 5) = B := hB
  clear hB
  by_cases h1 : 1 ≤ r ∧ r ≤ 5
  · have H1 := Lib.hid (fun w => in_any r 1 5 w true (decide_eq_true h1))
    have H2 := Lib.hid (fun w => in_any c 1 5 w B (by rw [← hB']; exact decide_eq_decide.2 ⟨fun h => ⟨h1.1, h1.2, h⟩, fun h => h.2.2⟩))
    clear hB' h1
    go_enter Tryd.func65, Tryd.ntmps65
    go_wp2_with fail
    refine (H1.out _).mono ?_
    rintro e w1 ⟨rfl, rfl⟩
    go_wp2_with fail
    refine (H2.out _).mono ?_
    rintro e w1 ⟨rfl, rfl⟩
    go_wp2_with fail
    go_ret
    exact ⟨rfl, rfl⟩
  · have H1 := Lib.hid (fun w => in_any r 1 5 w false (decide_eq_false h1))
    obtain rfl : B = false := by rw [← hB']; exact decide_eq_false fun h => h1 ⟨h.1, h.2.1⟩
    clear hB' h1
    go_enter Tryd.func65, Tryd.ntmps65
    go_wp2_with fail
    refine (H1.out _).mono ?_
    rintro e w1 ⟨rfl, rfl⟩
    go_wp2_with fail
    go_ret
    exact ⟨rfl, rfl⟩
set_option maxHeartbeats 1000000 in
theorem bale_any (R C : Nat) (a b : Option Addr) (n k m j : Nat) (x : Int) (w : World) (h25 : R * C ≤ 25) (h1 : 1 ≤ R * C) (hR : R ≤ 5) (hC : C ≤ 5) (B : Bool) (hB : decide (0 ≤ x ∧ x < ((R * C : Nat) : Int)) = B) : Calls Tryd.prog 62 #[stV R C a b n k m j, .int .i64 x] w fun e w' => e = .returned (.bool B) ∧ Below w.heap.size w w' := by
  have m1 : (R : Int) * (C : Int) = ((R * C : Nat) : Int) := by simp
  obtain ⟨N, hN⟩ : ∃ N, R * C = N := ⟨_, rfl⟩
  rw [hN] at m1 h25 h1 hB
  have H1 := Lib.hid (fun w => in_any x 0 ((N : Int) - 1) w B (by rw [← hB]; exact decide_eq_decide.2 (by omega)))
  clear hB hN
  go_enter Tryd.func62, Tryd.ntmps62
  go_wp2_with fail
  refine (H1.out _).mono ?_
  rintro e w1 ⟨rfl, rfl⟩
  go_wp2_with fail
  go_ret
  exact ⟨rfl, (Below.refl _ _).alloc (Nat.le_refl _) _⟩
end Go.Proofs.YtbhjphcomppjgaaDoor
