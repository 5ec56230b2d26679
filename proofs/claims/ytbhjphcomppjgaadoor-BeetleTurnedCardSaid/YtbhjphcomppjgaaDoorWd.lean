/- Walks of chapter 9: the floor. -/
import Derived.Test.YtbhjphcomppjgaaDoorWc
namespace Go.Proofs.YtbhjphcomppjgaaDoor
open Go.RowKit Beetle09

structure LaidS (w wr : World) (R C : Nat) (L : List Nat) : Prop where
  flr : Flr wr w.heap.size R C L
  len : L.length = 25
  lt : ∀ j, L.getD j 0 < 2 ^ 25
  ptr : ArrV (fun v : Value => v) wr (w.heap.size + 1) 76 [.pointer (some ⟨w.heap.size, 0, none⟩)]
  below : Below w.heap.size w wr
theorem LaidS.step {w wr w' : World} {R C a b : Nat} {L : List Nat} (h : LaidS w wr R C L) (ha : a < 25) (hb : b < 25) (hf : Flr w' w.heap.size R C (jn L a b)) (hg : wr.grownBy w' (some w.heap.size)) : LaidS w w' R C (jn L a b) :=
  ⟨hf, by rw [jn_len]; exact h.len, jn_lt ha hb h.lt, h.ptr.grown hg (by simp), h.below.grown hg h.below.size (fun k hk => by cases hk; exact Nat.le_refl _)⟩
theorem LaidS.join {w wr : World} {R C a b : Nat} {L : List Nat} (h : LaidS w wr R C L) (ha : a < 25) (hb : b < 25) : Calls Tryd.prog 83 #[.int .i64 (a : Int), .int .i64 (b : Int), .pointer (some ⟨w.heap.size + 1, 0, none⟩)] wr fun e w' => e = .returned (.tuple #[]) ∧ LaidS w w' R C (jn L a b) :=
  (join_any w.heap.size (w.heap.size + 1) R C a b L wr h.flr h.len h.lt (h.ptr.cell 0 (.bool false) (by simp)) (by omega) ha hb).mono fun _ _ ⟨he, hf, hg⟩ => ⟨he, h.step ha hb hf hg⟩
set_option maxHeartbeats 4000000 in
set_option maxRecDepth 100000 in
theorem laid_any (R C : Nat) (w : World) (hs : Sd R C) : Calls Tryd.prog 66 #[.int .i64 (R : Int), .int .i64 (C : Int)] w fun e w' => ∃ g, e = .returned (.pointer (some ⟨g, 0, none⟩)) ∧ w.heap.size ≤ g ∧ Flr w' g R C (nearN C (R * C)) ∧ Below w.heap.size w w' := by
  have n25 := hs.n25
  have m1 : (R : Int) * (C : Int) = ((R * C : Nat) : Int) := by simp
  have hc1 : 1 ≤ C := hs.c1
  have hc5 : C ≤ 5 := hs.c5
  obtain ⟨N, hN⟩ : ∃ N, R * C = N := ⟨_, rfl⟩
  have HN := Lib.hid hN
  rw [hN] at n25 m1 ⊢
  clear hN hs
  go_enter Tryd.func66, Tryd.ntmps66
  go_wp2_with fail
  have H0 : LaidS w ((w.alloc (.cells (flL R C (nearN C 0)).toArray 85)).alloc (.cells #[.pointer (some ⟨w.heap.size, 0, none⟩)] 76)) R C (nearN C 0) :=
    ⟨(ArrV.new w _ _ _ _ rfl (by simp)).alloc _, nearN_len _ _, nearN_lt _ _ (by omega), ArrV.new _ _ _ _ _ (by simp) (by simp), ((Below.refl _ _).alloc (Nat.le_refl _) _).alloc (by simp) _⟩
  rw [flL, HN.out, nearN] at H0
  have HS0 := Lib.hid H0
  clear H0 m1
  go_loopw [20] (fun vn wr => ∃ n : Nat, n ≤ N ∧ vn = .int .i64 (n : Int) ∧ Hid (LaidS w wr R C (nearN C n))) (fun vn _ => N - (intOf vn).toNat)
  case atStart => exact ⟨0, by omega, rfl, HS0⟩
  case round =>
    clear HS0
    obtain ⟨n, hn, rfl, hS⟩ := hrel
    by_cases hlt : n < N
    · have q0 : (n : Int) < (N : Int) := by omega
      have q1 : (0 : Int) < (C : Int) := by omega
      obtain ⟨m, hm⟩ : ∃ m, n % C = m := ⟨_, rfl⟩
      have q2 : (n : Int) % (C : Int) = (m : Int) := by rw [← hm]; simp
      have HM := Lib.hid hm
      clear hm
      have q3 : ((C : Int) == 0) = false := by simp; omega
      by_cases h1 : 0 < n % C
      · have hn1 : 1 ≤ n := by
          rcases Nat.eq_zero_or_pos n with e | e
          · subst e; simp at h1
          · exact e
        obtain ⟨b, hb⟩ : ∃ b : Nat, (n : Int) - 1 = (b : Int) := ⟨n - 1, by omega⟩
        have hb25 : b < 25 := by omega
        have HC1 := Lib.hid (hS.out.join (a := n) (b := b) (by omega) hb25)
        have HE : Hid ((if 0 < n % C then jn (nearN C n) n (n - 1) else nearN C n) = jn (nearN C n) n b) := Lib.hid (by rw [if_pos h1, show b = n - 1 by omega])
        have q4 : 0 < m := by have := HM.out; omega
        clear h1 hS
        by_cases h2 : C ≤ n
        · have q5 : decide ((C : Int) ≤ (n : Int)) = true := by simp; omega
          obtain ⟨b2, hb2⟩ : ∃ b : Nat, (n : Int) - (C : Int) = (b : Int) := ⟨n - C, by omega⟩
          have hb225 : b2 < 25 := by omega
          have HE2 : Hid (nearN C (n + 1) = jn (jn (nearN C n) n b) n b2) := Lib.hid (by rw [nearN, HE.out, if_pos h2, show b2 = n - C by omega])
          have q6 : decide (C ≤ n) = true := by simp; omega
          go_wp2_with fail
          refine HC1.out.mono ?_
          rintro e w1 ⟨rfl, hS1⟩
          have HC2 := Lib.hid (hS1.join (a := n) (b := b2) (by omega) hb225)
          clear hS1
          go_wp2_with fail
          refine HC2.out.mono ?_
          rintro e w2 ⟨rfl, hS2⟩
          have HSn : Hid (LaidS w w2 R C (nearN C (n + 1))) := Lib.hid (by rw [HE2.out]; exact hS2)
          clear hS2
          go_wp2_with fail
          go_roundw
          case rel => first | exact ⟨n + 1, by omega, by go_num, HSn⟩ | ((repeat apply Exists.intro); exact ⟨⟨n + 1, by omega, by go_num, HSn⟩, rfl⟩)
          case measure => (simp [intOf] <;> omega)
        · have q5 : decide ((C : Int) ≤ (n : Int)) = false := by simp; omega
          have HE2 : Hid (nearN C (n + 1) = jn (nearN C n) n b) := Lib.hid (by rw [nearN, HE.out, if_neg h2])
          have q6 : decide (C ≤ n) = false := by simp; omega
          go_wp2_with fail
          refine HC1.out.mono ?_
          rintro e w1 ⟨rfl, hS1⟩
          have HSn : Hid (LaidS w w1 R C (nearN C (n + 1))) := Lib.hid (by rw [HE2.out]; exact hS1)
          clear hS1
          go_wp2_with fail
          go_roundw
          case rel => first | exact ⟨n + 1, by omega, by go_num, HSn⟩ | ((repeat apply Exists.intro); exact ⟨⟨n + 1, by omega, by go_num, HSn⟩, rfl⟩)
          case measure => (simp [intOf] <;> omega)
      · have HE : Hid ((if 0 < n % C then jn (nearN C n) n (n - 1) else nearN C n) = nearN C n) := Lib.hid (by rw [if_neg h1])
        obtain rfl : m = 0 := by have := HM.out; omega
        clear h1
        by_cases h2 : C ≤ n
        · have q5 : decide ((C : Int) ≤ (n : Int)) = true := by simp; omega
          obtain ⟨b2, hb2⟩ : ∃ b : Nat, (n : Int) - (C : Int) = (b : Int) := ⟨n - C, by omega⟩
          have hb225 : b2 < 25 := by omega
          have HE2 : Hid (nearN C (n + 1) = jn (nearN C n) n b2) := Lib.hid (by rw [nearN, HE.out, if_pos h2, show b2 = n - C by omega])
          have q6 : decide (C ≤ n) = true := by simp; omega
          have hS1 := hS.out
          have HC2 := Lib.hid (hS1.join (a := n) (b := b2) (by omega) hb225)
          clear hS1 hS
          go_wp2_with fail
          refine HC2.out.mono ?_
          rintro e w2 ⟨rfl, hS2⟩
          have HSn : Hid (LaidS w w2 R C (nearN C (n + 1))) := Lib.hid (by rw [HE2.out]; exact hS2)
          clear hS2
          go_wp2_with fail
          go_roundw
          case rel => first | exact ⟨n + 1, by omega, by go_num, HSn⟩ | ((repeat apply Exists.intro); exact ⟨⟨n + 1, by omega, by go_num, HSn⟩, rfl⟩)
          case measure => (simp [intOf] <;> omega)
        · have q5 : decide ((C : Int) ≤ (n : Int)) = false := by simp; omega
          have HE2 : Hid (nearN C (n + 1) = nearN C n) := Lib.hid (by rw [nearN, HE.out, if_neg h2])
          have q6 : decide (C ≤ n) = false := by simp; omega
          have hS1 := hS.out
          have HSn : Hid (LaidS w wr R C (nearN C (n + 1))) := Lib.hid (by rw [HE2.out]; exact hS1)
          clear hS1
          go_wp2_with fail
          go_roundw
          case rel => first | exact ⟨n + 1, by omega, by go_num, HSn⟩ | ((repeat apply Exists.intro); exact ⟨⟨n + 1, by omega, by go_num, HSn⟩, rfl⟩)
          case measure => (simp [intOf] <;> omega)
    · obtain rfl : n = N := by omega
      have h1 := hS.out.flr
      have h2 := hS.out.below
      have h3 := hS.out.ptr.cell 0 (.bool false) (by simp)
      simp only [List.getD, List.getElem?_cons_zero, Option.getD_some] at h3
      have HF := Lib.hid h1
      clear h1
      go_wp2_with fail
      go_ret
      exact ⟨w.heap.size, rfl, Nat.le_refl _, HF.out, h2⟩
end Go.Proofs.YtbhjphcomppjgaaDoor
