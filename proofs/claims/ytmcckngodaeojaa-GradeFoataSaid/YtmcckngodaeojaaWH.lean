/- Walks of chapter 3: what has to come before each bale. -/
import Derived.Test.YtmcckngodaeojaaWC
import Derived.Test.YtmcckngodaeojaaPa
import Derived.Laws.EntriesVeiled
namespace Go.Proofs.Ytmcckngodaeojaa
open Go.RowKit Grade03

abbrev U64 : Nat → Value := fun k => .int .u64 (k : Int)
structure BefS (R : Nat → Nat → Prop) [DecidableRel R] (w wr : World) (n y x : Nat) : Prop where
  arr : ArrV U64 wr (w.heap.size + 1) 80 (needL R n y x)
  below : Below w.heap.size w wr
  zero : ArrV U64 wr w.heap.size 80 (List.replicate 7 0)
variable {R : Nat → Nat → Prop} [DecidableRel R]
theorem BefS.to {w wr w' : World} {n y x : Nat} (h : BefS R w wr n y x) (hb : Below wr.heap.size wr w') : BefS R w w' n y x := ⟨h.arr.below hb, h.below.trans (hb.mono h.below.size), h.zero.below hb⟩
theorem BefS.drew {w wr : World} {n y x : Nat} (h : BefS R w wr n y x) : BefS R w wr.drew n y x := h.to (Below.refl _ _).drew
theorem BefS.skip {w wr : World} {n y x : Nat} (h : BefS R w wr n y x) (hr : ¬ (x ≠ y ∧ R x y)) : BefS R w wr n y (x + 1) := ⟨by rw [needL_skip hr]; exact h.arr, h.below, h.zero⟩
theorem BefS.next {w wr : World} {n y : Nat} (h : BefS R w wr n y n) : BefS R w wr n (y + 1) 0 := ⟨by rw [← needL_next]; exact h.arr, h.below, h.zero⟩
theorem BefS.hit {w wr : World} {n y x : Nat} (h : BefS R w wr n y x) (hy : y < 7) (hr : x ≠ y ∧ R x y) {k : Nat} (hk : (needL R n y x).getD y 0 ||| 2 ^ x = k) : BefS R w (wr.setCell ⟨w.heap.size + 1, y, none⟩ (.int .u64 (k : Int))) n y (x + 1) := by
  refine ⟨?_, h.below.setCell (p := ⟨w.heap.size + 1, y, none⟩) (Nat.le_succ _) _, h.zero.other (by simp only []; omega) _⟩
  rw [← needL_hit hy hr, hk]
  exact h.arr.set y k
theorem seven7 {l : List Nat} (h : l.length = 7) : ∃ p0 p1 p2 p3 p4 p5 p6 : Nat, l = [p0, p1, p2, p3, p4, p5, p6] := by
  match l, h with
  | [p0, p1, p2, p3, p4, p5, p6], _ => exact ⟨p0, p1, p2, p3, p4, p5, p6, rfl⟩

set_option maxHeartbeats 8000000 in
set_option maxRecDepth 100000 in
theorem before_a (n : Nat) (p q : Nat) (w : World) (hn : n ≤ 7) (HC : Hid (∀ x y : Nat, x < n → y < n → x ≠ y → ∀ B, decide (R x y) = B → ∀ w9, Below w.heap.size w w9 → Calls Try.prog 97 #[.int .i64 (x : Int), .int .i64 (y : Int), .pointer (some ⟨p, 0, none⟩), .pointer (some ⟨q, 0, none⟩)] w9 fun e w' => e = .returned (.bool B) ∧ Below w9.heap.size w9 w')) :
    Calls Try.prog 96 #[.int .i64 (n : Int), .func (.func 97) #[] #[.pointer (some ⟨p, 0, none⟩), .pointer (some ⟨q, 0, none⟩)]] w fun e w' => e = .returned (.agg ((needF R n).map U64).toArray) ∧ Below w.heap.size w w' := by
  go_enter Try.func96, Try.ntmps96
  go_wp2_with fail
  go_loopw [9] (fun vy wr => ∃ y : Nat, y ≤ n ∧ vy = .int .i64 (y : Int) ∧ Hid (BefS R w wr n y 0)) (fun vy _ => n - (intOf vy).toNat)
  case atStart => exact ⟨0, by omega, rfl, Lib.hid ⟨ArrV.new _ _ _ _ _ (by simp) (by rw [needL_zero]; rfl), ((Below.refl _ w).alloc (Nat.le_refl _) _).alloc (by simp) _, by refine ArrV.alloc ?_ _; exact ArrV.new w _ _ _ _ rfl (by rfl)⟩⟩
  case round =>
    obtain ⟨y, hy, rfl, hS⟩ := hrel
    by_cases hlt : y < n
    · have q0 : (y : Int) < (n : Int) := by omega
      go_wp2_with fail
      go_loopw [13] (fun vx wr => ∃ x : Nat, x ≤ n ∧ vx = .int .i64 (x : Int) ∧ Hid (BefS R w wr n y x)) (fun vx _ => n - (intOf vx).toNat)
      case atStart => exact ⟨0, by omega, rfl, hS⟩
      case round =>
        clear hS
        obtain ⟨x, hx, rfl, hS⟩ := hrel
        by_cases hxn : x < n
        · have q1 : (x : Int) < (n : Int) := by omega
          by_cases hxy : x = y
          · have e1 : ((x : Int) != (y : Int)) = false := by simp; omega
            have hS2 := Lib.hid (hS.out.skip (fun h => h.1 hxy))
            clear hxy hS
            go_wp2_with fail
            go_roundw
            case rel => first | exact ⟨x + 1, by omega, by go_num, hS2⟩ | ((repeat apply Exists.intro); exact ⟨⟨x + 1, by omega, by go_num, hS2⟩, rfl⟩)
            case measure => (simp [intOf] <;> omega)
          · have e1 : ((x : Int) != (y : Int)) = true := by simp; omega
            obtain ⟨B, hB⟩ : ∃ B, decide (R x y) = B := ⟨_, rfl⟩
            have HK := Lib.hid (HC.out x y hxn hlt hxy B hB wr hS.out.below)
            have HB := Lib.hid hB
            have HXY := Lib.hid hxy
            clear hB hxy
            go_wp2_with fail
            refine HK.out.mono ?_
            rintro e w9 ⟨rfl, b9⟩
            have hS9 := hS.out.to b9
            clear hS b9 HK
            cases B with
            | false =>
              have hS2 := Lib.hid (hS9.skip (fun h => of_decide_eq_false HB.out h.2))
              clear hS9
              go_wp2_with fail
              go_roundw
              case rel => first | exact ⟨x + 1, by omega, by go_num, hS2⟩ | ((repeat apply Exists.intro); exact ⟨⟨x + 1, by omega, by go_num, hS2⟩, rfl⟩)
              case measure => (simp [intOf] <;> omega)
            | true =>
              have hx7 : x < 7 := by omega
              have hy7 : y < 7 := by omega
              have q3 : (y : Int) < 7 := by omega
              have m0 := hS9.arr.cell y 0 (by rw [needL_len]; omega)
              have m1 := hS9.arr.frozen y
              obtain ⟨k, hk⟩ : ∃ k, (needL R n y x).getD y 0 = k := ⟨_, rfl⟩
              have hk7 : k < 128 := by rw [← hk, needL_get n y x y hy7, if_neg (by omega), if_pos rfl]; exact nbK_lt7 y (by omega)
              obtain ⟨V, U, hV, _, hV1, _, f1, f2, _⟩ := pow_facts x (by omega)
              obtain ⟨r, hr⟩ : ∃ r, k ||| V = r := ⟨_, rfl⟩
              have f3 : bits .or .u64 (k : Int) (V : Int) = (r : Int) := by rw [u64_or_nat k V (by omega) (by omega), hr]
              have hS2 := hS9.hit hy7 ⟨HXY.out, of_decide_eq_true HB.out⟩ (k := r) (by rw [hk, ← hV, hr])
              rw [hk] at m0
              have m2 : w9.cell? ⟨w.heap.size + 1, y, none⟩ = some (.int .u64 (k : Int)) := m0
              have HS2 := Lib.hid hS2
              clear m0 hk hV hr hS9 hS2
              go_wp2_with fail
              go_region
              all_goals
                go_wp2_with fail
                go_roundw
                case rel => first | exact ⟨x + 1, by omega, by go_num, Lib.hid HS2.out.drew⟩ | ((repeat apply Exists.intro); exact ⟨⟨x + 1, by omega, by go_num, Lib.hid HS2.out.drew⟩, rfl⟩)
                case measure => (simp [intOf] <;> omega)
        · obtain rfl : x = n := by omega
          have hS2 := Lib.hid hS.out.next
          go_wp2_with fail
          go_roundw
          case rel => first | exact ⟨y + 1, by omega, by go_num, hS2⟩ | ((repeat apply Exists.intro); exact ⟨⟨y + 1, by omega, by go_num, hS2⟩, rfl⟩)
          case measure => (simp [intOf] <;> omega)
    · obtain rfl : y = n := by omega
      obtain ⟨p0, p1, p2, p3, p4, p5, p6, hp⟩ := seven7 (needF_len (R := R) y)
      have HP := Lib.hid hp
      have hA2 := hS.out.arr
      rw [show needL R y y 0 = [p0, p1, p2, p3, p4, p5, p6] from hp] at hA2
      have hb := hS.out.below
      have k0 := hA2.cell 0 0 (by simp)
      have k1 := hA2.cell 1 0 (by simp)
      have k2 := hA2.cell 2 0 (by simp)
      have k3 := hA2.cell 3 0 (by simp)
      have k4 := hA2.cell 4 0 (by simp)
      have k5 := hA2.cell 5 0 (by simp)
      have k6 := hA2.cell 6 0 (by simp)
      simp only [List.getD, List.getElem?_cons_zero, List.getElem?_cons_succ, Option.getD_some] at k0 k1 k2 k3 k4 k5 k6
      have hz0 := hS.out.zero
      clear hA2 hp hS
      have z0 := hz0.cell 0 0 (by decide)
      have z1 := hz0.cell 1 0 (by decide)
      have z2 := hz0.cell 2 0 (by decide)
      have z3 := hz0.cell 3 0 (by decide)
      have z4 := hz0.cell 4 0 (by decide)
      have z5 := hz0.cell 5 0 (by decide)
      have z6 := hz0.cell 6 0 (by decide)
      have f0 := hz0.frozen 0
      have f1 := hz0.frozen 1
      have f2 := hz0.frozen 2
      have f3 := hz0.frozen 3
      have f4 := hz0.frozen 4
      have f5 := hz0.frozen 5
      have f6 := hz0.frozen 6
      clear hz0
      go_wp2_with fail
      refine bodyPost_ret (v := .agg #[U64 p0, U64 p1, U64 p2, U64 p3, U64 p4, U64 p5, U64 p6]) (by simp [results, Try.results96, go_sem, z0, z1, z2, z3, z4, z5, z6]) rfl ⟨by rw [HP.out]; rfl, ?_⟩
      exact (((((((hb.setCell (p := ⟨w.heap.size, 0, none⟩) (Nat.le_refl _) _).setCell (p := ⟨w.heap.size, 1, none⟩) (Nat.le_refl _) _).setCell (p := ⟨w.heap.size, 2, none⟩) (Nat.le_refl _) _).setCell (p := ⟨w.heap.size, 3, none⟩) (Nat.le_refl _) _).setCell (p := ⟨w.heap.size, 4, none⟩) (Nat.le_refl _) _).setCell (p := ⟨w.heap.size, 5, none⟩) (Nat.le_refl _) _).setCell (p := ⟨w.heap.size, 6, none⟩) (Nat.le_refl _) _)

set_option maxHeartbeats 8000000 in
set_option maxRecDepth 100000 in
theorem before_j (n : Nat) (p : Nat) (w : World) (hn : n ≤ 7) (HC : Hid (∀ x y : Nat, x < n → y < n → x ≠ y → ∀ B, decide (R x y) = B → ∀ w9, Below w.heap.size w w9 → Calls Try.prog 99 #[.int .i64 (x : Int), .int .i64 (y : Int), .pointer (some ⟨p, 0, none⟩)] w9 fun e w' => e = .returned (.bool B) ∧ Below w9.heap.size w9 w')) :
    Calls Try.prog 96 #[.int .i64 (n : Int), .func (.func 99) #[] #[.pointer (some ⟨p, 0, none⟩)]] w fun e w' => e = .returned (.agg ((needF R n).map U64).toArray) ∧ Below w.heap.size w w' := by
  go_enter Try.func96, Try.ntmps96
  go_wp2_with fail
  go_loopw [9] (fun vy wr => ∃ y : Nat, y ≤ n ∧ vy = .int .i64 (y : Int) ∧ Hid (BefS R w wr n y 0)) (fun vy _ => n - (intOf vy).toNat)
  case atStart => exact ⟨0, by omega, rfl, Lib.hid ⟨ArrV.new _ _ _ _ _ (by simp) (by rw [needL_zero]; rfl), ((Below.refl _ w).alloc (Nat.le_refl _) _).alloc (by simp) _, by refine ArrV.alloc ?_ _; exact ArrV.new w _ _ _ _ rfl (by rfl)⟩⟩
  case round =>
    obtain ⟨y, hy, rfl, hS⟩ := hrel
    by_cases hlt : y < n
    · have q0 : (y : Int) < (n : Int) := by omega
      go_wp2_with fail
      go_loopw [13] (fun vx wr => ∃ x : Nat, x ≤ n ∧ vx = .int .i64 (x : Int) ∧ Hid (BefS R w wr n y x)) (fun vx _ => n - (intOf vx).toNat)
      case atStart => exact ⟨0, by omega, rfl, hS⟩
      case round =>
        clear hS
        obtain ⟨x, hx, rfl, hS⟩ := hrel
        by_cases hxn : x < n
        · have q1 : (x : Int) < (n : Int) := by omega
          by_cases hxy : x = y
          · have e1 : ((x : Int) != (y : Int)) = false := by simp; omega
            have hS2 := Lib.hid (hS.out.skip (fun h => h.1 hxy))
            clear hxy hS
            go_wp2_with fail
            go_roundw
            case rel => first | exact ⟨x + 1, by omega, by go_num, hS2⟩ | ((repeat apply Exists.intro); exact ⟨⟨x + 1, by omega, by go_num, hS2⟩, rfl⟩)
            case measure => (simp [intOf] <;> omega)
          · have e1 : ((x : Int) != (y : Int)) = true := by simp; omega
            obtain ⟨B, hB⟩ : ∃ B, decide (R x y) = B := ⟨_, rfl⟩
            have HK := Lib.hid (HC.out x y hxn hlt hxy B hB wr hS.out.below)
            have HB := Lib.hid hB
            have HXY := Lib.hid hxy
            clear hB hxy
            go_wp2_with fail
            refine HK.out.mono ?_
            rintro e w9 ⟨rfl, b9⟩
            have hS9 := hS.out.to b9
            clear hS b9 HK
            cases B with
            | false =>
              have hS2 := Lib.hid (hS9.skip (fun h => of_decide_eq_false HB.out h.2))
              clear hS9
              go_wp2_with fail
              go_roundw
              case rel => first | exact ⟨x + 1, by omega, by go_num, hS2⟩ | ((repeat apply Exists.intro); exact ⟨⟨x + 1, by omega, by go_num, hS2⟩, rfl⟩)
              case measure => (simp [intOf] <;> omega)
            | true =>
              have hx7 : x < 7 := by omega
              have hy7 : y < 7 := by omega
              have q3 : (y : Int) < 7 := by omega
              have m0 := hS9.arr.cell y 0 (by rw [needL_len]; omega)
              have m1 := hS9.arr.frozen y
              obtain ⟨k, hk⟩ : ∃ k, (needL R n y x).getD y 0 = k := ⟨_, rfl⟩
              have hk7 : k < 128 := by rw [← hk, needL_get n y x y hy7, if_neg (by omega), if_pos rfl]; exact nbK_lt7 y (by omega)
              obtain ⟨V, U, hV, _, hV1, _, f1, f2, _⟩ := pow_facts x (by omega)
              obtain ⟨r, hr⟩ : ∃ r, k ||| V = r := ⟨_, rfl⟩
              have f3 : bits .or .u64 (k : Int) (V : Int) = (r : Int) := by rw [u64_or_nat k V (by omega) (by omega), hr]
              have hS2 := hS9.hit hy7 ⟨HXY.out, of_decide_eq_true HB.out⟩ (k := r) (by rw [hk, ← hV, hr])
              rw [hk] at m0
              have m2 : w9.cell? ⟨w.heap.size + 1, y, none⟩ = some (.int .u64 (k : Int)) := m0
              have HS2 := Lib.hid hS2
              clear m0 hk hV hr hS9 hS2
              go_wp2_with fail
              go_region
              all_goals
                go_wp2_with fail
                go_roundw
                case rel => first | exact ⟨x + 1, by omega, by go_num, Lib.hid HS2.out.drew⟩ | ((repeat apply Exists.intro); exact ⟨⟨x + 1, by omega, by go_num, Lib.hid HS2.out.drew⟩, rfl⟩)
                case measure => (simp [intOf] <;> omega)
        · obtain rfl : x = n := by omega
          have hS2 := Lib.hid hS.out.next
          go_wp2_with fail
          go_roundw
          case rel => first | exact ⟨y + 1, by omega, by go_num, hS2⟩ | ((repeat apply Exists.intro); exact ⟨⟨y + 1, by omega, by go_num, hS2⟩, rfl⟩)
          case measure => (simp [intOf] <;> omega)
    · obtain rfl : y = n := by omega
      obtain ⟨p0, p1, p2, p3, p4, p5, p6, hp⟩ := seven7 (needF_len (R := R) y)
      have HP := Lib.hid hp
      have hA2 := hS.out.arr
      rw [show needL R y y 0 = [p0, p1, p2, p3, p4, p5, p6] from hp] at hA2
      have hb := hS.out.below
      have k0 := hA2.cell 0 0 (by simp)
      have k1 := hA2.cell 1 0 (by simp)
      have k2 := hA2.cell 2 0 (by simp)
      have k3 := hA2.cell 3 0 (by simp)
      have k4 := hA2.cell 4 0 (by simp)
      have k5 := hA2.cell 5 0 (by simp)
      have k6 := hA2.cell 6 0 (by simp)
      simp only [List.getD, List.getElem?_cons_zero, List.getElem?_cons_succ, Option.getD_some] at k0 k1 k2 k3 k4 k5 k6
      have hz0 := hS.out.zero
      clear hA2 hp hS
      have z0 := hz0.cell 0 0 (by decide)
      have z1 := hz0.cell 1 0 (by decide)
      have z2 := hz0.cell 2 0 (by decide)
      have z3 := hz0.cell 3 0 (by decide)
      have z4 := hz0.cell 4 0 (by decide)
      have z5 := hz0.cell 5 0 (by decide)
      have z6 := hz0.cell 6 0 (by decide)
      have f0 := hz0.frozen 0
      have f1 := hz0.frozen 1
      have f2 := hz0.frozen 2
      have f3 := hz0.frozen 3
      have f4 := hz0.frozen 4
      have f5 := hz0.frozen 5
      have f6 := hz0.frozen 6
      clear hz0
      go_wp2_with fail
      refine bodyPost_ret (v := .agg #[U64 p0, U64 p1, U64 p2, U64 p3, U64 p4, U64 p5, U64 p6]) (by simp [results, Try.results96, go_sem, z0, z1, z2, z3, z4, z5, z6]) rfl ⟨by rw [HP.out]; rfl, ?_⟩
      exact (((((((hb.setCell (p := ⟨w.heap.size, 0, none⟩) (Nat.le_refl _) _).setCell (p := ⟨w.heap.size, 1, none⟩) (Nat.le_refl _) _).setCell (p := ⟨w.heap.size, 2, none⟩) (Nat.le_refl _) _).setCell (p := ⟨w.heap.size, 3, none⟩) (Nat.le_refl _) _).setCell (p := ⟨w.heap.size, 4, none⟩) (Nat.le_refl _) _).setCell (p := ⟨w.heap.size, 5, none⟩) (Nat.le_refl _) _).setCell (p := ⟨w.heap.size, 6, none⟩) (Nat.le_refl _) _)
end Go.Proofs.Ytmcckngodaeojaa
namespace Go.Proofs.Ytmcckngodaeojaa
open Go.RowKit Grade03

set_option maxHeartbeats 2000000 in
set_option maxRecDepth 100000 in
theorem agree1_any (p q g1 g2 : Nat) (t : TypeId) (la lb : List Int) (n x y : Nat) (w : World) (hp : w.cell? ⟨p, 0, none⟩ = some (.func (.func 66) #[.pointer (some ⟨g1, 0, none⟩)] #[])) (hq : w.cell? ⟨q, 0, none⟩ = some (.func (.func 66) #[.pointer (some ⟨g2, 0, none⟩)] #[]))
    (hA : ArrV I64 w g1 t (plL la)) (hA' : ArrV I64 w g2 t (plL lb)) (hO : IsO la) (hO' : IsO lb) (hl : la.length = n) (hl' : lb.length = n) (hn : n ≤ 7) (hx : x < n) (hy : y < n) (B : Bool) (hB : decide (btwR la lb x y) = B) :
    Calls Try.prog 97 #[.int .i64 (x : Int), .int .i64 (y : Int), .pointer (some ⟨p, 0, none⟩), .pointer (some ⟨q, 0, none⟩)] w fun e w' => e = .returned (.bool B) ∧ Below w.heap.size w w' := by
  obtain ⟨B1, hB1⟩ : ∃ B, decide (bef la x y) = B := ⟨_, rfl⟩
  obtain ⟨B2, hB2⟩ : ∃ B, decide (bef lb x y) = B := ⟨_, rfl⟩
  have HR : Hid (B = (B1 && B2)) := Lib.hid (by
    rw [← hB, ← hB1, ← hB2]
    unfold btwR
    by_cases c1 : bef la x y <;> by_cases c2 : bef lb x y <;> simp [c1, c2])
  have HC1 := Lib.hid (first_any g1 t (plL la) x y w hA (plL_len la) (by omega) (by omega) B1 (by rw [← hB1]; exact plL_bef hO (by omega) (by omega) (by omega)))
  have HC2 : Hid (∀ w9, Below w.heap.size w w9 → Calls Try.prog 66 #[.pointer (some ⟨g2, 0, none⟩), .int .i64 (x : Int), .int .i64 (y : Int)] w9 fun e w' => e = .returned (.bool B2) ∧ Below w9.heap.size w9 w') := Lib.hid (fun w9 hb9 => first_any g2 t (plL lb) x y w9 (hA'.below hb9) (plL_len lb) (by omega) (by omega) B2 (by rw [← hB2]; exact plL_bef hO' (by omega) (by omega) (by omega)))
  have HQ : Hid (∀ w9, Below w.heap.size w w9 → w9.cell? ⟨q, 0, none⟩ = some (.func (.func 66) #[.pointer (some ⟨g2, 0, none⟩)] #[])) := Lib.hid (fun w9 hb9 => (hb9.cell (p := ⟨q, 0, none⟩) (World.block_lt_of_cell? w _ hq)).trans hq)
  clear hA hA' hO hO' hl hl' hB hB1 hB2 hq
  go_enter Try.func97, Try.ntmps97
  cases B1 with
  | false =>
    go_wp2_with fail
    refine HC1.out.mono ?_
    rintro e w2 ⟨rfl, b2⟩
    go_wp2_with fail
    go_ret
    exact ⟨by rw [HR.out]; rfl, b2⟩
  | true =>
    have h2 := HQ.out
    go_wp2_with fail
    refine HC1.out.mono ?_
    rintro e w2 ⟨rfl, b2⟩
    have y2 := HQ.out w2 b2
    clear h2
    go_wp2_with fail
    refine (HC2.out w2 b2).mono ?_
    rintro e w3 ⟨rfl, b3⟩
    go_wp2_with fail
    go_ret
    exact ⟨by rw [HR.out]; rfl, b2.trans (b3.mono b2.size)⟩
set_option maxHeartbeats 4000000 in
set_option maxRecDepth 100000 in
theorem agree_any (a b : Option Addr) (n c d : Nat) (la lb : List Int) (w : World) (h : IsL w a n c la) (h' : IsL w b n d lb) (hO : IsO la) (hO' : IsO lb) (hn : n ≤ 7) :
    Calls Try.prog 74 #[.slice a n c, .slice b n d] w fun e w' => e = .returned (.agg ((needF (btwR la lb) n).map U64).toArray) ∧ Below w.heap.size w w' := by
  have HO := Lib.hid hO
  have HO' := Lib.hid hO'
  obtain ⟨p0, p1, p2, p3, p4, p5, p6, hp⟩ := seven (plL_len la)
  obtain ⟨q0, q1, q2, q3, q4, q5, q6, hq⟩ := seven (plL_len lb)
  have HP := Lib.hid hp
  have HQ := Lib.hid hq
  have HLA := Lib.hid h.len
  have HLB := Lib.hid h'.len
  clear hO hO' hp hq
  go_enter Try.func74, Try.ntmps74
  go_wp2_with fail
  have b0 := (Below.refl w.heap.size w).alloc (Nat.le_refl _) (.cells #[.int .u64 0, .int .u64 0, .int .u64 0, .int .u64 0, .int .u64 0, .int .u64 0, .int .u64 0] 80)
  refine (placed_c _ _ _ _ _ (h.below b0) HO.out hn HP.out).mono ?_
  rintro e w2 ⟨rfl, b2⟩
  have k2 := b0.trans (b2.mono b0.size)
  go_wp2_with fail
  refine (placed_c _ _ _ _ _ (h'.below k2) HO'.out hn HQ.out).mono ?_
  rintro e w3 ⟨rfl, b3⟩
  have k3 := k2.trans (b3.mono k2.size)
  have Z0 : ArrV U64 (w.alloc (.cells #[.int .u64 0, .int .u64 0, .int .u64 0, .int .u64 0, .int .u64 0, .int .u64 0, .int .u64 0] 80)) w.heap.size 80 (List.replicate 7 0) := ArrV.new w _ _ _ _ rfl (by rfl)
  have Z3 := (Z0.below b2).below b3
  have hs3 := k3.size
  clear Z0 b0 b2 b3 k2
  go_wp2_with fail
  obtain ⟨g, hg⟩ : ∃ g, w3.heap.size = g := ⟨_, rfl⟩
  have A1 : ArrV I64 ((((w3.alloc (.cells #[I64 p0, I64 p1, I64 p2, I64 p3, I64 p4, I64 p5, I64 p6] 69)).alloc (.cells #[I64 q0, I64 q1, I64 q2, I64 q3, I64 q4, I64 q5, I64 q6] 69)).alloc (.cells #[.func (.func 66) #[.pointer (some ⟨w3.heap.size, 0, none⟩)] #[]] 71)).alloc (.cells #[.func (.func 66) #[.pointer (some ⟨w3.heap.size + 1, 0, none⟩)] #[]] 71)) g 69 (plL la) := (((ArrV.new w3 _ _ _ _ hg.symm (by rw [HP.out]; rfl)).alloc _).alloc _).alloc _
  have A2 : ArrV I64 ((((w3.alloc (.cells #[I64 p0, I64 p1, I64 p2, I64 p3, I64 p4, I64 p5, I64 p6] 69)).alloc (.cells #[I64 q0, I64 q1, I64 q2, I64 q3, I64 q4, I64 q5, I64 q6] 69)).alloc (.cells #[.func (.func 66) #[.pointer (some ⟨w3.heap.size, 0, none⟩)] #[]] 71)).alloc (.cells #[.func (.func 66) #[.pointer (some ⟨w3.heap.size + 1, 0, none⟩)] #[]] 71)) (g + 1) 69 (plL lb) := ((ArrV.new (w3.alloc _) _ _ _ _ (by simp [hg]) (by rw [HQ.out]; rfl)).alloc _).alloc _
  have Y1 : ((((w3.alloc (.cells #[I64 p0, I64 p1, I64 p2, I64 p3, I64 p4, I64 p5, I64 p6] 69)).alloc (.cells #[I64 q0, I64 q1, I64 q2, I64 q3, I64 q4, I64 q5, I64 q6] 69)).alloc (.cells #[.func (.func 66) #[.pointer (some ⟨w3.heap.size, 0, none⟩)] #[]] 71)).alloc (.cells #[.func (.func 66) #[.pointer (some ⟨w3.heap.size + 1, 0, none⟩)] #[]] 71)).cell? ⟨w3.heap.size + 1 + 1, 0, none⟩ = some (.func (.func 66) #[.pointer (some ⟨w3.heap.size, 0, none⟩)] #[]) := by simp [go_sem]
  have Y2 : ((((w3.alloc (.cells #[I64 p0, I64 p1, I64 p2, I64 p3, I64 p4, I64 p5, I64 p6] 69)).alloc (.cells #[I64 q0, I64 q1, I64 q2, I64 q3, I64 q4, I64 q5, I64 q6] 69)).alloc (.cells #[.func (.func 66) #[.pointer (some ⟨w3.heap.size, 0, none⟩)] #[]] 71)).alloc (.cells #[.func (.func 66) #[.pointer (some ⟨w3.heap.size + 1, 0, none⟩)] #[]] 71)).cell? ⟨w3.heap.size + 1 + 1 + 1, 0, none⟩ = some (.func (.func 66) #[.pointer (some ⟨w3.heap.size + 1, 0, none⟩)] #[]) := by simp [go_sem]
  have k4 : Below w.heap.size w ((((w3.alloc (.cells #[I64 p0, I64 p1, I64 p2, I64 p3, I64 p4, I64 p5, I64 p6] 69)).alloc (.cells #[I64 q0, I64 q1, I64 q2, I64 q3, I64 q4, I64 q5, I64 q6] 69)).alloc (.cells #[.func (.func 66) #[.pointer (some ⟨w3.heap.size, 0, none⟩)] #[]] 71)).alloc (.cells #[.func (.func 66) #[.pointer (some ⟨w3.heap.size + 1, 0, none⟩)] #[]] 71)) := (((k3.alloc hs3 _).alloc (by simp; omega) _).alloc (by simp; omega) _).alloc (by simp; omega) _
  have Z4 := (((Z3.alloc (.cells #[I64 p0, I64 p1, I64 p2, I64 p3, I64 p4, I64 p5, I64 p6] 69)).alloc (.cells #[I64 q0, I64 q1, I64 q2, I64 q3, I64 q4, I64 q5, I64 q6] 69)).alloc (.cells #[.func (.func 66) #[.pointer (some ⟨w3.heap.size, 0, none⟩)] #[]] 71)).alloc (.cells #[.func (.func 66) #[.pointer (some ⟨w3.heap.size + 1, 0, none⟩)] #[]] 71)
  clear k3 Z3
  generalize ((((w3.alloc (.cells #[I64 p0, I64 p1, I64 p2, I64 p3, I64 p4, I64 p5, I64 p6] 69)).alloc (.cells #[I64 q0, I64 q1, I64 q2, I64 q3, I64 q4, I64 q5, I64 q6] 69)).alloc (.cells #[.func (.func 66) #[.pointer (some ⟨w3.heap.size, 0, none⟩)] #[]] 71)).alloc (.cells #[.func (.func 66) #[.pointer (some ⟨w3.heap.size + 1, 0, none⟩)] #[]] 71)) = W at *
  simp only [hg] at *
  have HC : Hid (∀ x y : Nat, x < n → y < n → x ≠ y → ∀ B, decide (btwR la lb x y) = B → ∀ w9, Below W.heap.size W w9 → Calls Try.prog 97 #[.int .i64 (x : Int), .int .i64 (y : Int), .pointer (some ⟨g + 1 + 1, 0, none⟩), .pointer (some ⟨g + 1 + 1 + 1, 0, none⟩)] w9 fun e w' => e = .returned (.bool B) ∧ Below w9.heap.size w9 w') := Lib.hid (fun x y hx hy _ B hB w9 hb9 => agree1_any (g + 1 + 1) (g + 1 + 1 + 1) g (g + 1) 69 la lb n x y w9 ((hb9.cell (p := ⟨g + 1 + 1, 0, none⟩) (World.block_lt_of_cell? W _ Y1)).trans Y1) ((hb9.cell (p := ⟨g + 1 + 1 + 1, 0, none⟩) (World.block_lt_of_cell? W _ Y2)).trans Y2) (A1.below hb9) (A2.below hb9) HO.out HO'.out HLA.out HLB.out hn hx hy B hB)
  obtain ⟨r0, r1, r2, r3, r4, r5, r6, hr⟩ := seven7 (needF_len (R := btwR la lb) n)
  have hbf := before_a (R := btwR la lb) n (g + 1 + 1) (g + 1 + 1 + 1) W hn HC
  rw [hr] at hbf
  have HR := Lib.hid hr
  clear hr A1 A2 Y1 Y2
  refine hbf.mono ?_
  rintro e w5 ⟨rfl, b5⟩
  have Z5 := Z4.below b5
  have k5 := k4.trans (b5.mono k4.size)
  clear hbf Z4 k4 b5 HC
  have z0 := Z5.cell 0 0 (by decide)
  have z1 := Z5.cell 1 0 (by decide)
  have z2 := Z5.cell 2 0 (by decide)
  have z3 := Z5.cell 3 0 (by decide)
  have z4 := Z5.cell 4 0 (by decide)
  have z5 := Z5.cell 5 0 (by decide)
  have z6 := Z5.cell 6 0 (by decide)
  have f0 := Z5.frozen 0
  have f1 := Z5.frozen 1
  have f2 := Z5.frozen 2
  have f3 := Z5.frozen 3
  have f4 := Z5.frozen 4
  have f5 := Z5.frozen 5
  have f6 := Z5.frozen 6
  clear Z5
  go_wp2_with fail
  refine bodyPost_ret (v := .agg #[U64 r0, U64 r1, U64 r2, U64 r3, U64 r4, U64 r5, U64 r6]) (by simp [results, Try.results74, go_sem, z0, z1, z2, z3, z4, z5, z6]) rfl ⟨by rw [HR.out]; rfl, ?_⟩
  exact (((((((k5.setCell (p := ⟨w.heap.size, 0, none⟩) (Nat.le_refl _) _).setCell (p := ⟨w.heap.size, 1, none⟩) (Nat.le_refl _) _).setCell (p := ⟨w.heap.size, 2, none⟩) (Nat.le_refl _) _).setCell (p := ⟨w.heap.size, 3, none⟩) (Nat.le_refl _) _).setCell (p := ⟨w.heap.size, 4, none⟩) (Nat.le_refl _) _).setCell (p := ⟨w.heap.size, 5, none⟩) (Nat.le_refl _) _).setCell (p := ⟨w.heap.size, 6, none⟩) (Nat.le_refl _) _)
end Go.Proofs.Ytmcckngodaeojaa
