/- Walks of chapter 11: divisions from labels by numbers. -/
import Derived.Test.YtjedmiegcbdedaaLib7
import Derived.Test.YtjedmiegcbdedaaPm
import Derived.Test.YtjedmiegcbdedaaXe
namespace Go.Proofs.Ytjedmiegcbdedaa
open Go.RowKit Store11

abbrev U8 : Int → Value := Value.int .u8
set_option maxRecDepth 100000 in
theorem info99 : (Try.prog.info? 5).map (fun i => (i.zero, i.size, i.bytes)) = some (some (.int .u8 0), 1, 1) := by kernel_rfl

set_option maxHeartbeats 2000000 in
set_option maxRecDepth 100000 in
theorem Index8_any (B : Nat) (a : Option Addr) (n c : Nat) (l : List Int) (x : Int) (w : World) (h : OwnG U8 w 5 B a n c l) (hn : n ≤ 1000) : Calls Try.prog 97 #[.slice a n c, .int .u8 x] w fun e w' => e = .returned (.int .i64 (idxV (fstI l x))) ∧ w = w' := by
  have hl := h.len
  have HL := Lib.hid hl
  clear hl
  go_enter Try.func97, Try.ntmps97
  go_wp2_with fail
  go_loopw [8] (fun vi wr => ∃ i : Nat, i ≤ n ∧ vi = .int .i64 (i : Int) ∧ Hid (∀ j, j < i → l.getD j 0 ≠ x) ∧ w = wr) (fun vi _ => n - (intOf vi).toNat)
  case atStart => exact ⟨0, by omega, rfl, Lib.hid (fun j hj => by omega), rfl⟩
  case round =>
    obtain ⟨i, hi, rfl, hD, rfl⟩ := hrel
    by_cases hlt : i < n
    · obtain ⟨g, rfl⟩ := h.addr (by omega)
      have y := (h.cell i 0 hlt).1
      have q1 : (i : Int) < (n : Int) := by omega
      obtain ⟨v, hv⟩ : ∃ v, l.getD i 0 = v := ⟨_, rfl⟩
      rw [hv] at y
      have HV := Lib.hid hv
      clear hv
      by_cases hx : x = v
      · subst hx
        have e1 : (x == x) = true := by simp
        have HR : Hid ((i : Int) = idxV (fstI l x)) := Lib.hid (by rw [fstI_hit x l i (by rw [HL.out]; exact hlt) HV.out hD.out]; rfl)
        go_wp2
        go_ret
        exact ⟨ret_i HR.out, rfl⟩
      · have e1 : (x == v) = false := by simpa using hx
        have hD2 : Hid (∀ j, j < i + 1 → l.getD j 0 ≠ x) := Lib.hid (fun j hj => by
          by_cases hj2 : j = i
          · rw [hj2, HV.out]; exact fun e => hx e.symm
          · exact hD.out j (by omega))
        clear hx
        go_wp2
        go_roundw
        case rel => exact ⟨i + 1, by omega, by go_num, hD2, trivial⟩
        case measure => simp [intOf]; omega
    · obtain rfl : i = n := by omega
      have HR : Hid ((-1 : Int) = idxV (fstI l x)) := Lib.hid (by rw [fstI_miss x l (by rw [HL.out]; exact hD.out)]; rfl)
      go_wp2
      go_ret
      exact ⟨ret_i HR.out, rfl⟩

theorem Contains_yes (B : Nat) (a : Option Addr) (n c : Nat) (l : List Int) (x k : Int) (w : World) (h : OwnG U8 w 5 B a n c l) (hn : n ≤ 1000) (hf : fstI l x = some k) (hk : 0 ≤ k) : Calls Try.prog 96 #[.slice a n c, .int .u8 x] w fun e w' => e = .returned (.bool true) ∧ w = w' := by
  have HF := Lib.hid hf
  clear hf
  have d1 : decide (0 ≤ k) = true := by simp; omega
  go_enter Try.func96, Try.ntmps96
  go_wp2_with (go_at_call 97; refine (Index8_any B _ _ _ l x _ h hn).mono ?_; rintro e w9 ⟨rfl, rfl⟩; rw [HF.out, show idxV (some k) = k from rfl])
  go_ret
  exact ⟨rfl, rfl⟩
theorem Contains_no (B : Nat) (a : Option Addr) (n c : Nat) (l : List Int) (x : Int) (w : World) (h : OwnG U8 w 5 B a n c l) (hn : n ≤ 1000) (hf : fstI l x = none) : Calls Try.prog 96 #[.slice a n c, .int .u8 x] w fun e w' => e = .returned (.bool false) ∧ w = w' := by
  have HF := Lib.hid hf
  clear hf
  go_enter Try.func96, Try.ntmps96
  go_wp2_with (go_at_call 97; refine (Index8_any B _ _ _ l x _ h hn).mono ?_; rintro e w9 ⟨rfl, rfl⟩; rw [HF.out, show idxV none = -1 from rfl])
  go_ret
  exact ⟨rfl, rfl⟩

theorem fstI_ge0 {α : Type} [DecidableEq α] (x : α) : ∀ (l : List α) (k : Int), fstI l x = some k → 0 ≤ k
  | [], _, h => by cases h
  | y :: l, k, h => by
    rw [fstI] at h
    split at h
    · cases h; omega
    · cases hf : fstI l x with
      | none => rw [hf] at h; cases h
      | some v =>
        rw [hf] at h
        have e : v + 1 = k := by simpa using h
        have := fstI_ge0 x l v hf
        omega
set_option maxHeartbeats 4000000 in
set_option maxRecDepth 100000 in
theorem divided_any (n r : Nat) (l : List Int) (w : World) (hl : l.length = 9) (hb : ∀ i, 0 ≤ l.getD i 0 ∧ l.getD i 0 < 256) (hn : 1 ≤ n) (hn9 : n ≤ 9) (hr : 1 ≤ r) (hr9 : r ≤ 9) :
    Calls Try.prog 89 #[.int .i64 (n : Int), .int .i64 (r : Int), .agg (l.map U8).toArray] w fun e w' => ∃ a c, e = .returned (.slice a n c) ∧ IsL w' a n c (divL ((l.take n).map (· % (r : Int)))) ∧ Below w.heap.size w w' := by
  obtain ⟨cs, hcs⟩ : ∃ cs, (l.map U8).toArray = cs := ⟨_, rfl⟩
  have hsz : cs.size = 9 := by rw [← hcs]; simp [hl]
  have hcell : ∀ i, i < 9 → cs[i]? = some (U8 (l.getD i 0)) := by
    intro i hi
    rw [← hcs]
    simp [List.getD, show i < l.length by omega]
  rw [hcs]
  clear hcs
  have HL := Lib.hid hl
  have HB := Lib.hid hb
  have HC := Lib.hid hcell
  clear hl hb hcell
  have HW : ∀ i, i < 9 → (w.alloc (.cells cs 54)).cell? ⟨w.heap.size, i, none⟩ = some (U8 (l.getD i 0)) := by
    intro i hi
    simp [go_sem, HC.out i hi]
  have HW2 := Lib.hid HW
  clear HW
  go_enter Try.func89, Try.ntmps89
  have b1 : (0 : Int) ≤ (n : Int) := by omega
  have b2 : (n : Int) ≤ 9 := by omega
  have w8 : IntKind.u8.wrap (r : Int) = (r : Int) := by
    obtain rfl | rfl | rfl | rfl | rfl | rfl | rfl | rfl | rfl : r = 1 ∨ r = 2 ∨ r = 3 ∨ r = 4 ∨ r = 5 ∨ r = 6 ∨ r = 7 ∨ r = 8 ∨ r = 9 := by omega
    all_goals decide
  have b3 : (0 : Int) < (r : Int) := by omega
  have b4 : (r : Int) ≤ 9 := by omega
  go_wp2_with fail
  go_loopw [14, 7, 8] (fun vi vm vo wr => ∃ (i m : Nat) (a1 : Option Addr) (c1 : Nat) (a2 : Option Addr) (c2 : Nat), i ≤ n ∧ m ≤ i ∧ vi = .int .i64 (i : Int) ∧ vm = .slice a1 m c1 ∧ vo = .slice a2 i c2 ∧ Hid (OwnG U8 wr 5 (w.heap.size + 1) a1 m c1 (dvK l r i).1) ∧ Hid (OwnL wr 3 (w.heap.size + 1) a2 i c2 (dvK l r i).2) ∧ Sep a1 a2 ∧ Below (w.heap.size + 1) (w.alloc (.cells cs 54)) wr) (fun vi _ _ _ => n - (intOf vi).toNat)
  case atStart => exact ⟨0, 0, none, 0, none, 0, by omega, by omega, rfl, rfl, rfl, Lib.hid (OwnG.nilG _ _ _), Lib.hid (OwnL.nilL _ _ _), Sep.none_left _, Below.refl _ _⟩
  case round =>
    obtain ⟨i, m, a1, c1, a2, c2, hi, hm, rfl, rfl, rfl, hM, hO, hS, hb⟩ := hrel
    have hsz := hb.size
    simp only [World.size_alloc] at hsz
    by_cases hlt : i < n
    · have y := (hb.cell (p := ⟨w.heap.size, i, none⟩) (Nat.lt_succ_self _)).trans (HW2.out i (by omega))
      have q1 : (i : Int) < (n : Int) := by omega
      have q2 : (i : Int) < 9 := by omega
      have hst := dvK_succ l r i (by rw [HL.out]; omega)
      have hvb := HB.out i
      obtain ⟨v, hv⟩ : ∃ v, l.getD i 0 = v := ⟨_, rfl⟩
      rw [hv] at y hst hvb
      clear hv
      obtain ⟨hv0, hv1⟩ := hvb
      obtain ⟨k, hk⟩ : ∃ k, v % (r : Int) = k := ⟨_, rfl⟩
      obtain ⟨st, hst0⟩ : ∃ st, dvK l r i = st := ⟨_, rfl⟩
      rw [hst0, hk] at hst
      rw [hst0] at hM hO
      clear hst0
      have HST := Lib.hid hst
      clear hst
      have hmf : IntKind.u8.wrap (v % (r : Int)) = v % (r : Int) := by
        have h1 := Int.emod_nonneg v (b := (r : Int)) (by omega)
        have h2 := Int.emod_lt_of_pos v b3
        rw [IntKind.wrap_u8]
        omega
      obtain ⟨f, hf⟩ : ∃ f, fstI st.1 k = f := ⟨_, rfl⟩
      have HF := Lib.hid hf
      clear hf
      have HK := Lib.hid hk
      clear hk
      rw [← HK.out] at HST HF
      cases f with
      | some t =>
        have ht0 := fstI_ge0 _ _ _ HF.out
        have HST2 : Hid (dvK l r (i + 1) = (st.1, st.2 ++ [t])) := Lib.hid (by rw [HST.out, divS, HF.out])
        clear HST
        have hO1 := hO.out
        have hM1 := hM.out
        clear hO hM
        go_wp2_with (first
          | (go_at_call 96; refine (Contains_yes _ _ _ _ _ _ t _ hM1 (by omega) HF.out ht0).mono ?_; rintro e w9 ⟨rfl, rfl⟩)
          | (go_at_call 97; refine (Index8_any _ _ _ _ _ _ _ hM1 (by omega)).mono ?_; rintro e w9 ⟨rfl, rfl⟩; rw [HF.out, show idxV (some t) = t from rfl])
          | (at_builtin; refine wl_app_own Try.underlying22 elem3 (w.heap.size + 1) (.tmp 30) (.tmp 34) rfl rfl rfl rfl (hO1.alloc _) (isL_one _ _ _) (by simp; omega) (by omega) ?_))
        intro a3 c3 w3 ho3 hg3 hb3 hv3
        have hM3 : Hid (OwnG U8 w3 5 (w.heap.size + 1) a1 m c1 (dvK l r (i + 1)).1) := Lib.hid (by rw [HST2.out]; exact (hM1.alloc _).grown hg3 hS)
        have hO3 : Hid (OwnL w3 3 (w.heap.size + 1) a3 (i + 1) c3 (dvK l r (i + 1)).2) := Lib.hid (by rw [HST2.out]; exact ho3)
        have hS3 : Sep a1 a3 := (hS.symm.via hv3 (fun x hx => by have := (hM1.lt x hx).2; simp; omega)).symm
        have hb4 := (hb.alloc (by omega) (.cells #[.int .i64 t] 3)).trans hb3
        clear hg3 hb3 hv3 ho3 hO1 hM1 hb
        go_wp2
        go_roundw
        case rel => first | exact ⟨i + 1, m, a1, c1, a3, c3, by omega, by omega, by go_num, rfl, rfl, hM3, hO3, hS3, hb4⟩ | ((repeat apply Exists.intro); exact ⟨⟨i + 1, m, a1, c1, a3, c3, by omega, by omega, by go_num, rfl, rfl, hM3, hO3, hS3, hb4⟩, rfl⟩)
        case measure => (simp [intOf] <;> omega)
      | none =>
        have HST2 : Hid (dvK l r (i + 1) = (st.1 ++ [v % (r : Int)], st.2 ++ [(m : Int)])) := Lib.hid (by rw [HST.out, divS, HF.out, ← hM.out.len])
        have HF2 : Hid (fstI (st.1 ++ [v % (r : Int)]) (v % (r : Int)) = some (m : Int)) := Lib.hid (by rw [fstI_snoc _ _ HF.out, ← hM.out.len]; simp)
        clear HST
        have hM1 := hM.out
        have hO1 := hO.out
        clear hO hM
        go_wp2_with (first
          | (go_at_call 96; refine (Contains_no _ _ _ _ _ _ _ hM1 (by omega) HF.out).mono ?_; rintro e w9 ⟨rfl, rfl⟩)
          | (at_builtin; refine wl_app_gen Try.underlying99 info99 rfl (by omega) (fun _ => rfl) (w.heap.size + 1) (.tmp 26) (.tmp 28) rfl rfl rfl rfl (hM1.alloc _) (v % (r : Int)) (by simp [go_sem]) (by simp; omega) (by omega) ?_))
        intro a3 c3 w3 hm3 hg3 hb3 hv3
        have hO3 := (hO1.alloc (.cells #[.int .u8 (v % (r : Int))] 5)).grown hg3 hS.symm
        have hS3 : Sep a3 a2 := hS.via hv3 (fun x hx => by have := (hO1.lt x hx).2; simp; omega)
        have hb4 := (hb.alloc (by omega) (.cells #[.int .u8 (v % (r : Int))] 5)).trans hb3
        have hz4 := hb4.size
        simp only [World.size_alloc] at hz4
        clear hg3 hb3 hv3 hM1 hO1 hb
        go_wp2_with (first
          | (go_at_call 97; refine (Index8_any _ _ _ _ _ _ _ hm3 (by omega)).mono ?_; rintro e w9 ⟨rfl, rfl⟩; rw [HF2.out, show idxV (some (m : Int)) = (m : Int) from rfl])
          | (at_builtin; refine wl_app_own Try.underlying22 elem3 (w.heap.size + 1) (.tmp 30) (.tmp 34) rfl rfl rfl rfl (hO3.alloc _) (isL_one _ _ _) (by simp; omega) (by omega) ?_))
        intro a4 c4 w4 ho4 hg4 hb5 hv4
        have hM4 : Hid (OwnG U8 w4 5 (w.heap.size + 1) a3 (m + 1) c3 (dvK l r (i + 1)).1) := Lib.hid (by rw [HST2.out]; exact (hm3.alloc _).grown hg4 hS3)
        have hO4 : Hid (OwnL w4 3 (w.heap.size + 1) a4 (i + 1) c4 (dvK l r (i + 1)).2) := Lib.hid (by rw [HST2.out]; exact ho4)
        have hS4 : Sep a3 a4 := (hS3.symm.via hv4 (fun x hx => by have := (hm3.lt x hx).2; simp; omega)).symm
        have hb6 := (hb4.alloc (by omega) (.cells #[.int .i64 (m : Int)] 3)).trans hb5
        clear hg4 hb5 hv4 ho4 hO3 hm3 hb4
        go_wp2
        go_roundw
        case rel => first | exact ⟨i + 1, m + 1, a3, c3, a4, c4, by omega, by omega, by go_num, rfl, rfl, hM4, hO4, hS4, hb6⟩ | ((repeat apply Exists.intro); exact ⟨⟨i + 1, m + 1, a3, c3, a4, c4, by omega, by omega, by go_num, rfl, rfl, hM4, hO4, hS4, hb6⟩, rfl⟩)
        case measure => (simp [intOf] <;> omega)
    · obtain rfl : i = n := by omega
      go_wp2
      go_ret
      exact ⟨_, _, rfl, hO.out.isL, ((Below.refl _ w).alloc (Nat.le_refl _) _).trans (hb.mono (by omega))⟩
end Go.Proofs.Ytjedmiegcbdedaa
