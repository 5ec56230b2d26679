/- Walks of chapter 3: several orders are checked. -/
import Derived.Test.YtmcckngodaeojaaWa
import Derived.Test.YtmcckngodaeojaaPa
namespace Go.Proofs.Ytmcckngodaeojaa
open Go.RowKit Grade03

/-- a slice, and what it reads as -/
structure Sl where
  a : Option Addr
  n : Nat
  c : Nat
  l : List Int
def Sl.v (s : Sl) : Value := .slice s.a s.n s.c
def sl0 : Sl := ⟨none, 0, 0, []⟩
/-- block g holds slices that read as lists -/
structure RowsL (w : World) (g : Nat) (L : List Sl) : Prop where
  arr : ArrV Sl.v w g 22 L
  is : ∀ i, i < L.length → IsL w (L.getD i sl0).a (L.getD i sl0).n (L.getD i sl0).c (L.getD i sl0).l
theorem RowsL.below {w w' : World} {g : Nat} {L : List Sl} (h : RowsL w g L) (hb : Below w.heap.size w w') : RowsL w' g L := ⟨h.arr.below hb, fun i hi => (h.is i hi).below hb⟩
/-- the first error -/
def chkA : List Sl → Int
  | [] => 0
  | s :: L => if chkE s.l ≠ 0 then chkE s.l else chkA L
def chkdE (L : List Sl) : Int := if chkA L ≠ 0 then chkA L else if L.any (fun s => s.n != (L.getD 0 sl0).n) then 5 else 0
theorem chkA_hit : ∀ (L : List Sl) (i : Nat), i < L.length → (∀ j, j < i → chkE (L.getD j sl0).l = 0) → chkE (L.getD i sl0).l ≠ 0 → chkA L = chkE (L.getD i sl0).l
  | s :: L, 0, _, _, h => by simp [List.getD] at h; simp [chkA, h, List.getD]
  | s :: L, i + 1, hi, h1, h2 => by
    have h0 := h1 0 (by omega)
    have ih := chkA_hit L i (by simpa using hi) (fun j hj => by have := h1 (j + 1) (by omega); simpa using this) (by simpa using h2)
    simp [List.getD] at h0
    rw [chkA, if_neg (by simp [h0]), ih]
    simp [List.getD]
theorem chkA_ok : ∀ (L : List Sl), (∀ j, j < L.length → chkE (L.getD j sl0).l = 0) → chkA L = 0
  | [], _ => rfl
  | s :: L, h => by
    have h0 := h 0 (by simp)
    simp [List.getD] at h0
    rw [chkA, if_neg (by simp [h0])]
    exact chkA_ok L fun j hj => by have := h (j + 1) (by simpa using hj); simpa using this

set_option maxHeartbeats 2000000 in
set_option maxRecDepth 100000 in
theorem len_any (p g m c0 n c : Nat) (a : Option Addr) (L : List Sl) (w : World) (hp : w.cell? ⟨p, 0, none⟩ = some (.slice (some ⟨g, 0, none⟩) m c0)) (hR : RowsL w g L) (hm : L.length = m) (hm1 : 1 ≤ m) (B : Bool) (hB : (n != (L.getD 0 sl0).n) = B) :
    Calls Try.prog 94 #[.slice a n c, .pointer (some ⟨p, 0, none⟩)] w fun e w' => e = .returned (.bool B) ∧ w = w' := by
  have y := hR.arr.cell 0 sl0 (by omega)
  obtain ⟨s, hs⟩ : ∃ s, L.getD 0 sl0 = s := ⟨_, rfl⟩
  rw [hs] at y hB
  obtain ⟨sa, sn, sc, sll⟩ := s
  rw [show Sl.v ⟨sa, sn, sc, sll⟩ = .slice sa sn sc from rfl] at y
  have e1 : ((n : Int) != (sn : Int)) = B := by
    rw [← hB]
    simp only [bne]
    congr 1
    rw [Bool.eq_iff_iff, beq_iff_eq, beq_iff_eq]
    constructor <;> intro h <;> omega
  have q1 : (0 : Int) < (m : Int) := by omega
  have q2 : 0 < m := hm1
  clear hR hs hB hm
  go_enter Try.func94, Try.ntmps94
  go_wp2_with fail
  go_ret
  exact ⟨rfl, rfl⟩
/-- the lengths are not all the first one's -/
def anyL (L : List Sl) : Bool := L.any fun s => s.n != (L.getD 0 sl0).n
theorem anyL_hit (L : List Sl) (i : Nat) (hi : i < L.length) (h : ((L.getD i sl0).n != (L.getD 0 sl0).n) = true) : anyL L = true :=
  List.any_eq_true.2 ⟨L.getD i sl0, by rw [List.getD, List.getElem?_eq_getElem hi]; exact List.getElem_mem hi, h⟩
theorem anyL_no (L : List Sl) (h : ∀ i, i < L.length → ((L.getD i sl0).n != (L.getD 0 sl0).n) = false) : anyL L = false := by
  rw [anyL, List.any_eq_false]
  intro s hs
  obtain ⟨i, hi, rfl⟩ := List.mem_iff_getElem.1 hs
  have := h i hi
  rw [List.getD, List.getElem?_eq_getElem hi] at this
  simpa using this
def IdxR (L : List Sl) (w : World) (e : Ending) (w' : World) : Prop := ∃ r : Int, e = .returned (.int .i64 r) ∧ decide (0 ≤ r) = anyL L ∧ w = w'
set_option maxHeartbeats 2000000 in
set_option maxRecDepth 100000 in
theorem IndexFunc_any (p g m c0 : Nat) (L : List Sl) (w : World) (hp : w.cell? ⟨p, 0, none⟩ = some (.slice (some ⟨g, 0, none⟩) m c0)) (hR : RowsL w g L) (hm : L.length = m) (hm1 : 1 ≤ m) (hm9 : m ≤ 9) :
    Calls Try.prog 104 #[.slice (some ⟨g, 0, none⟩) m c0, .func (.func 94) #[] #[.pointer (some ⟨p, 0, none⟩)]] w (IdxR L w) := by
  have HM := Lib.hid hm
  clear hm
  go_enter Try.func104, Try.ntmps104
  go_wp2_with fail
  go_loopw [8] (fun vi wr => ∃ i : Nat, i ≤ m ∧ vi = .int .i64 (i : Int) ∧ Hid (∀ j, j < i → ((L.getD j sl0).n != (L.getD 0 sl0).n) = false) ∧ w = wr) (fun vi _ => m - (intOf vi).toNat)
  case atStart => exact ⟨0, by omega, rfl, Lib.hid (fun j hj => by omega), rfl⟩
  case round =>
    obtain ⟨i, hi, rfl, hD, rfl⟩ := hrel
    by_cases hlt : i < m
    · have y := hR.arr.cell i sl0 (by rw [HM.out]; exact hlt)
      have q1 : (i : Int) < (m : Int) := by omega
      obtain ⟨B, hB⟩ : ∃ B, ((L.getD i sl0).n != (L.getD 0 sl0).n) = B := ⟨_, rfl⟩
      have HC : Hid (∀ a c, Calls Try.prog 94 #[.slice a (L.getD i sl0).n c, .pointer (some ⟨p, 0, none⟩)] w fun e w' => e = .returned (.bool B) ∧ w = w') := Lib.hid (fun a c => len_any p g m c0 _ c a L w hp hR HM.out hm1 B hB)
      have HB := Lib.hid hB
      obtain ⟨s, hs⟩ : ∃ s, L.getD i sl0 = s := ⟨_, rfl⟩
      rw [hs] at y HC
      obtain ⟨sa, sn, sc, sll⟩ := s
      rw [show Sl.v ⟨sa, sn, sc, sll⟩ = .slice sa sn sc from rfl] at y
      clear hs hB
      cases B with
      | true =>
        have HR : Hid (anyL L = true) := Lib.hid (anyL_hit L i (by rw [HM.out]; exact hlt) HB.out)
        go_wp2_with (go_at_call 94; refine (HC.out _ _).mono ?_; rintro e w9 ⟨rfl, rfl⟩)
        go_ret
        exact ⟨_, rfl, by rw [HR.out]; simp, rfl⟩
      | false =>
        have hD2 : Hid (∀ j, j < i + 1 → ((L.getD j sl0).n != (L.getD 0 sl0).n) = false) := Lib.hid (fun j hj => by
          by_cases e : j = i
          · rw [e]; exact HB.out
          · exact hD.out j (by omega))
        go_wp2_with (go_at_call 94; refine (HC.out _ _).mono ?_; rintro e w9 ⟨rfl, rfl⟩)
        go_roundw
        case rel => first | exact ⟨i + 1, by omega, by go_num, hD2, by first | trivial | rfl⟩ | ((repeat apply Exists.intro); exact ⟨⟨i + 1, by omega, by go_num, hD2, by first | trivial | rfl⟩, rfl⟩)
        case measure => simp [intOf]; omega
    · obtain rfl : i = m := by omega
      have HR : Hid (anyL L = false) := Lib.hid (anyL_no L (by rw [HM.out]; exact hD.out))
      go_wp2_with fail
      go_ret
      exact ⟨_, rfl, by rw [HR.out]; rfl, rfl⟩
theorem ContainsFunc_any (p g m c0 : Nat) (L : List Sl) (w : World) (hp : w.cell? ⟨p, 0, none⟩ = some (.slice (some ⟨g, 0, none⟩) m c0)) (hR : RowsL w g L) (hm : L.length = m) (hm1 : 1 ≤ m) (hm9 : m ≤ 9) :
    Calls Try.prog 93 #[.slice (some ⟨g, 0, none⟩) m c0, .func (.func 94) #[] #[.pointer (some ⟨p, 0, none⟩)]] w fun e w' => e = .returned (.bool (anyL L)) ∧ w = w' := by
  have HC := Lib.hid (IndexFunc_any p g m c0 L w hp hR hm hm1 hm9)
  obtain ⟨B, hB⟩ : ∃ B, anyL L = B := ⟨_, rfl⟩
  have HB := Lib.hid hB
  rw [hB]
  clear hp hR hB hm
  go_enter Try.func93, Try.ntmps93
  go_wp2_with (go_at_call 104; refine HC.out.mono ?_; rintro e w9 ⟨r, rfl, hr, rfl⟩; rw [HB.out] at hr)
  go_ret
  exact ⟨rfl, rfl⟩

set_option maxHeartbeats 4000000 in
set_option maxRecDepth 100000 in
theorem checked_any (g m c0 : Nat) (L : List Sl) (w : World) (hR : RowsL w g L) (hm : L.length = m) (hm1 : 1 ≤ m) (hm9 : m ≤ 9) :
    Calls Try.prog 64 #[.slice (some ⟨g, 0, none⟩) m c0] w fun e w' => e = .returned (.int .i64 (chkdE L)) ∧ Below w.heap.size w w' := by
  have HM := Lib.hid hm
  have hcell : (w.alloc (.cells #[.slice (some ⟨g, 0, none⟩) m c0] 66)).cell? ⟨w.heap.size, 0, none⟩ = some (.slice (some ⟨g, 0, none⟩) m c0) := by simp [go_sem]
  have HCE := Lib.hid hcell
  clear hm hcell
  go_enter Try.func64, Try.ntmps64
  go_wp2_with fail
  go_loopw [8] (fun vi wr => ∃ i : Nat, i ≤ m ∧ vi = .int .i64 (i : Int) ∧ Hid (∀ j, j < i → chkE (L.getD j sl0).l = 0) ∧ Below (w.heap.size + 1) (w.alloc (.cells #[.slice (some ⟨g, 0, none⟩) m c0] 66)) wr) (fun vi _ => m - (intOf vi).toNat)
  case atStart => exact ⟨0, by omega, rfl, Lib.hid (fun j hj => by omega), Below.refl _ _⟩
  case round =>
    obtain ⟨i, hi, rfl, hD, hb⟩ := hrel
    have hsz := hb.size
    simp only [World.size_alloc] at hsz
    have hb0 : Below w.heap.size w wr := ((Below.refl _ w).alloc (Nat.le_refl _) _).trans (hb.mono (Nat.le_succ _))
    have hR2 := hR.below hb0
    by_cases hlt : i < m
    · have y := hR2.arr.cell i sl0 (by rw [HM.out]; exact hlt)
      have hI := hR2.is i (by rw [HM.out]; exact hlt)
      have q1 : (i : Int) < (m : Int) := by omega
      obtain ⟨e0, he0⟩ : ∃ e0, chkE (L.getD i sl0).l = e0 := ⟨_, rfl⟩
      have HE := Lib.hid he0
      have HC : Hid (Calls Try.prog 25 #[(L.getD i sl0).v] wr fun e w' => e = .returned (.int .i64 e0) ∧ Below wr.heap.size wr w') := Lib.hid (by
        have := Check_any _ _ _ _ wr hI
        rw [he0] at this
        exact this)
      obtain ⟨s, hs⟩ : ∃ s, L.getD i sl0 = s := ⟨_, rfl⟩
      rw [hs] at y HC
      obtain ⟨sa, sn, sc, sll⟩ := s
      rw [show Sl.v ⟨sa, sn, sc, sll⟩ = .slice sa sn sc from rfl] at y HC
      clear hs he0 hI
      by_cases hz : e0 = 0
      · have hD2 : Hid (∀ j, j < i + 1 → chkE (L.getD j sl0).l = 0) := Lib.hid (fun j hj => by
          by_cases e : j = i
          · rw [e, HE.out, hz]
          · exact hD.out j (by omega))
        subst hz
        go_wp2_with (go_at_call 25; refine HC.out.mono ?_; rintro e w9 ⟨rfl, b9⟩)
        have hb2 := hb.trans (b9.mono (by omega))
        clear b9
        go_roundw
        case rel => first | exact ⟨i + 1, by omega, by go_num, hD2, hb2⟩ | ((repeat apply Exists.intro); exact ⟨⟨i + 1, by omega, by go_num, hD2, hb2⟩, rfl⟩)
        case measure => simp [intOf]; omega
      · have e1 : (e0 != 0) = true := by simpa using hz
        have e2 : (e0 == 0) = false := by simpa using hz
        have HR : Hid (e0 = chkdE L) := Lib.hid (by
          have := chkA_hit L i (by rw [HM.out]; exact hlt) hD.out (by rw [HE.out]; exact hz)
          rw [chkdE, if_pos (by rw [this, HE.out]; exact hz), this, HE.out])
        clear hz
        go_wp2_with (go_at_call 25; refine HC.out.mono ?_; rintro e w9 ⟨rfl, b9⟩)
        go_ret
        exact ⟨ret_i HR.out, hb0.trans (b9.mono (by omega))⟩
    · obtain rfl : i = m := by omega
      have hc2 := (hb.cell (p := ⟨w.heap.size, 0, none⟩) (Nat.lt_succ_self _)).trans HCE.out
      have HC := Lib.hid (ContainsFunc_any w.heap.size g i c0 L wr hc2 hR2 HM.out hm1 hm9)
      obtain ⟨B, hB⟩ : ∃ B, anyL L = B := ⟨_, rfl⟩
      have HR : Hid (chkdE L = if B then 5 else 0) := Lib.hid (by
        rw [chkdE, if_neg (fun h => h (chkA_ok L (by rw [HM.out]; exact hD.out))), ← hB]; rfl)
      rw [hB] at HC
      clear hB hR2
      cases B with
      | true =>
        have HR2 : Hid ((5 : Int) = chkdE L) := Lib.hid (by rw [HR.out]; rfl)
        go_wp2_with (go_at_call 93; refine HC.out.mono ?_; rintro e w9 ⟨rfl, rfl⟩)
        go_ret
        exact ⟨ret_i HR2.out, hb0⟩
      | false =>
        have HR2 : Hid ((0 : Int) = chkdE L) := Lib.hid (by rw [HR.out]; rfl)
        go_wp2_with (go_at_call 93; refine HC.out.mono ?_; rintro e w9 ⟨rfl, rfl⟩)
        go_ret
        exact ⟨ret_i HR2.out, hb0⟩
end Go.Proofs.Ytmcckngodaeojaa
namespace Go.Proofs.Ytmcckngodaeojaa
open Go.RowKit Grade03

/-- the error of two orders -/
def bothE (a b : List Int) : Int := if chkE a ≠ 0 then chkE a else if chkE b ≠ 0 then chkE b else if a.length ≠ b.length then 5 else 0
def threeE (a b x : List Int) : Int := if chkE a ≠ 0 then chkE a else if chkE b ≠ 0 then chkE b else if chkE x ≠ 0 then chkE x else if a.length ≠ b.length ∨ a.length ≠ x.length then 5 else 0
theorem bothE_zero {a b : List Int} : bothE a b = 0 ↔ chkE a = 0 ∧ chkE b = 0 ∧ b.length = a.length := by
  unfold bothE
  by_cases h1 : chkE a = 0
  · by_cases h2 : chkE b = 0
    · rw [if_neg (fun h => h h1), if_neg (fun h => h h2)]
      by_cases h3 : a.length = b.length
      · rw [if_neg (fun h => h h3)]; exact ⟨fun _ => ⟨h1, h2, h3.symm⟩, fun _ => rfl⟩
      · rw [if_pos h3]; exact ⟨(fun h => by cases h), fun h => absurd h.2.2.symm h3⟩
    · rw [if_neg (fun h => h h1), if_pos h2]; exact ⟨fun h => absurd h h2, fun h => absurd h.2.1 h2⟩
  · rw [if_pos h1]; exact ⟨fun h => absurd h h1, fun h => absurd h.1 h1⟩
variable (a b x : Option Addr) (n m k c d f : Nat) (la lb lx : List Int) (w : World)
theorem rows2 (h : IsL w a n c la) (h' : IsL w b m d lb) : RowsL (w.alloc (.cells #[.slice a n c, .slice b m d] 22)) w.heap.size [⟨a, n, c, la⟩, ⟨b, m, d, lb⟩] := by
  refine ⟨ArrV.new w _ _ _ _ rfl rfl, fun i hi => ?_⟩
  match i, hi with
  | 0, _ => exact h.alloc _
  | 1, _ => exact h'.alloc _
theorem rows3 (h : IsL w a n c la) (h' : IsL w b m d lb) (h2 : IsL w x k f lx) : RowsL (w.alloc (.cells #[.slice a n c, .slice b m d, .slice x k f] 22)) w.heap.size [⟨a, n, c, la⟩, ⟨b, m, d, lb⟩, ⟨x, k, f, lx⟩] := by
  refine ⟨ArrV.new w _ _ _ _ rfl rfl, fun i hi => ?_⟩
  match i, hi with
  | 0, _ => exact h.alloc _
  | 1, _ => exact h'.alloc _
  | 2, _ => exact h2.alloc _
theorem chkd2 (hl : la.length = n) (hl' : lb.length = m) : chkdE [⟨a, n, c, la⟩, ⟨b, m, d, lb⟩] = bothE la lb := by
  unfold chkdE bothE chkA chkA chkA
  simp only [hl, hl']
  by_cases h1 : chkE la = 0
  · by_cases h2 : chkE lb = 0
    · by_cases e : n = m
      · subst e; simp [h1, h2, List.getD]
      · have e2 : ¬ m = n := fun h => e h.symm
        simp [h1, h2, List.getD, e, e2]
    · simp [h1, h2]
  · simp [h1]
theorem chkd3 (hl : la.length = n) (hl' : lb.length = m) (hl2 : lx.length = k) : chkdE [⟨a, n, c, la⟩, ⟨b, m, d, lb⟩, ⟨x, k, f, lx⟩] = threeE la lb lx := by
  unfold chkdE threeE chkA chkA chkA chkA
  simp only [hl, hl', hl2]
  by_cases h1 : chkE la = 0
  · by_cases h2 : chkE lb = 0
    · by_cases h3 : chkE lx = 0
      · by_cases e : n = m
        · subst e
          by_cases e3 : n = k
          · subst e3; simp [h1, h2, h3, List.getD]
          · have e4 : ¬ k = n := fun h => e3 h.symm
            simp [h1, h2, h3, List.getD, e3, e4]
        · have e2 : ¬ m = n := fun h => e h.symm
          simp [h1, h2, h3, List.getD, e, e2]
      · simp [h1, h2, h3]
    · simp [h1, h2]
  · simp [h1]
theorem checked2 (h : IsL w a n c la) (h' : IsL w b m d lb) : Calls Try.prog 64 #[.slice (some ⟨w.heap.size, 0, none⟩) 2 2] (w.alloc (.cells #[.slice a n c, .slice b m d] 22)) fun e w' => e = .returned (.int .i64 (bothE la lb)) ∧ Below w.heap.size w w' := by
  have := checked_any w.heap.size 2 2 _ _ (rows2 a b n m c d la lb w h h') rfl (by omega) (by omega)
  rw [chkd2 a b n m c d la lb h.len h'.len] at this
  exact this.mono fun e w' ⟨h1, h2⟩ => ⟨h1, ((Below.refl _ w).alloc (Nat.le_refl _) _).trans (h2.mono (by simp))⟩
theorem checked3 (h : IsL w a n c la) (h' : IsL w b m d lb) (h2 : IsL w x k f lx) : Calls Try.prog 64 #[.slice (some ⟨w.heap.size, 0, none⟩) 3 3] (w.alloc (.cells #[.slice a n c, .slice b m d, .slice x k f] 22)) fun e w' => e = .returned (.int .i64 (threeE la lb lx)) ∧ Below w.heap.size w w' := by
  have := checked_any w.heap.size 3 3 _ _ (rows3 a b x n m k c d f la lb lx w h h' h2) rfl (by omega) (by omega)
  rw [chkd3 a b x n m k c d f la lb lx h.len h'.len h2.len] at this
  exact this.mono fun e w' ⟨h1, h3⟩ => ⟨h1, ((Below.refl _ w).alloc (Nat.le_refl _) _).trans (h3.mono (by simp))⟩

set_option maxHeartbeats 2000000 in
theorem rboth_any (h : IsL w a n c la) (h' : IsL w b m d lb) : Calls Try.prog 67 #[.slice a n c, .slice b m d] w fun e w' => e = .returned (.int .i64 (bothE la lb)) ∧ Below w.heap.size w w' := by
  have hl := h.len
  have hl' := h'.len
  obtain ⟨e0, he0⟩ : ∃ e0, chkE la = e0 := ⟨_, rfl⟩
  obtain ⟨e1, he1⟩ : ∃ e1, chkE lb = e1 := ⟨_, rfl⟩
  have hbe : bothE la lb = if e0 ≠ 0 then e0 else if e1 ≠ 0 then e1 else if n ≠ m then 5 else 0 := by unfold bothE; rw [he0, he1, hl, hl']
  have HBE := Lib.hid hbe
  have H0 := Lib.hid he0
  have H1 := Lib.hid he1
  clear hl hl' he0 he1 hbe
  by_cases hz : e0 = 0
  · subst hz
    by_cases hz1 : e1 = 0
    · subst hz1
      obtain ⟨B, hB⟩ : ∃ B, ((n : Int) != (m : Int)) = B := ⟨_, rfl⟩
      have HR : Hid (bothE la lb = if B then 5 else 0) := Lib.hid (by
        rw [HBE.out, if_neg (by simp), if_neg (by simp), ← hB]
        by_cases e : n = m
        · subst e; simp
        · have : ((n : Int) != (m : Int)) = true := by simp; omega
          rw [if_pos e, this]; rfl)
      go_enter Try.func67, Try.ntmps67
      go_wp2_with fail
      refine (rCheck_any _ _ _ _ _ h).mono ?_
      rintro e w1 ⟨rfl, b1⟩
      rw [H0.out]
      go_wp2_with fail
      refine (rCheck_any _ _ _ _ _ (h'.below b1)).mono ?_
      rintro e w2 ⟨rfl, b2⟩
      rw [H1.out]
      cases B with
      | true =>
        go_wp2
        go_ret
        exact ⟨by rw [HR.out]; rfl, b1.trans (b2.mono b1.size)⟩
      | false =>
        go_wp2
        go_ret
        exact ⟨by rw [HR.out]; rfl, b1.trans (b2.mono b1.size)⟩
    · have t1 : (e1 == 0) = false := by simpa using hz1
      have HR : Hid (bothE la lb = e1) := Lib.hid (by rw [HBE.out, if_neg (by simp), if_pos hz1])
      clear hz1
      go_enter Try.func67, Try.ntmps67
      go_wp2_with fail
      refine (rCheck_any _ _ _ _ _ h).mono ?_
      rintro e w1 ⟨rfl, b1⟩
      rw [H0.out]
      go_wp2_with fail
      refine (rCheck_any _ _ _ _ _ (h'.below b1)).mono ?_
      rintro e w2 ⟨rfl, b2⟩
      rw [H1.out]
      go_wp2
      go_ret
      exact ⟨by rw [HR.out]; rfl, b1.trans (b2.mono b1.size)⟩
  · have t1 : (e0 == 0) = false := by simpa using hz
    have HR : Hid (bothE la lb = e0) := Lib.hid (by rw [HBE.out, if_pos hz])
    clear hz
    go_enter Try.func67, Try.ntmps67
    go_wp2_with fail
    refine (rCheck_any _ _ _ _ _ h).mono ?_
    rintro e w1 ⟨rfl, b1⟩
    rw [H0.out]
    go_wp2
    go_ret
    exact ⟨by rw [HR.out]; rfl, b1⟩
end Go.Proofs.Ytmcckngodaeojaa
namespace Go.Proofs.Ytmcckngodaeojaa
open Go.RowKit Grade03

set_option maxHeartbeats 2000000 in
set_option maxRecDepth 100000 in
theorem earlier_any (a : Option Addr) (n c : Nat) (l : List Int) (x y : Nat) (w : World) (h : IsL w a n c l) (hO : IsO l) (hx : x < n) (hy : y < n) (hne : x ≠ y) (B : Bool) (hB : decide (bef l x y) = B) :
    Calls Try.prog 95 #[.slice a n c, .int .i64 (x : Int), .int .i64 (y : Int)] w fun e w' => e = .returned (.bool B) ∧ w = w' := by
  have hcap := h.cap
  have hle := h.le
  have hl := h.len
  have HL := Lib.hid hl
  have HO := Lib.hid hO
  have HB := Lib.hid hB
  clear hl hO hB
  go_enter Try.func95, Try.ntmps95
  go_wp2_with fail
  go_loopw [7] (fun vi wr => ∃ i : Nat, i ≤ n ∧ vi = .int .i64 (i : Int) ∧ Hid (∀ j, j < i → l.getD j 0 ≠ (x : Int) ∧ l.getD j 0 ≠ (y : Int)) ∧ w = wr) (fun vi _ => n - (intOf vi).toNat)
  case atStart => exact ⟨0, by omega, rfl, Lib.hid (fun j hj => by omega), rfl⟩
  case round =>
    obtain ⟨i, hi, rfl, hD, rfl⟩ := hrel
    by_cases hlt : i < n
    · obtain ⟨b, o, rfl, _, hc⟩ := h.cells (by omega)
      have z := hc i hlt
      have q1 : (i : Int) < (n : Int) := by omega
      have hpx := HO.out.get_pos (x : Int) (by omega) (by rw [HL.out]; omega)
      have hpy := HO.out.get_pos (y : Int) (by omega) (by rw [HL.out]; omega)
      have hp := HO.out.pos_get i (by rw [HL.out]; exact hlt)
      have HPX : Hid (i ≤ pos l (x : Int)) := Lib.hid (Nat.le_of_not_lt fun hh => (hD.out _ hh).1 hpx.2)
      have HPY : Hid (i ≤ pos l (y : Int)) := Lib.hid (Nat.le_of_not_lt fun hh => (hD.out _ hh).2 hpy.2)
      obtain ⟨v, hv⟩ : ∃ v, l.getD i 0 = v := ⟨_, rfl⟩
      rw [hv] at z hp
      have HV := Lib.hid hv
      have HP := Lib.hid hp
      clear hc hv hp hpx hpy
      by_cases hvx : v = (x : Int)
      · subst hvx
        have e1 : ((x : Int) == (x : Int)) = true := by simp
        have HR : Hid (true = B) := Lib.hid (by
          rw [← HB.out, eq_comm, decide_eq_true_eq]
          unfold bef
          have h1 := HP.out
          have h2 := HPY.out
          have h3 : pos l (x : Int) ≠ pos l (y : Int) := fun e => hne (by have := HO.out.pos_inj (x := (x : Int)) (y := (y : Int)) ⟨by omega, by rw [HL.out]; omega⟩ ⟨by omega, by rw [HL.out]; omega⟩ e; omega)
          omega)
        go_wp2_with fail
        go_ret
        exact ⟨ret_b HR.out, rfl⟩
      · have e1 : (v == (x : Int)) = false := by simpa using hvx
        by_cases hvy : v = (y : Int)
        · subst hvy
          have e2 : ((y : Int) == (y : Int)) = true := by simp
          have HR : Hid (false = B) := Lib.hid (by
            rw [← HB.out, eq_comm, decide_eq_false_iff_not]
            unfold bef
            have h1 := HP.out
            have h2 := HPX.out
            omega)
          clear hvx
          go_wp2_with fail
          go_ret
          exact ⟨ret_b HR.out, rfl⟩
        · have e2 : (v == (y : Int)) = false := by simpa using hvy
          have hD2 : Hid (∀ j, j < i + 1 → l.getD j 0 ≠ (x : Int) ∧ l.getD j 0 ≠ (y : Int)) := Lib.hid (fun j hj => by
            by_cases e : j = i
            · rw [e, HV.out]; exact ⟨hvx, hvy⟩
            · exact hD.out j (by omega))
          clear hvx hvy
          go_wp2_with fail
          go_roundw
          case rel => first | exact ⟨i + 1, by omega, by go_num, hD2, by first | trivial | rfl⟩ | ((repeat apply Exists.intro); exact ⟨⟨i + 1, by omega, by go_num, hD2, by first | trivial | rfl⟩, rfl⟩)
          case measure => simp [intOf]; omega
    · exfalso
      obtain rfl : i = n := by omega
      obtain ⟨h1, h2⟩ := HO.out.get_pos (x : Int) (by omega) (by rw [HL.out]; omega)
      exact (hD.out _ (by rw [HL.out] at h1; exact h1)).1 h2

theorem info65 : (Try.prog.info? 65).map (fun i => (i.zero, i.size, i.bytes)) = some (some (.agg #[.int .i64 0, .int .i64 0]), 2, 16) := by kernel_rfl
set_option maxHeartbeats 4000000 in
set_option maxRecDepth 100000 in
theorem rdiffer_any (a b : Option Addr) (n c d : Nat) (la lb : List Int) (w : World) (h : IsL w a n c la) (h' : IsL w b n d lb) (hO : IsO la) (hO' : IsO lb) (hn : n ≤ 7) :
    Calls Try.prog 68 #[.slice a n c, .slice b n d] w fun e w' => ∃ a' m c', e = .returned (.slice a' m c') ∧ OwnP w' 65 w.heap.size a' m c' (difL la lb) ∧ Below w.heap.size w w' := by
  have hl := h.len
  have HL := Lib.hid hl
  have HO := Lib.hid hO
  have HO' := Lib.hid hO'
  clear hl hO hO'
  go_enter Try.func68, Try.ntmps68
  go_wp2_with fail
  go_loopw [6, 5] (fun vx va wr => ∃ (x m : Nat) (a' : Option Addr) (c' : Nat), x ≤ n ∧ m ≤ 1000 ∧ vx = .int .i64 (x : Int) ∧ va = .slice a' m c' ∧ Hid (OwnP wr 65 w.heap.size a' m c' (difA la lb x)) ∧ Below w.heap.size w wr) (fun vx _ _ => n - (intOf vx).toNat)
  case atStart => exact ⟨0, 0, none, 0, by omega, by omega, rfl, rfl, Lib.hid (OwnP.nilP _ _ _), Below.refl _ _⟩
  case round =>
    obtain ⟨x, m, a', c', hx, hm, rfl, rfl, hO, hb⟩ := hrel
    by_cases hlt : x < n
    · have d0 : decide (x < n) = true := by simpa using hlt
      go_wp2_with fail
      go_loopw [7, 5] (fun vy va wr => ∃ (y m : Nat) (a' : Option Addr) (c' : Nat), y ≤ n ∧ vy = .int .i64 (y : Int) ∧ va = .slice a' m c' ∧ Hid (OwnP wr 65 w.heap.size a' m c' (difA la lb x ++ difR la lb x y)) ∧ Below w.heap.size w wr) (fun vy _ _ => n - (intOf vy).toNat)
      case atStart => exact ⟨0, m, a', c', by omega, rfl, rfl, by rw [difR, List.append_nil]; exact hO, hb⟩
      case round =>
        clear hO hb hm
        obtain ⟨y, m, a', c', hy, rfl, rfl, hO, hb⟩ := hrel
        have hsz := hb.size
        have hm : m ≤ 100 := by
          have h1 := hO.out.len
          rw [List.length_append] at h1
          have h2 := difA_le la lb x
          have h3 := difR_le la lb x y
          rw [HL.out] at h2
          have h4 : x * n ≤ 7 * 7 := Nat.mul_le_mul (by omega) hn
          omega
        by_cases hyn : y < n
        · have d1 : decide (y < n) = true := by simpa using hyn
          obtain ⟨B1, hB1⟩ : ∃ B, decide (bef la x y) = B := ⟨_, rfl⟩
          obtain ⟨B2, hB2⟩ : ∃ B, decide (bef lb y x) = B := ⟨_, rfl⟩
          have HS : Hid (difR la lb x (y + 1) = difR la lb x y ++ (if B1 && B2 then [((x : Int), (y : Int))] else [])) := Lib.hid (by
            rw [difR, ← hB1, ← hB2]
            congr 1
            by_cases c1 : bef la x y <;> by_cases c2 : bef lb y x <;> simp [c1, c2])
          have H1 := Lib.hid hB1
          have H2 := Lib.hid hB2
          have g := h.below hb
          have g' := h'.below hb
          by_cases hxy : x = y
          · have e1 : ((x : Int) != (y : Int)) = false := by simp; omega
            have HN : Hid (difR la lb x (y + 1) = difR la lb x y) := Lib.hid (by
              rw [HS.out, show (B1 && B2) = false by rw [← H1.out, hxy, decide_eq_false (bef_irrefl la y)]; rfl]; simp)
            clear hxy hB1 hB2
            go_wp2_with fail
            go_roundw
            case rel => first | exact ⟨y + 1, m, a', c', by omega, by go_num, rfl, by rw [HN.out]; exact hO, hb⟩ | ((repeat apply Exists.intro); exact ⟨⟨y + 1, m, a', c', by omega, by go_num, rfl, by rw [HN.out]; exact hO, hb⟩, rfl⟩)
            case measure => (simp [intOf] <;> omega)
          · have e1 : ((x : Int) != (y : Int)) = true := by simp; omega
            have hxy2 : y ≠ x := fun e => hxy e.symm
            have HC1 := Lib.hid (earlier_any a n c la x y wr g HO.out hlt hyn hxy B1 hB1)
            have HC2 := Lib.hid (earlier_any b n d lb y x wr g' HO'.out hyn hlt hxy2 B2 hB2)
            clear hB1 hB2 hxy hxy2
            have hO1 := hO.out
            cases B1 with
            | false =>
              have HN : Hid (difR la lb x (y + 1) = difR la lb x y) := Lib.hid (by rw [HS.out]; simp)
              go_wp2_with (go_at_call 95; (with_reducible refine HC1.out.mono ?_); rintro e w9 ⟨rfl, rfl⟩)
              go_roundw
              case rel => first | exact ⟨y + 1, m, a', c', by omega, by go_num, rfl, by rw [HN.out]; exact hO, hb⟩ | ((repeat apply Exists.intro); exact ⟨⟨y + 1, m, a', c', by omega, by go_num, rfl, by rw [HN.out]; exact hO, hb⟩, rfl⟩)
              case measure => (simp [intOf] <;> omega)
            | true =>
              cases B2 with
              | false =>
                have HN : Hid (difR la lb x (y + 1) = difR la lb x y) := Lib.hid (by rw [HS.out]; simp)
                go_wp2_with (first
                  | (go_at_call 95; (with_reducible refine HC1.out.mono ?_); rintro e w9 ⟨rfl, rfl⟩)
                  | (go_at_call 95; (with_reducible refine HC2.out.mono ?_); rintro e w9 ⟨rfl, rfl⟩))
                go_roundw
                case rel => first | exact ⟨y + 1, m, a', c', by omega, by go_num, rfl, by rw [HN.out]; exact hO, hb⟩ | ((repeat apply Exists.intro); exact ⟨⟨y + 1, m, a', c', by omega, by go_num, rfl, by rw [HN.out]; exact hO, hb⟩, rfl⟩)
                case measure => (simp [intOf] <;> omega)
              | true =>
                have HN : Hid (difA la lb x ++ difR la lb x (y + 1) = (difA la lb x ++ difR la lb x y) ++ [((x : Int), (y : Int))]) := Lib.hid (by rw [HS.out]; simp)
                clear hO
                go_wp2_with (first
                  | (go_at_call 95; (with_reducible refine HC1.out.mono ?_); rintro e w9 ⟨rfl, rfl⟩)
                  | (go_at_call 95; (with_reducible refine HC2.out.mono ?_); rintro e w9 ⟨rfl, rfl⟩)
                  | (at_builtin; refine wl_app_pair Try.underlying25 info65 w.heap.size (.tmp 35) (.tmp 39) rfl rfl rfl rfl (hO1.alloc _) (x : Int) (y : Int) (by simp [go_sem]) (by simp [go_sem]) (by simp; omega) (by omega) ?_))
                intro a2 c2 w3 ho2 hg2 hb2
                have hO4 : Hid (OwnP w3 65 w.heap.size a2 (m + 1) c2 (difA la lb x ++ difR la lb x (y + 1))) := Lib.hid (by rw [HN.out]; simpa using ho2)
                have hb4 := (hb.alloc hsz (.cells #[.int .i64 (x : Int), .int .i64 (y : Int)] 65)).trans hb2
                clear hg2 hb2 hO1 ho2 hb
                go_wp2
                go_roundw
                case rel => first | exact ⟨y + 1, m + 1, a2, c2, by omega, by go_num, rfl, hO4, hb4⟩ | ((repeat apply Exists.intro); exact ⟨⟨y + 1, m + 1, a2, c2, by omega, by go_num, rfl, hO4, hb4⟩, rfl⟩)
                case measure => (simp [intOf] <;> omega)
        · obtain rfl : y = n := by omega
          have HN : Hid (difA la lb (x + 1) = difA la lb x ++ difR la lb x y) := Lib.hid (by rw [difA, HL.out])
          go_wp2
          go_roundw
          case rel => first | exact ⟨x + 1, m, a', c', by omega, by omega, by go_num, rfl, by rw [HN.out]; exact hO, hb⟩ | ((repeat apply Exists.intro); exact ⟨⟨x + 1, m, a', c', by omega, by omega, by go_num, rfl, by rw [HN.out]; exact hO, hb⟩, rfl⟩)
          case measure => (simp [intOf] <;> omega)
    · obtain rfl : x = n := by omega
      have HN : Hid (difL la lb = difA la lb x) := Lib.hid (by rw [difL, HL.out])
      go_wp2
      go_ret
      exact ⟨_, _, _, rfl, by rw [HN.out]; exact hO.out, hb⟩
end Go.Proofs.Ytmcckngodaeojaa
