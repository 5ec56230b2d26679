/- TopHeaped: plain facts. -/
import Derived.Test.YtpfaoagddgcmbaaDoorPa
import Derived.Test.YtpfaoagddgcmbaaDoorHm
namespace Go.Proofs.YtpfaoagddgcmbaaDoor
open Go.RowKit Heap02 Grade03
/-- P holds the places of the first i of a. -/
structure InvK (a P : List Int) (i : Nat) : Prop where
  len : P.length = a.length
  at_ : ∀ j, j < i → P.getD (a.getD j 0).toNat 0 = (j : Int)
variable {a P Q : List Int} {i n : Nat}
theorem InvK.start (hl : P.length = a.length) : InvK a P 0 := ⟨hl, fun j hj => by omega⟩
theorem InvK.step (h : InvK a P i) (hO : IsO a) (hi : i < a.length) : InvK a (P.set (a.getD i 0).toNat (i : Int)) (i + 1) := by
  refine ⟨by rw [List.length_set]; exact h.len, fun j hj => ?_⟩
  have hlo := hO.lo i hi
  have hlj := hO.lo j (by omega)
  by_cases e : j = i
  · subst e
    rw [List.getD, List.getElem?_set_self (by rw [h.len]; omega)]; rfl
  · have hne : (a.getD i 0).toNat ≠ (a.getD j 0).toNat := fun e2 => e (hO.inj j i (by omega) hi (by omega))
    rw [List.getD, List.getElem?_set_ne hne]
    exact h.at_ j (by omega)
theorem InvK.ord (h : InvK a P a.length) (hO : IsO a) : IsO P := by
  refine ⟨fun x hx => ?_, fun x y hx hy e => ?_⟩
  · rw [h.len] at hx ⊢
    obtain ⟨j, hj, e⟩ := hO.surj (x : Int) (by omega) (by omega)
    have := h.at_ j hj
    rw [e, Int.toNat_natCast] at this
    rw [this]; omega
  · rw [h.len] at hx hy
    obtain ⟨j, hj, e1⟩ := hO.surj (x : Int) (by omega) (by omega)
    obtain ⟨k, hk, e2⟩ := hO.surj (y : Int) (by omega) (by omega)
    have h1 := h.at_ j hj
    have h2 := h.at_ k hk
    rw [e1, Int.toNat_natCast] at h1
    rw [e2, Int.toNat_natCast] at h2
    have : j = k := by omega
    subst this
    omega
def hpX (P Q : List Int) (x : Nat) : Hp := (if Q.getD x 0 < P.getD x 0 then Q.getD x 0 else P.getD x 0, if P.getD x 0 < Q.getD x 0 then Q.getD x 0 else P.getD x 0)
def hpK (P Q : List Int) (i : Nat) : List Hp := (List.range i).map (hpX P Q)
theorem hpK_len (i : Nat) : (hpK P Q i).length = i := by simp [hpK]
theorem hpK_next (i : Nat) : hpK P Q (i + 1) = hpK P Q i ++ [hpX P Q i] := by rw [hpK, List.range_succ, List.map_append]; rfl
theorem hpK_get {x : Nat} (hx : x < i) : (hpK P Q i).getD x (0, 0) = hpX P Q x := by simp [hpK, List.getD, hx]
theorem hp_ok (hP : IsO P) (hQ : IsO Q) (h1 : P.length = n) (h2 : Q.length = n) (h7 : n ≤ 7) : OkH (hpK P Q n) := by
  intro x hx
  obtain ⟨i, hi, rfl⟩ := List.mem_map.1 hx
  have hi := List.mem_range.1 hi
  have a1 := hP.lo i (by omega)
  have a2 := hQ.lo i (by omega)
  simp only [hpX]
  (repeat' split) <;> omega
theorem hp_top (hP : IsO P) (hQ : IsO Q) (h1 : P.length = n) (h2 : Q.length = n) (x : Nat) (hx : x < n) : 0 ≤ (hpX P Q x).1 ∧ (hpX P Q x).1 ≤ (hpX P Q x).2 ∧ (hpX P Q x).2 ≤ (n : Int) - 1 := by
  have a1 := hP.lo x (by omega)
  have a2 := hQ.lo x (by omega)
  simp only [hpX]
  (repeat' split) <;> omega
theorem hp_planP (hP : IsO P) : PlanO (hpK P Q n) P := ⟨hP.nodup, fun i hi => by
  rw [hpK_len] at hi
  rw [hpK_get hi]
  simp only [hpX]
  (repeat' split) <;> omega⟩
theorem hp_planQ (hQ : IsO Q) : PlanO (hpK P Q n) Q := ⟨hQ.nodup, fun i hi => by
  rw [hpK_len] at hi
  rw [hpK_get hi]
  simp only [hpX]
  (repeat' split) <;> omega⟩
theorem hp_feas (hP : IsO P) (h1 : P.length = n) : Feas 0 (hpK P Q n) := feas_of (g := P) (by rw [hpK_len, h1]) hP.nodup (fun i hi => by
  rw [hpK_len] at hi
  have a1 := hP.lo i (by omega)
  rw [hpK_get hi]
  simp only [hpX]
  (repeat' split) <;> omega)
theorem plan_ord {O : List Int} (hO : PlanO (hpK P Q n) O) (hl : O.length = n) (hP : IsO P) (hQ : IsO Q) (h1 : P.length = n) (h2 : Q.length = n) : IsO O := by
  refine ⟨fun i hi => ?_, fun i k hi hk e => ?_⟩
  · have a1 := hO.bd i (by rw [hpK_len]; omega)
    have a2 := hp_top hP hQ h1 h2 i (by omega)
    rw [hpK_get (by omega)] at a1
    omega
  · rw [List.getD, List.getD, List.getElem?_eq_getElem hi, List.getElem?_eq_getElem hk] at e
    exact (List.getElem_inj hO.nd).1 (by simpa using e)
theorem hp_end {E : Int} (hE : EndH (hpK P Q n) E) (hP : IsO P) (hQ : IsO Q) (h1 : P.length = n) (h2 : Q.length = n) (hn : 1 ≤ n) : E = (n : Int) - 1 := by
  have hto : ∀ x ∈ hpK P Q n, x.2 ≤ (n : Int) - 1 := by
    intro x hx
    obtain ⟨i, hi, rfl⟩ := List.mem_map.1 hx
    exact (hp_top hP hQ h1 h2 i (List.mem_range.1 hi)).2.2
  have hle : ¬ (n : Int) - 1 < E := by
    intro hlt
    refine hE.least ((n : Int) - 1) (by omega) (fun i hi => ?_) hlt ?_
    · rw [hpK_len] at hi
      rw [hpK_get hi]
      have := hp_top hP hQ h1 h2 i hi
      omega
    · rw [clamp_all hto]
      exact hp_feas hP h1
  obtain ⟨Z, z1, z2, z3⟩ := hE.ok.order
  have hpos := hE.pos
  have hlen : (Z.map Prod.snd).length = n := by
    have : (Z.map Prod.fst).length = n := by rw [z1, clamp_len, hpK_len]
    simpa using this
  have hall : ∀ x ∈ Z.map Prod.snd, 0 ≤ x ∧ x < ((E + 1).toNat : Int) := by
    intro x hx
    obtain ⟨z, hz, rfl⟩ := List.mem_map.1 hx
    have a1 := z3 z hz
    have hm : z.1 ∈ clampL (hpK P Q n) E := by rw [← z1]; exact List.mem_map_of_mem hz
    obtain ⟨y, hy, e⟩ := List.mem_map.1 hm
    have : z.1.2 ≤ E := by
      rw [← e]
      simp only []
      split <;> omega
    omega
  have := pig (E + 1).toNat _ z2 hall
  rw [hlen] at this
  omega
end Go.Proofs.YtpfaoagddgcmbaaDoor
namespace Go.Proofs.YtpfaoagddgcmbaaDoor
open Go.RowKit
/-- make([]int, n): the run's equation. -/
theorem make_run (B : Nat) (w : World) (n : Nat) (hn : n ≤ 1000) (hB : B ≤ w.heap.size) : ∃ w', (Instr.makeSlice 23 (.int .i64 (n : Int)) (.int .i64 (n : Int))).run Tryd.prog w = .ok (.slice (some ⟨w.heap.size, 0, none⟩) n n) w' ∧ OwnL w' 3 B (some ⟨w.heap.size, 0, none⟩) n n (List.replicate n 0) ∧ w.grownBy w' none ∧ Below B w w' := by
  obtain ⟨i, hi, hz2, hs2, hb2⟩ := info_parts elem3
  obtain ⟨w', hrun, r1, r2⟩ := run_make_full (P := Tryd.prog) w B 23 3 i _ 1 Tryd.underlying23 hi hz2 hs2 .i64 .i64 n (by rw [hb2]; omega) (by simp only [maxLen]; omega) hB
  refine ⟨w', hrun, ?_, r2, (Below.refl _ _).grown r2 hB (fun k hk => by cases hk)⟩
  rw [show (Value.int .i64 0).cells = #[Value.int .i64 0] from rfl, made_list] at r1
  have e : List.replicate n (Value.int .i64 0) = (List.replicate n (0 : Int)).map (Value.int .i64) := by rw [List.map_replicate]
  rw [e] at r1
  exact r1
end Go.Proofs.YtpfaoagddgcmbaaDoor
