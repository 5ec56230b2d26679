/- Plain facts of chapter 9: a store is checked. -/
import Derived.Test.YtbhjphcomppjgaaDoorPd
namespace Beetle09
set_option maxRecDepth 100000
/-- Sides that there can be, as integers. -/
def sdB (r c : Int) : Bool := decide (1 ≤ r ∧ r ≤ 5 ∧ 1 ≤ c ∧ c ≤ 5)
theorem sdB_sd {r c : Int} (h : sdB r c = true) : ∃ R C : Nat, r = (R : Int) ∧ c = (C : Int) ∧ Sd R C := by
  have h := of_decide_eq_true h
  exact ⟨r.toNat, c.toNat, by omega, by omega, ⟨by omega, by omega, by omega, by omega⟩⟩
theorem sd_sdB {R C : Nat} (h : Sd R C) : sdB R C = true := decide_eq_true ⟨by have := h.r1; omega, by have := h.r5; omega, by have := h.c1; omega, by have := h.c5; omega⟩
/-- Bales with beetles are read: the error, and the set. -/
def sickE (N : Nat) : List Int → Nat → Int × Nat
  | [], s => (0, s)
  | x :: l, s => if x < 0 ∨ (N : Int) ≤ x then (2, s) else if s.testBit x.toNat then (6, s) else sickE N l (s ||| 2 ^ x.toNat)
/-- Frozen bales are read. -/
def coldE (N s : Nat) : List Int → Nat → Int × Nat
  | [], z => (0, z)
  | x :: l, z => if x < 0 ∨ (N : Int) ≤ x then (2, z) else if z.testBit x.toNat then (6, z) else if s.testBit x.toNat then (13, z) else coldE N s l (z ||| 2 ^ x.toNat)
/-- A store is opened: the error, the bales with beetles, the frozen ones. -/
def openE (r c : Int) (S F : List Int) : Int :=
  if sdB r c = false then 1 else
    if (sickE (r * c).toNat S 0).1 = 0 then (coldE (r * c).toNat (sickE (r * c).toNat S 0).2 F 0).1 else (sickE (r * c).toNat S 0).1
theorem sickE_bad {N : Nat} {x : Int} {l : List Int} {s : Nat} (h : x < 0 ∨ (N : Int) ≤ x) : sickE N (x :: l) s = (2, s) := by rw [sickE, if_pos h]
theorem sickE_two {N : Nat} {x : Nat} {l : List Int} {s : Nat} (h : x < N) (h2 : s.testBit x = true) : sickE N ((x : Int) :: l) s = (6, s) := by
  rw [sickE, if_neg (by omega), Int.toNat_natCast, if_pos h2]
theorem sickE_ok {N : Nat} {x : Nat} {l : List Int} {s : Nat} (h : x < N) (h2 : s.testBit x = false) : sickE N ((x : Int) :: l) s = sickE N l (s ||| 2 ^ x) := by
  rw [sickE, if_neg (by omega), Int.toNat_natCast, if_neg (by rw [h2]; simp)]
theorem coldE_bad {N t : Nat} {x : Int} {l : List Int} {s : Nat} (h : x < 0 ∨ (N : Int) ≤ x) : coldE N t (x :: l) s = (2, s) := by rw [coldE, if_pos h]
theorem coldE_two {N t : Nat} {x : Nat} {l : List Int} {s : Nat} (h : x < N) (h2 : s.testBit x = true) : coldE N t ((x : Int) :: l) s = (6, s) := by
  rw [coldE, if_neg (by omega), Int.toNat_natCast, if_pos h2]
theorem coldE_clash {N t : Nat} {x : Nat} {l : List Int} {s : Nat} (h : x < N) (h2 : s.testBit x = false) (h3 : t.testBit x = true) : coldE N t ((x : Int) :: l) s = (13, s) := by
  rw [coldE, if_neg (by omega), Int.toNat_natCast, if_neg (by rw [h2]; simp), if_pos h3]
theorem coldE_ok {N t : Nat} {x : Nat} {l : List Int} {s : Nat} (h : x < N) (h2 : s.testBit x = false) (h3 : t.testBit x = false) : coldE N t ((x : Int) :: l) s = coldE N t l (s ||| 2 ^ x) := by
  rw [coldE, if_neg (by omega), Int.toNat_natCast, if_neg (by rw [h2]; simp), if_neg (by rw [h3]; simp)]
theorem drop_cons (l : List Int) (i : Nat) (h : i < l.length) : l.drop i = l.getD i 0 :: l.drop (i + 1) := by
  rw [List.drop_eq_getElem_cons h]; simp [List.getD, h]
theorem ins_lt {s x N : Nat} (hs : s < 2 ^ N) (hx : x < N) : s ||| 2 ^ x < 2 ^ N := Nat.or_lt_two_pow hs (Nat.pow_lt_pow_right (by omega) hx)
/-- What is known of a list that is read without an error. -/
structure Rd (N : Nat) (S : List Int) (s : Nat) : Prop where
  lt : s < 2 ^ N
  rng : ∀ x ∈ S, 0 ≤ x ∧ x < (N : Int)
  nd : S.Nodup
  mem : ∀ k : Nat, s.testBit k = true ↔ (k : Int) ∈ S
theorem sick_rd {N : Nat} : ∀ {S : List Int} {s : Nat} {P : List Int}, Rd N P s → (sickE N S s).1 = 0 → Rd N (P ++ S) (sickE N S s).2
  | [], s, P, h, _ => by rw [List.append_nil]; exact h
  | x :: S, s, P, h, he => by
    by_cases h1 : x < 0 ∨ (N : Int) ≤ x
    · rw [sickE_bad h1] at he; simp at he
    · obtain ⟨n, rfl⟩ : ∃ n : Nat, x = (n : Int) := ⟨x.toNat, by omega⟩
      have hn : n < N := by omega
      cases h2 : s.testBit n with
      | true => rw [sickE_two hn h2] at he; simp at he
      | false =>
        rw [sickE_ok hn h2] at he ⊢
        have hP : Rd N (P ++ [(n : Int)]) (s ||| 2 ^ n) := by
          have hnp : (n : Int) ∉ P := fun hm => by rw [(h.mem n).2 hm] at h2; cases h2
          refine ⟨ins_lt h.lt hn, fun x hx => ?_, ?_, fun k => ?_⟩
          · rw [List.mem_append, List.mem_singleton] at hx
            rcases hx with hx | rfl
            · exact h.rng x hx
            · omega
          · rw [List.nodup_append]
            exact ⟨h.nd, by simp, fun a ha b hb => by rw [List.mem_singleton.1 hb]; exact fun e => hnp (e ▸ ha)⟩
          · rw [bit_ins, Bool.or_eq_true, h.mem, List.mem_append, List.mem_singleton, decide_eq_true_eq]
            constructor
            · rintro (h | h)
              · exact Or.inl h
              · exact Or.inr (by omega)
            · rintro (h | h)
              · exact Or.inl h
              · exact Or.inr (by omega)
        have := sick_rd hP he
        rwa [List.append_assoc] at this
theorem cold_rd {N t : Nat} : ∀ {S : List Int} {s : Nat} {P : List Int}, Rd N P s → (∀ k, s.testBit k = true → t.testBit k = false) → (coldE N t S s).1 = 0 → Rd N (P ++ S) (coldE N t S s).2 ∧ ∀ k, (coldE N t S s).2.testBit k = true → t.testBit k = false
  | [], s, P, h, hd, _ => by rw [List.append_nil]; exact ⟨h, hd⟩
  | x :: S, s, P, h, hd, he => by
    by_cases h1 : x < 0 ∨ (N : Int) ≤ x
    · rw [coldE_bad h1] at he; simp at he
    · obtain ⟨n, rfl⟩ : ∃ n : Nat, x = (n : Int) := ⟨x.toNat, by omega⟩
      have hn : n < N := by omega
      cases h2 : s.testBit n with
      | true => rw [coldE_two hn h2] at he; simp at he
      | false =>
        cases h3 : t.testBit n with
        | true => rw [coldE_clash hn h2 h3] at he; simp at he
        | false =>
          rw [coldE_ok hn h2 h3] at he ⊢
          have hP : Rd N (P ++ [(n : Int)]) (s ||| 2 ^ n) := by
            have hk : sickE N [(n : Int)] s = (0, s ||| 2 ^ n) := by rw [sickE_ok hn h2]; rfl
            have := sick_rd (S := [(n : Int)]) h (by rw [hk])
            rwa [hk] at this
          have := cold_rd hP (fun k hk => by
            rw [bit_ins, Bool.or_eq_true, decide_eq_true_eq] at hk
            rcases hk with hk | hk
            · exact hd k hk
            · rw [← hk]; exact h3) he
          rwa [List.append_assoc] at this
theorem rd_nil (N : Nat) : Rd N [] 0 := ⟨Nat.two_pow_pos N, fun x hx => by simp at hx, List.nodup_nil, fun k => by simp⟩
/-- A store that was opened. -/
structure Opn (r c : Int) (S F : List Int) (R C s z : Nat) : Prop where
  er : r = (R : Int)
  ec : c = (C : Int)
  sd : Sd R C
  rs : Rd (R * C) S s
  rz : Rd (R * C) F z
  dj : ∀ k, z.testBit k = true → s.testBit k = false
theorem open_ok {r c : Int} {S F : List Int} (h : openE r c S F = 0) : ∃ R C s z, Opn r c S F R C s z := by
  unfold openE at h
  split at h
  · cases h
  · rename_i h1
    rw [Bool.not_eq_false] at h1
    obtain ⟨R, C, rfl, rfl, hs⟩ := sdB_sd h1
    have e : ((R : Int) * (C : Int)).toNat = R * C := by rw [← Int.natCast_mul, Int.toNat_natCast]
    rw [e] at h
    split at h
    · rename_i h2
      have g1 := sick_rd (rd_nil (R * C)) h2
      have g2 := cold_rd (t := (sickE (R * C) S 0).2) (rd_nil (R * C)) (fun k hk => by simp at hk) h
      exact ⟨R, C, _, _, rfl, rfl, hs, g1, g2.1, g2.2⟩
    · rename_i h2; exact absurd h h2
theorem Rd.perm {N : Nat} {S : List Int} {s : Nat} (h : Rd N S s) : S.Perm ((els N s).map fun (n : Nat) => (n : Int)) := by
  have nd2 : ((els N s).map fun (n : Nat) => (n : Int)).Nodup := List.pairwise_map.2 ((els_nodup N s).imp fun h e => h (Int.ofNat.inj e))
  refine (List.perm_ext_iff_of_nodup h.nd nd2).2 ?_
  intro x
  rw [List.mem_map]
  constructor
  · intro hx
    have := h.rng x hx
    refine ⟨x.toNat, mem_els.2 ⟨by omega, (h.mem _).2 ?_⟩, by omega⟩
    rwa [show ((x.toNat : Nat) : Int) = x by omega]
  · rintro ⟨n, hn, rfl⟩
    exact (h.mem n).1 (mem_els.1 hn).2
theorem Rd.uniq {N : Nat} {S : List Int} {s t : Nat} (h : Rd N S s) (h' : Rd N S t) : s = t := Nat.eq_of_testBit_eq fun i => by
  rw [Bool.eq_iff_iff, h.mem, h'.mem]
end Beetle09
