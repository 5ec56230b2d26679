/- Plain facts of chapter 9: what the functions return. -/
import Derived.Test.YtbhjphcomppjgaaDoorPh
namespace Beetle09
set_option maxRecDepth 100000
/-- A list of numbers, as integers. -/
def li (l : List Nat) : List Int := l.map (fun (n : Nat) => (n : Int))
theorem li_len (l : List Nat) : (li l).length = l.length := List.length_map _
theorem li_app (a b : List Nat) : li (a ++ b) = li a ++ li b := List.map_append
theorem li_get (l : List Nat) (i : Nat) : (li l).getD i 0 = ((l.getD i 0 : Nat) : Int) := by
  unfold li
  simp only [List.getD, List.getElem?_map]
  cases l[i]? <;> rfl
theorem li_inj {a b : List Nat} (h : li a = li b) : a = b := List.map_inj_right (fun _ _ h => Int.ofNat.inj h) |>.1 h
/-- The set of a list of integers. -/
def sOf (S : List Int) : Nat := setL (S.map Int.toNat)
theorem Rd.sOf {N : Nat} {S : List Int} {s : Nat} (h : Rd N S s) : Beetle09.sOf S = s := Nat.eq_of_testBit_eq fun i => by
  unfold Beetle09.sOf
  rw [setL_bit, Bool.eq_iff_iff, h.mem, decide_eq_true_eq, List.mem_map]
  constructor
  · rintro ⟨x, hx, rfl⟩
    have := h.rng x hx
    rwa [show ((x.toNat : Nat) : Int) = x by omega]
  · intro hi; exact ⟨_, hi, by simp⟩
variable (r c : Int) (S F : List Int)
def spreadE : List Int := if openE r c S F = 0 then li (els (r.toNat * c.toNat) (fin r.toNat c.toNat (sOf F) (sOf S))) else []
def daysE : List Int := if openE r c S F = 0 then daysL r.toNat c.toNat (sOf F) (sOf S) else []
def out1E : Int := if openE r c S F = 0 then outl r.toNat c.toNat (sOf S) else 0
def out2E : Int := if openE r c S F = 0 then outl r.toNat c.toNat (fin r.toNat c.toNat (sOf F) (sOf S)) else 0
/-- A set without one. -/
def del (s n : Nat) : Nat := s &&& (4294967295 - 2 ^ n)
def idles (R C z s : Nat) : List Nat := (els (R * C) s).filter fun n => (fin R C z (del s n)).testBit n
def idleE : List Int := if openE r c S F = 0 then li (idles r.toNat c.toNat (sOf F) (sOf S)) else []
variable {r c S F} {R C s z : Nat}
theorem Opn.spread (h : Opn r c S F R C s z) (h0 : openE r c S F = 0) : spreadE r c S F = li (els (R * C) (fin R C z s)) := by
  rw [spreadE, if_pos h0, h.rs.sOf, h.rz.sOf, h.er, h.ec]; rfl
theorem Opn.days (h : Opn r c S F R C s z) (h0 : openE r c S F = 0) : daysE r c S F = daysL R C z s := by
  rw [daysE, if_pos h0, h.rs.sOf, h.rz.sOf, h.er, h.ec]; rfl
theorem Opn.out1 (h : Opn r c S F R C s z) (h0 : openE r c S F = 0) : out1E r c S F = outl R C s := by
  rw [out1E, if_pos h0, h.rs.sOf, h.er, h.ec]; rfl
theorem Opn.out2 (h : Opn r c S F R C s z) (h0 : openE r c S F = 0) : out2E r c S F = outl R C (fin R C z s) := by
  rw [out2E, if_pos h0, h.rs.sOf, h.rz.sOf, h.er, h.ec]; rfl
theorem Opn.idle (h : Opn r c S F R C s z) (h0 : openE r c S F = 0) : idleE r c S F = li (idles R C z s) := by
  rw [idleE, if_pos h0, h.rs.sOf, h.rz.sOf, h.er, h.ec]; rfl
theorem bad_spread (h0 : openE r c S F ≠ 0) : spreadE r c S F = [] := by rw [spreadE, if_neg h0]
theorem bad_days (h0 : openE r c S F ≠ 0) : daysE r c S F = [] := by rw [daysE, if_neg h0]
theorem bad_out1 (h0 : openE r c S F ≠ 0) : out1E r c S F = 0 := by rw [out1E, if_neg h0]
theorem bad_out2 (h0 : openE r c S F ≠ 0) : out2E r c S F = 0 := by rw [out2E, if_neg h0]
theorem bad_idle (h0 : openE r c S F ≠ 0) : idleE r c S F = [] := by rw [idleE, if_neg h0]
theorem Opn.s25 (h : Opn r c S F R C s z) : s < 2 ^ 25 := lt25 h.rs.lt h.sd.n25
theorem Opn.z25 (h : Opn r c S F R C s z) : z < 2 ^ 25 := lt25 h.rz.lt h.sd.n25
theorem del_bit {s n i : Nat} (hs : s < 2 ^ 25) (hn : n < 25) : (del s n).testBit i = (s.testBit i && decide (n ≠ i)) := by
  have h1 : (2 : Nat) ^ n ≤ 2 ^ 24 := Nat.pow_le_pow_right (by omega) (by omega)
  have e : 4294967295 - 2 ^ n = 2 ^ 32 - (2 ^ n + 1) := by
    have : (2 : Nat) ^ 32 = 4294967296 := by decide
    omega
  unfold del
  rw [Nat.testBit_and]
  by_cases hi : i < 32
  · rw [e, Nat.testBit_two_pow_sub_succ (by have : (2 : Nat) ^ 24 < 2 ^ 32 := by decide
                                            omega), two_bit]
    simp [hi]
  · rw [Nat.testBit_lt_two_pow (x := s) (i := i) (Nat.lt_of_lt_of_le hs (Nat.pow_le_pow_right (by omega) (by omega)))]; rfl
theorem del_lt {s n N : Nat} (h : s < 2 ^ N) : del s n < 2 ^ N := Nat.lt_of_le_of_lt Nat.and_le_left h
theorem del_sub (s n : Nat) : Sub (del s n) s := fun i hi => by
  unfold del at hi; rw [Nat.testBit_and, Bool.and_eq_true] at hi; exact hi.1
end Beetle09
