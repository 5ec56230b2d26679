/- Walks of chapter 1 at the top seat: a cart comes. -/
import Derived.Test.YtpfaoagddgcmbaaDoorDd
import Derived.Test.YtpfaoagddgcmbaaDoorHb
import Derived.BigQuiet
import Derived.Deep.QuietTactic
namespace Go.Proofs.YtpfaoagddgcmbaaDoor
open Go.RowKit Dock01
set_option maxRecDepth 100000
abbrev RowV (w : World) (g bays t : Nat) : Prop := ArrV VT w g 101 [.int .i64 (bays : Int), .int .u64 (t : Int)]
abbrev fateV : Option (Nat × Nat) → Value
  | none => .iface 99 (.agg #[])
  | some p => .iface 96 (.agg #[.int .i64 (p.1 : Int), .int .i64 (p.2 : Int)])
/-- the free bays from a wish on, as the walk writes them -/
def freeI (bays t wish : Nat) : Int := bits BinOp.and IntKind.u64 (IntKind.u64.wrap (bits BinOp.xor IntKind.u64 IntKind.u64.max (t : Int) / (2 : Int) ^ wish * (2 : Int) ^ wish)) (IntKind.u64.wrap (IntKind.u64.wrap ((2 : Int) ^ bays) - 1))
def comeB (bays t wish : Nat) : Bool :=
  match comeT bays t wish with
  | none => freeI bays t wish == 0
  | some b => decide (0 < freeI bays t wish) && decide (freeI bays t wish < 256) && Lib.ctz 64 (freeI bays t wish).toNat == b && decide (b < 8) && decide (wish ≤ b) && (bits BinOp.or IntKind.u64 (t : Int) (IntKind.u64.wrap ((2 : Int) ^ b)) == ((t ||| 2 ^ b : Nat) : Int)) && decide (t ||| 2 ^ b < 256)
theorem come_all : ∀ bays, bays < 9 → ∀ t, t < 256 → ∀ wish, wish < bays → comeB bays t wish = true := by decide +kernel
theorem come_none {bays t wish : Nat} (hb : bays ≤ 8) (ht : t < 256) (hw : wish < bays) (h : comeT bays t wish = none) : freeI bays t wish = 0 := by
  have := come_all bays (by omega) t ht wish hw
  rw [comeB, h] at this
  simpa using this
theorem come_some {bays t wish b : Nat} (hb : bays ≤ 8) (ht : t < 256) (hw : wish < bays) (h : comeT bays t wish = some b) :
    ∃ f : Nat, freeI bays t wish = (f : Int) ∧ 0 < f ∧ f < 256 ∧ Lib.ctz 64 f = b ∧ b < 8 ∧ wish ≤ b ∧ bits BinOp.or IntKind.u64 (t : Int) (IntKind.u64.wrap ((2 : Int) ^ b)) = ((t ||| 2 ^ b : Nat) : Int) ∧ t ||| 2 ^ b < 256 := by
  have := come_all bays (by omega) t ht wish hw
  rw [comeB, h] at this
  simp only [Bool.and_eq_true, decide_eq_true_eq, beq_iff_eq] at this
  obtain ⟨⟨⟨⟨⟨⟨h1, h2⟩, h3⟩, h4⟩, h5⟩, h6⟩, h7⟩ := this
  exact ⟨(freeI bays t wish).toNat, by omega, by omega, by omega, h3, h4, h5, h6, h7⟩
theorem takeT_lt {bays t wish : Nat} (hb : bays ≤ 8) (ht : t < 256) (hw : wish < bays) : takeT bays t (wish : Int) < 256 := by
  unfold takeT
  rw [Int.toNat_natCast]
  cases h : comeT bays t wish with
  | none => exact ht
  | some b => obtain ⟨f, _, _, _, _, _, _, _, h7⟩ := come_some hb ht hw h; exact h7
set_option maxHeartbeats 1000000 in
theorem come_any (g bays t wish : Nat) (w : World) (hT : Tab w) (hR : RowV w g bays t) (hb : bays ≤ 8) (ht : t < 256) (hw : wish < bays) :
    Calls Tryd.prog 103 #[.pointer (some ⟨g, 0, none⟩), .int .i64 (wish : Int)] w fun e w' => e = .returned (fateV (fateT bays t (wish : Int))) ∧ But (fun k => k = g) w w' ∧ RowV w' g bays (takeT bays t (wish : Int)) := by
  have c0 : w.cell? ⟨g, 0, none⟩ = some (.int .i64 (bays : Int)) := cellT hR 0 rfl
  have c1 : w.cell? ⟨g, 1, none⟩ = some (.int .u64 (t : Int)) := cellT hR 1 rfl
  have hfz := ArrV.frozen hR 1
  unfold fateT takeT
  rw [Int.toNat_natCast]
  cases h : comeT bays t wish with
  | none =>
    have key : bits BinOp.and IntKind.u64 (IntKind.u64.wrap (bits BinOp.xor IntKind.u64 (if IntKind.u64.signed = true then -1 else IntKind.u64.max) (t : Int) / (2 : Int) ^ wish * (2 : Int) ^ wish)) (IntKind.u64.wrap (IntKind.u64.wrap ((2 : Int) ^ bays) - 1)) = 0 := come_none hb ht hw h
    clear h
    go_enter Tryd.func103, Tryd.ntmps103
    go_wp2
    go_quiet (fail)
    go_wp2
    go_ret
    exact ⟨rfl, (But.refl _ w).trans (But.of_below (belowN (Below.refl _ _) _)), ArrV.below hR (belowN (Below.refl _ _) _)⟩
  | some b =>
    obtain ⟨f, k1, k2, k3, k4, k5, k6, k7, k8⟩ := come_some hb ht hw h
    have key : bits BinOp.and IntKind.u64 (IntKind.u64.wrap (bits BinOp.xor IntKind.u64 (if IntKind.u64.signed = true then -1 else IntKind.u64.max) (t : Int) / (2 : Int) ^ wish * (2 : Int) ^ wish)) (IntKind.u64.wrap (IntKind.u64.wrap ((2 : Int) ^ bays) - 1)) = (f : Int) := k1
    have HK := Lib.hid k4
    have HR := Lib.hid hR
    have q1 : (((f : Nat) : Int) == 0) = false := by simp; omega
    have q2 : IntKind.i64.wrap ((b : Int) - (wish : Int)) = (b : Int) - (wish : Int) := IntWalk.i64_in _ (by omega)
    have HQ : Hid (((b - wish : Nat) : Int) = (b : Int) - (wish : Int)) := Lib.hid (by omega)
    clear h k1 k4 hR k8
    go_enter Tryd.func103, Tryd.ntmps103
    go_wp2
    go_quiet (fail)
    go_wp2_with fail
    refine (tz_any f _ (hT.below (belowN (Below.refl _ _) _)) k2 (by omega) b HK.out).mono ?_
    rintro e w1 ⟨rfl, rfl⟩
    clear key
    go_wp2_with fail
    have c1' : w.cell? ⟨g, 1, none⟩ = some (.int .u64 (t : Int)) := c1
    go_region
    go_wp2
    go_ret
    have q3 : ((b - wish : Nat) : Int) = (b : Int) - (wish : Int) := HQ.out
    refine ⟨by simp [q3], ?_, ?_⟩
    · exact (But.of_below (belowN (Below.refl _ _) _)).setCell (X := fun k => k = g) rfl _
    · have := (ArrV.drewN HR.out (nq + 1)).set 1 (VT (.int .u64 ((t ||| 2 ^ b : Nat) : Int)))
      exact this
end Go.Proofs.YtpfaoagddgcmbaaDoor
