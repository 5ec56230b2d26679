/-
  No cell of these rows narrows 'for every input' (looked for: loops, veiled, ifaces, maps, wideKeys, modest, calm, conditions, laid).
  DERIVED. THE GIVEN ROWS OF THIS SEAT. 10 by the template 'for every input the law returns true; each argument reads behind the call as it read before'; 0 by the template 'total and deterministic' (their statements: YthocenkedncoeaaTotals.lean).
  GIVEN WITH THE SEED: the statements are not yours to turn. If you find one false, say at which input.
  Laid BY PROGRAM, IN A SANDBOX (cutbox-rows.mjs): the forced cells as the released guide's own fill.sh prints them over the translation d0f306ad6427c80f… (all of the seat's roots in one cut). By AI agents, Wed Nov 11 2026. No macro, syntax, notation, axiom, sorry.
-/
import Derived.Test.YthocenkedncoeaaChecked
import GoSem.Claim
import GoSem.ClaimJoined
import GoSem.ClaimMapViews
import Derived.JoinedTies
import Derived.KernelRfl
namespace Go.Proofs.Ythocenkedncoeaa
/- THE CELL 'sum', in the pinned program and in every row, IS THE sha256 OF THE DUMP (.gsa) THAT YthocenkedncoeaaProg.lean LOADS. Nothing in Lean hashes anything: it is a label: what it is worth is what the hold of that sum in a sandbox is worth. -/
noncomputable def Try.pinned : Pinned := { name := "ythocenkedncoeaa", sum := "d0f306ad6427c80ff86fb95f08f56dd93f86c645429adaf68ce98cb171c0485a", checked := Try.checked }
namespace Rows
def none {H : Type} : Left H := { results := [], args := [] }

/-- 'vitolalaw06.BenchOrders': WHATEVER THE INPUT: true; the input reads as it did. -/
def benchOrdersSpec : ChangeSpec := { name := "benchOrders", fn := fun _ => fun
  | [d1, d2, d3] => { results := [.lit (.bool true)], args := [d1, d2, d3] }
  | _ => none }
def benchOrdersRow : OpenClaim := { program := "ythocenkedncoeaa", sum := "d0f306ad6427c80ff86fb95f08f56dd93f86c645429adaf68ce98cb171c0485a", func := "vitola/vitolalaw06.BenchOrders", spec := "benchOrders", unfollowed := true, recurses := true, plainKeys := false, apart := false }
def BenchOrdersSaid : Prop := benchOrdersRow.holds Try.pinned (OpenSpec.ofChange benchOrdersSpec)

/-- ITS FALSE NEIGHBOUR: 'it returns false'. Refute it at one input. -/
def benchOrdersWrong : ChangeSpec := { name := "benchOrders", fn := fun _ => fun
  | [d1, d2, d3] => { results := [.lit (.bool false)], args := [d1, d2, d3] }
  | _ => none }
def BenchOrdersWrongFalsely : Prop := benchOrdersRow.holds Try.pinned (OpenSpec.ofChange benchOrdersWrong)

/-- 'vitolalaw06.BenchCounted': WHATEVER THE INPUT: true; the input reads as it did. -/
def benchCountedSpec : ChangeSpec := { name := "benchCounted", fn := fun _ => fun
  | [d1, d2, d3] => { results := [.lit (.bool true)], args := [d1, d2, d3] }
  | _ => none }
def benchCountedRow : OpenClaim := { program := "ythocenkedncoeaa", sum := "d0f306ad6427c80ff86fb95f08f56dd93f86c645429adaf68ce98cb171c0485a", func := "vitola/vitolalaw06.BenchCounted", spec := "benchCounted", unfollowed := true, recurses := true, plainKeys := false, apart := false }
def BenchCountedSaid : Prop := benchCountedRow.holds Try.pinned (OpenSpec.ofChange benchCountedSpec)

/-- ITS FALSE NEIGHBOUR: 'it returns false'. Refute it at one input. -/
def benchCountedWrong : ChangeSpec := { name := "benchCounted", fn := fun _ => fun
  | [d1, d2, d3] => { results := [.lit (.bool false)], args := [d1, d2, d3] }
  | _ => none }
def BenchCountedWrongFalsely : Prop := benchCountedRow.holds Try.pinned (OpenSpec.ofChange benchCountedWrong)

/-- 'vitolalaw06.BenchCounts': WHATEVER THE INPUT: true; the input reads as it did. -/
def benchCountsSpec : ChangeSpec := { name := "benchCounts", fn := fun _ => fun
  | [d] => { results := [.lit (.bool true)], args := [d] }
  | _ => none }
def benchCountsRow : OpenClaim := { program := "ythocenkedncoeaa", sum := "d0f306ad6427c80ff86fb95f08f56dd93f86c645429adaf68ce98cb171c0485a", func := "vitola/vitolalaw06.BenchCounts", spec := "benchCounts", unfollowed := true, recurses := true, plainKeys := false, apart := false }
def BenchCountsSaid : Prop := benchCountsRow.holds Try.pinned (OpenSpec.ofChange benchCountsSpec)

/-- ITS FALSE NEIGHBOUR: 'it returns false'. Refute it at one input. -/
def benchCountsWrong : ChangeSpec := { name := "benchCounts", fn := fun _ => fun
  | [d] => { results := [.lit (.bool false)], args := [d] }
  | _ => none }
def BenchCountsWrongFalsely : Prop := benchCountsRow.holds Try.pinned (OpenSpec.ofChange benchCountsWrong)

/-- 'vitolalaw06.BenchTried': WHATEVER THE INPUT: true; the input reads as it did. -/
def benchTriedSpec : ChangeSpec := { name := "benchTried", fn := fun _ => fun
  | [d1, d2, d3] => { results := [.lit (.bool true)], args := [d1, d2, d3] }
  | _ => none }
def benchTriedRow : OpenClaim := { program := "ythocenkedncoeaa", sum := "d0f306ad6427c80ff86fb95f08f56dd93f86c645429adaf68ce98cb171c0485a", func := "vitola/vitolalaw06.BenchTried", spec := "benchTried", unfollowed := true, recurses := true, plainKeys := false, apart := false }
def BenchTriedSaid : Prop := benchTriedRow.holds Try.pinned (OpenSpec.ofChange benchTriedSpec)

/-- ITS FALSE NEIGHBOUR: 'it returns false'. Refute it at one input. -/
def benchTriedWrong : ChangeSpec := { name := "benchTried", fn := fun _ => fun
  | [d1, d2, d3] => { results := [.lit (.bool false)], args := [d1, d2, d3] }
  | _ => none }
def BenchTriedWrongFalsely : Prop := benchTriedRow.holds Try.pinned (OpenSpec.ofChange benchTriedWrong)

/-- 'vitolalaw06.BenchPossible': WHATEVER THE INPUT: true; the input reads as it did. -/
def benchPossibleSpec : ChangeSpec := { name := "benchPossible", fn := fun _ => fun
  | [d] => { results := [.lit (.bool true)], args := [d] }
  | _ => none }
def benchPossibleRow : OpenClaim := { program := "ythocenkedncoeaa", sum := "d0f306ad6427c80ff86fb95f08f56dd93f86c645429adaf68ce98cb171c0485a", func := "vitola/vitolalaw06.BenchPossible", spec := "benchPossible", unfollowed := true, recurses := true, plainKeys := false, apart := false }
def BenchPossibleSaid : Prop := benchPossibleRow.holds Try.pinned (OpenSpec.ofChange benchPossibleSpec)

/-- ITS FALSE NEIGHBOUR: 'it returns false'. Refute it at one input. -/
def benchPossibleWrong : ChangeSpec := { name := "benchPossible", fn := fun _ => fun
  | [d] => { results := [.lit (.bool false)], args := [d] }
  | _ => none }
def BenchPossibleWrongFalsely : Prop := benchPossibleRow.holds Try.pinned (OpenSpec.ofChange benchPossibleWrong)

/-- 'vitolalaw06.BenchSeated': WHATEVER THE INPUT: true; the input reads as it did. -/
def benchSeatedSpec : ChangeSpec := { name := "benchSeated", fn := fun _ => fun
  | [d1, d2] => { results := [.lit (.bool true)], args := [d1, d2] }
  | _ => none }
def benchSeatedRow : OpenClaim := { program := "ythocenkedncoeaa", sum := "d0f306ad6427c80ff86fb95f08f56dd93f86c645429adaf68ce98cb171c0485a", func := "vitola/vitolalaw06.BenchSeated", spec := "benchSeated", unfollowed := true, recurses := true, plainKeys := false, apart := false }
def BenchSeatedSaid : Prop := benchSeatedRow.holds Try.pinned (OpenSpec.ofChange benchSeatedSpec)

/-- ITS FALSE NEIGHBOUR: 'it returns false'. Refute it at one input. -/
def benchSeatedWrong : ChangeSpec := { name := "benchSeated", fn := fun _ => fun
  | [d1, d2] => { results := [.lit (.bool false)], args := [d1, d2] }
  | _ => none }
def BenchSeatedWrongFalsely : Prop := benchSeatedRow.holds Try.pinned (OpenSpec.ofChange benchSeatedWrong)

/-- 'vitolalaw06.BenchTurned': WHATEVER THE INPUT: true; the input reads as it did. -/
def benchTurnedSpec : ChangeSpec := { name := "benchTurned", fn := fun _ => fun
  | [d1, d2] => { results := [.lit (.bool true)], args := [d1, d2] }
  | _ => none }
def benchTurnedRow : OpenClaim := { program := "ythocenkedncoeaa", sum := "d0f306ad6427c80ff86fb95f08f56dd93f86c645429adaf68ce98cb171c0485a", func := "vitola/vitolalaw06.BenchTurned", spec := "benchTurned", unfollowed := true, recurses := true, plainKeys := false, apart := false }
def BenchTurnedSaid : Prop := benchTurnedRow.holds Try.pinned (OpenSpec.ofChange benchTurnedSpec)

/-- ITS FALSE NEIGHBOUR: 'it returns false'. Refute it at one input. -/
def benchTurnedWrong : ChangeSpec := { name := "benchTurned", fn := fun _ => fun
  | [d1, d2] => { results := [.lit (.bool false)], args := [d1, d2] }
  | _ => none }
def BenchTurnedWrongFalsely : Prop := benchTurnedRow.holds Try.pinned (OpenSpec.ofChange benchTurnedWrong)

/-- 'vitolalaw06.BenchKnown': WHATEVER THE INPUT: true; the input reads as it did. -/
def benchKnownSpec : ChangeSpec := { name := "benchKnown", fn := fun _ => fun
  | [] => { results := [.lit (.bool true)], args := [] }
  | _ => none }
def benchKnownRow : OpenClaim := { program := "ythocenkedncoeaa", sum := "d0f306ad6427c80ff86fb95f08f56dd93f86c645429adaf68ce98cb171c0485a", func := "vitola/vitolalaw06.BenchKnown", spec := "benchKnown", unfollowed := true, recurses := true, plainKeys := false, apart := false }
def BenchKnownSaid : Prop := benchKnownRow.holds Try.pinned (OpenSpec.ofChange benchKnownSpec)

/-- ITS FALSE NEIGHBOUR: 'it returns false'. Refute it at one input. -/
def benchKnownWrong : ChangeSpec := { name := "benchKnown", fn := fun _ => fun
  | [] => { results := [.lit (.bool false)], args := [] }
  | _ => none }
def BenchKnownWrongFalsely : Prop := benchKnownRow.holds Try.pinned (OpenSpec.ofChange benchKnownWrong)

/-- 'vitolalaw06.BenchSearched': WHATEVER THE INPUT: true; the input reads as it did. -/
def benchSearchedSpec : ChangeSpec := { name := "benchSearched", fn := fun _ => fun
  | [d1, d2, d3] => { results := [.lit (.bool true)], args := [d1, d2, d3] }
  | _ => none }
def benchSearchedRow : OpenClaim := { program := "ythocenkedncoeaa", sum := "d0f306ad6427c80ff86fb95f08f56dd93f86c645429adaf68ce98cb171c0485a", func := "vitola/vitolalaw06.BenchSearched", spec := "benchSearched", unfollowed := true, recurses := true, plainKeys := false, apart := false }
def BenchSearchedSaid : Prop := benchSearchedRow.holds Try.pinned (OpenSpec.ofChange benchSearchedSpec)

/-- ITS FALSE NEIGHBOUR: 'it returns false'. Refute it at one input. -/
def benchSearchedWrong : ChangeSpec := { name := "benchSearched", fn := fun _ => fun
  | [d1, d2, d3] => { results := [.lit (.bool false)], args := [d1, d2, d3] }
  | _ => none }
def BenchSearchedWrongFalsely : Prop := benchSearchedRow.holds Try.pinned (OpenSpec.ofChange benchSearchedWrong)

/-- 'vitolalaw06.BenchGrown': WHATEVER THE INPUT: true; the input reads as it did. -/
def benchGrownSpec : ChangeSpec := { name := "benchGrown", fn := fun _ => fun
  | [d1, d2] => { results := [.lit (.bool true)], args := [d1, d2] }
  | _ => none }
def benchGrownRow : OpenClaim := { program := "ythocenkedncoeaa", sum := "d0f306ad6427c80ff86fb95f08f56dd93f86c645429adaf68ce98cb171c0485a", func := "vitola/vitolalaw06.BenchGrown", spec := "benchGrown", unfollowed := true, recurses := true, plainKeys := false, apart := false }
def BenchGrownSaid : Prop := benchGrownRow.holds Try.pinned (OpenSpec.ofChange benchGrownSpec)

/-- ITS FALSE NEIGHBOUR: 'it returns false'. Refute it at one input. -/
def benchGrownWrong : ChangeSpec := { name := "benchGrown", fn := fun _ => fun
  | [d1, d2] => { results := [.lit (.bool false)], args := [d1, d2] }
  | _ => none }
def BenchGrownWrongFalsely : Prop := benchGrownRow.holds Try.pinned (OpenSpec.ofChange benchGrownWrong)

/- THE SECOND FORM. 'bulk': how many values and letters a reading holds, each counted each time it is reached (what is shared counts as often as it is met; a slice's spare places count too). A statement '..UptoSaid' is the law's where the arguments, and the package variables that the reading takes, are together of bulk at most 1048576: NARROWER than '..Said'. Prove '..Said' where nothing that the law and all that it calls make is longer than what came in: it says more and counts as full. Else prove '..UptoSaid'. A law counts once. -/
mutual
def uptoBulk {H : Type} : DataW H → Nat
  | .lit (.string bytes) => bytes.length + 1
  | .lit _ => 1
  | .nil => 1
  | .ptr d => uptoBulk d + 1
  | .slice elems spare => uptoBulkAll elems + uptoBulkAll spare + 1
  | .agg parts => uptoBulkAll parts + 1
  | .iface _ d => uptoBulk d + 1
  | .map entries => uptoBulkEntries entries + 1
  | .held _ => 1
def uptoBulkAll {H : Type} : List (DataW H) → Nat
  | [] => 0
  | d :: r => uptoBulk d + uptoBulkAll r
def uptoBulkEntries {H : Type} : List (Lit × DataW H) → Nat
  | [] => 0
  | x :: r => uptoBulkEntry x + uptoBulkEntries r
def uptoBulkEntry {H : Type} : Lit × DataW H → Nat
  | (.string bytes, d) => bytes.length + uptoBulk d + 1
  | (_, d) => uptoBulk d + 1
 end
def uptoSmall : (H : Type) → List (DataW H) → Bool := fun _ ds => decide (uptoBulkAll ds ≤ 1048576)
def OpenSpec.upto (s : _root_.Go.ChangeSpec) : _root_.Go.OpenSpec := { _root_.Go.OpenSpec.ofChange s with cond := some uptoSmall }

/-- 'vitolalaw06.BenchOrders', WHERE WHAT IT READS IS OF BULK AT MOST 1048576: true; the input reads as it did. -/
def benchOrdersUptoRow : OpenClaim := { program := "ythocenkedncoeaa", sum := "d0f306ad6427c80ff86fb95f08f56dd93f86c645429adaf68ce98cb171c0485a", func := "vitola/vitolalaw06.BenchOrders", spec := "benchOrders", unfollowed := true, recurses := true, plainKeys := false, apart := false, narrowed := true }
def BenchOrdersUptoSaid : Prop := benchOrdersUptoRow.holds Try.pinned (OpenSpec.upto benchOrdersSpec)

/-- 'vitolalaw06.BenchCounted', WHERE WHAT IT READS IS OF BULK AT MOST 1048576: true; the input reads as it did. -/
def benchCountedUptoRow : OpenClaim := { program := "ythocenkedncoeaa", sum := "d0f306ad6427c80ff86fb95f08f56dd93f86c645429adaf68ce98cb171c0485a", func := "vitola/vitolalaw06.BenchCounted", spec := "benchCounted", unfollowed := true, recurses := true, plainKeys := false, apart := false, narrowed := true }
def BenchCountedUptoSaid : Prop := benchCountedUptoRow.holds Try.pinned (OpenSpec.upto benchCountedSpec)

/-- 'vitolalaw06.BenchCounts', WHERE WHAT IT READS IS OF BULK AT MOST 1048576: true; the input reads as it did. -/
def benchCountsUptoRow : OpenClaim := { program := "ythocenkedncoeaa", sum := "d0f306ad6427c80ff86fb95f08f56dd93f86c645429adaf68ce98cb171c0485a", func := "vitola/vitolalaw06.BenchCounts", spec := "benchCounts", unfollowed := true, recurses := true, plainKeys := false, apart := false, narrowed := true }
def BenchCountsUptoSaid : Prop := benchCountsUptoRow.holds Try.pinned (OpenSpec.upto benchCountsSpec)

/-- 'vitolalaw06.BenchTried', WHERE WHAT IT READS IS OF BULK AT MOST 1048576: true; the input reads as it did. -/
def benchTriedUptoRow : OpenClaim := { program := "ythocenkedncoeaa", sum := "d0f306ad6427c80ff86fb95f08f56dd93f86c645429adaf68ce98cb171c0485a", func := "vitola/vitolalaw06.BenchTried", spec := "benchTried", unfollowed := true, recurses := true, plainKeys := false, apart := false, narrowed := true }
def BenchTriedUptoSaid : Prop := benchTriedUptoRow.holds Try.pinned (OpenSpec.upto benchTriedSpec)

/-- 'vitolalaw06.BenchPossible', WHERE WHAT IT READS IS OF BULK AT MOST 1048576: true; the input reads as it did. -/
def benchPossibleUptoRow : OpenClaim := { program := "ythocenkedncoeaa", sum := "d0f306ad6427c80ff86fb95f08f56dd93f86c645429adaf68ce98cb171c0485a", func := "vitola/vitolalaw06.BenchPossible", spec := "benchPossible", unfollowed := true, recurses := true, plainKeys := false, apart := false, narrowed := true }
def BenchPossibleUptoSaid : Prop := benchPossibleUptoRow.holds Try.pinned (OpenSpec.upto benchPossibleSpec)

/-- 'vitolalaw06.BenchSeated', WHERE WHAT IT READS IS OF BULK AT MOST 1048576: true; the input reads as it did. -/
def benchSeatedUptoRow : OpenClaim := { program := "ythocenkedncoeaa", sum := "d0f306ad6427c80ff86fb95f08f56dd93f86c645429adaf68ce98cb171c0485a", func := "vitola/vitolalaw06.BenchSeated", spec := "benchSeated", unfollowed := true, recurses := true, plainKeys := false, apart := false, narrowed := true }
def BenchSeatedUptoSaid : Prop := benchSeatedUptoRow.holds Try.pinned (OpenSpec.upto benchSeatedSpec)

/-- 'vitolalaw06.BenchTurned', WHERE WHAT IT READS IS OF BULK AT MOST 1048576: true; the input reads as it did. -/
def benchTurnedUptoRow : OpenClaim := { program := "ythocenkedncoeaa", sum := "d0f306ad6427c80ff86fb95f08f56dd93f86c645429adaf68ce98cb171c0485a", func := "vitola/vitolalaw06.BenchTurned", spec := "benchTurned", unfollowed := true, recurses := true, plainKeys := false, apart := false, narrowed := true }
def BenchTurnedUptoSaid : Prop := benchTurnedUptoRow.holds Try.pinned (OpenSpec.upto benchTurnedSpec)

/-- 'vitolalaw06.BenchKnown', WHERE WHAT IT READS IS OF BULK AT MOST 1048576: true; the input reads as it did. -/
def benchKnownUptoRow : OpenClaim := { program := "ythocenkedncoeaa", sum := "d0f306ad6427c80ff86fb95f08f56dd93f86c645429adaf68ce98cb171c0485a", func := "vitola/vitolalaw06.BenchKnown", spec := "benchKnown", unfollowed := true, recurses := true, plainKeys := false, apart := false, narrowed := true }
def BenchKnownUptoSaid : Prop := benchKnownUptoRow.holds Try.pinned (OpenSpec.upto benchKnownSpec)

/-- 'vitolalaw06.BenchSearched', WHERE WHAT IT READS IS OF BULK AT MOST 1048576: true; the input reads as it did. -/
def benchSearchedUptoRow : OpenClaim := { program := "ythocenkedncoeaa", sum := "d0f306ad6427c80ff86fb95f08f56dd93f86c645429adaf68ce98cb171c0485a", func := "vitola/vitolalaw06.BenchSearched", spec := "benchSearched", unfollowed := true, recurses := true, plainKeys := false, apart := false, narrowed := true }
def BenchSearchedUptoSaid : Prop := benchSearchedUptoRow.holds Try.pinned (OpenSpec.upto benchSearchedSpec)

/-- 'vitolalaw06.BenchGrown', WHERE WHAT IT READS IS OF BULK AT MOST 1048576: true; the input reads as it did. -/
def benchGrownUptoRow : OpenClaim := { program := "ythocenkedncoeaa", sum := "d0f306ad6427c80ff86fb95f08f56dd93f86c645429adaf68ce98cb171c0485a", func := "vitola/vitolalaw06.BenchGrown", spec := "benchGrown", unfollowed := true, recurses := true, plainKeys := false, apart := false, narrowed := true }
def BenchGrownUptoSaid : Prop := benchGrownUptoRow.holds Try.pinned (OpenSpec.upto benchGrownSpec)

end Rows
end Go.Proofs.Ythocenkedncoeaa
