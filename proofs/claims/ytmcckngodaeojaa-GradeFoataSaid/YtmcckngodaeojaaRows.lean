/-
  No cell of these rows narrows 'for every input' (looked for: loops, veiled, ifaces, maps, wideKeys, modest, calm, conditions, laid).
  DERIVED. THE GIVEN ROWS OF THIS SEAT. 12 by the template 'for every input the law returns true; each argument reads behind the call as it read before'; 0 by the template 'total and deterministic' (their statements: YtmcckngodaeojaaTotals.lean).
  GIVEN WITH THE SEED: the statements are not yours to turn. If you find one false, say at which input.
  Laid BY PROGRAM, IN A SANDBOX (cutbox-rows.mjs): the forced cells as the released guide's own fill.sh prints them over the translation 219931bf6fa2a26f… (all of the seat's roots in one cut). By AI agents, Wed Nov 11 2026. No macro, syntax, notation, axiom, sorry.
-/
import Derived.Test.YtmcckngodaeojaaChecked
import GoSem.Claim
import GoSem.ClaimJoined
import GoSem.ClaimMapViews
import Derived.JoinedTies
import Derived.KernelRfl
namespace Go.Proofs.Ytmcckngodaeojaa
/- THE CELL 'sum', in the pinned program and in every row, IS THE sha256 OF THE DUMP (.gsa) THAT YtmcckngodaeojaaProg.lean LOADS. Nothing in Lean hashes anything: it is a label: what it is worth is what the hold of that sum in a sandbox is worth. -/
noncomputable def Try.pinned : Pinned := { name := "ytmcckngodaeojaa", sum := "219931bf6fa2a26f94648f605803bde48e6e66a09ffec10759b5979c8ebfb97a", checked := Try.checked }
namespace Rows
def none {H : Type} : Left H := { results := [], args := [] }

/-- 'vitolalaw03.GradeDiffers': WHATEVER THE INPUT: true; the input reads as it did. -/
def gradeDiffersSpec : ChangeSpec := { name := "gradeDiffers", fn := fun _ => fun
  | [d1, d2, d3] => { results := [.lit (.bool true)], args := [d1, d2, d3] }
  | _ => none }
def gradeDiffersRow : OpenClaim := { program := "ytmcckngodaeojaa", sum := "219931bf6fa2a26f94648f605803bde48e6e66a09ffec10759b5979c8ebfb97a", func := "vitola/vitolalaw03.GradeDiffers", spec := "gradeDiffers", unfollowed := true, recurses := true, apart := false }
def GradeDiffersSaid : Prop := gradeDiffersRow.holds Try.pinned (OpenSpec.ofChange gradeDiffersSpec)

/-- ITS FALSE NEIGHBOUR: 'it returns false'. Refute it at one input. -/
def gradeDiffersWrong : ChangeSpec := { name := "gradeDiffers", fn := fun _ => fun
  | [d1, d2, d3] => { results := [.lit (.bool false)], args := [d1, d2, d3] }
  | _ => none }
def GradeDiffersWrongFalsely : Prop := gradeDiffersRow.holds Try.pinned (OpenSpec.ofChange gradeDiffersWrong)

/-- 'vitolalaw03.GradeBetweens': WHATEVER THE INPUT: true; the input reads as it did. -/
def gradeBetweensSpec : ChangeSpec := { name := "gradeBetweens", fn := fun _ => fun
  | [d1, d2, d3] => { results := [.lit (.bool true)], args := [d1, d2, d3] }
  | _ => none }
def gradeBetweensRow : OpenClaim := { program := "ytmcckngodaeojaa", sum := "219931bf6fa2a26f94648f605803bde48e6e66a09ffec10759b5979c8ebfb97a", func := "vitola/vitolalaw03.GradeBetweens", spec := "gradeBetweens", unfollowed := true, recurses := true, apart := false }
def GradeBetweensSaid : Prop := gradeBetweensRow.holds Try.pinned (OpenSpec.ofChange gradeBetweensSpec)

/-- ITS FALSE NEIGHBOUR: 'it returns false'. Refute it at one input. -/
def gradeBetweensWrong : ChangeSpec := { name := "gradeBetweens", fn := fun _ => fun
  | [d1, d2, d3] => { results := [.lit (.bool false)], args := [d1, d2, d3] }
  | _ => none }
def GradeBetweensWrongFalsely : Prop := gradeBetweensRow.holds Try.pinned (OpenSpec.ofChange gradeBetweensWrong)

/-- 'vitolalaw03.GradeJoined': WHATEVER THE INPUT: true; the input reads as it did. -/
def gradeJoinedSpec : ChangeSpec := { name := "gradeJoined", fn := fun _ => fun
  | [d1, d2] => { results := [.lit (.bool true)], args := [d1, d2] }
  | _ => none }
def gradeJoinedRow : OpenClaim := { program := "ytmcckngodaeojaa", sum := "219931bf6fa2a26f94648f605803bde48e6e66a09ffec10759b5979c8ebfb97a", func := "vitola/vitolalaw03.GradeJoined", spec := "gradeJoined", unfollowed := true, recurses := true, apart := false }
def GradeJoinedSaid : Prop := gradeJoinedRow.holds Try.pinned (OpenSpec.ofChange gradeJoinedSpec)

/-- ITS FALSE NEIGHBOUR: 'it returns false'. Refute it at one input. -/
def gradeJoinedWrong : ChangeSpec := { name := "gradeJoined", fn := fun _ => fun
  | [d1, d2] => { results := [.lit (.bool false)], args := [d1, d2] }
  | _ => none }
def GradeJoinedWrongFalsely : Prop := gradeJoinedRow.holds Try.pinned (OpenSpec.ofChange gradeJoinedWrong)

/-- 'vitolalaw03.GradeCoded': WHATEVER THE INPUT: true; the input reads as it did. -/
def gradeCodedSpec : ChangeSpec := { name := "gradeCoded", fn := fun _ => fun
  | [d1, d2, d3, d4] => { results := [.lit (.bool true)], args := [d1, d2, d3, d4] }
  | _ => none }
def gradeCodedRow : OpenClaim := { program := "ytmcckngodaeojaa", sum := "219931bf6fa2a26f94648f605803bde48e6e66a09ffec10759b5979c8ebfb97a", func := "vitola/vitolalaw03.GradeCoded", spec := "gradeCoded", unfollowed := true, recurses := true, apart := false }
def GradeCodedSaid : Prop := gradeCodedRow.holds Try.pinned (OpenSpec.ofChange gradeCodedSpec)

/-- ITS FALSE NEIGHBOUR: 'it returns false'. Refute it at one input. -/
def gradeCodedWrong : ChangeSpec := { name := "gradeCoded", fn := fun _ => fun
  | [d1, d2, d3, d4] => { results := [.lit (.bool false)], args := [d1, d2, d3, d4] }
  | _ => none }
def GradeCodedWrongFalsely : Prop := gradeCodedRow.holds Try.pinned (OpenSpec.ofChange gradeCodedWrong)

/-- 'vitolalaw03.GradeCodes': WHATEVER THE INPUT: true; the input reads as it did. -/
def gradeCodesSpec : ChangeSpec := { name := "gradeCodes", fn := fun _ => fun
  | [d1, d2] => { results := [.lit (.bool true)], args := [d1, d2] }
  | _ => none }
def gradeCodesRow : OpenClaim := { program := "ytmcckngodaeojaa", sum := "219931bf6fa2a26f94648f605803bde48e6e66a09ffec10759b5979c8ebfb97a", func := "vitola/vitolalaw03.GradeCodes", spec := "gradeCodes", unfollowed := true, recurses := true, apart := false }
def GradeCodesSaid : Prop := gradeCodesRow.holds Try.pinned (OpenSpec.ofChange gradeCodesSpec)

/-- ITS FALSE NEIGHBOUR: 'it returns false'. Refute it at one input. -/
def gradeCodesWrong : ChangeSpec := { name := "gradeCodes", fn := fun _ => fun
  | [d1, d2] => { results := [.lit (.bool false)], args := [d1, d2] }
  | _ => none }
def GradeCodesWrongFalsely : Prop := gradeCodesRow.holds Try.pinned (OpenSpec.ofChange gradeCodesWrong)

/-- 'vitolalaw03.GradeAbsorbs': WHATEVER THE INPUT: true; the input reads as it did. -/
def gradeAbsorbsSpec : ChangeSpec := { name := "gradeAbsorbs", fn := fun _ => fun
  | [d] => { results := [.lit (.bool true)], args := [d] }
  | _ => none }
def gradeAbsorbsRow : OpenClaim := { program := "ytmcckngodaeojaa", sum := "219931bf6fa2a26f94648f605803bde48e6e66a09ffec10759b5979c8ebfb97a", func := "vitola/vitolalaw03.GradeAbsorbs", spec := "gradeAbsorbs", unfollowed := true, recurses := true, apart := false }
def GradeAbsorbsSaid : Prop := gradeAbsorbsRow.holds Try.pinned (OpenSpec.ofChange gradeAbsorbsSpec)

/-- ITS FALSE NEIGHBOUR: 'it returns false'. Refute it at one input. -/
def gradeAbsorbsWrong : ChangeSpec := { name := "gradeAbsorbs", fn := fun _ => fun
  | [d] => { results := [.lit (.bool false)], args := [d] }
  | _ => none }
def GradeAbsorbsWrongFalsely : Prop := gradeAbsorbsRow.holds Try.pinned (OpenSpec.ofChange gradeAbsorbsWrong)

/-- 'vitolalaw03.GradeKnown': WHATEVER THE INPUT: true; the input reads as it did. -/
def gradeKnownSpec : ChangeSpec := { name := "gradeKnown", fn := fun _ => fun
  | [] => { results := [.lit (.bool true)], args := [] }
  | _ => none }
def gradeKnownRow : OpenClaim := { program := "ytmcckngodaeojaa", sum := "219931bf6fa2a26f94648f605803bde48e6e66a09ffec10759b5979c8ebfb97a", func := "vitola/vitolalaw03.GradeKnown", spec := "gradeKnown", unfollowed := true, recurses := true, apart := false }
def GradeKnownSaid : Prop := gradeKnownRow.holds Try.pinned (OpenSpec.ofChange gradeKnownSpec)

/-- ITS FALSE NEIGHBOUR: 'it returns false'. Refute it at one input. -/
def gradeKnownWrong : ChangeSpec := { name := "gradeKnown", fn := fun _ => fun
  | [] => { results := [.lit (.bool false)], args := [] }
  | _ => none }
def GradeKnownWrongFalsely : Prop := gradeKnownRow.holds Try.pinned (OpenSpec.ofChange gradeKnownWrong)

/-- 'vitolalaw03.GradeTurned': WHATEVER THE INPUT: true; the input reads as it did. -/
def gradeTurnedSpec : ChangeSpec := { name := "gradeTurned", fn := fun _ => fun
  | [d] => { results := [.lit (.bool true)], args := [d] }
  | _ => none }
def gradeTurnedRow : OpenClaim := { program := "ytmcckngodaeojaa", sum := "219931bf6fa2a26f94648f605803bde48e6e66a09ffec10759b5979c8ebfb97a", func := "vitola/vitolalaw03.GradeTurned", spec := "gradeTurned", unfollowed := true, recurses := true, apart := false }
def GradeTurnedSaid : Prop := gradeTurnedRow.holds Try.pinned (OpenSpec.ofChange gradeTurnedSpec)

/-- ITS FALSE NEIGHBOUR: 'it returns false'. Refute it at one input. -/
def gradeTurnedWrong : ChangeSpec := { name := "gradeTurned", fn := fun _ => fun
  | [d] => { results := [.lit (.bool false)], args := [d] }
  | _ => none }
def GradeTurnedWrongFalsely : Prop := gradeTurnedRow.holds Try.pinned (OpenSpec.ofChange gradeTurnedWrong)

/-- 'vitolalaw03.GradeFoata': WHATEVER THE INPUT: true; the input reads as it did. -/
def gradeFoataSpec : ChangeSpec := { name := "gradeFoata", fn := fun _ => fun
  | [d] => { results := [.lit (.bool true)], args := [d] }
  | _ => none }
def gradeFoataRow : OpenClaim := { program := "ytmcckngodaeojaa", sum := "219931bf6fa2a26f94648f605803bde48e6e66a09ffec10759b5979c8ebfb97a", func := "vitola/vitolalaw03.GradeFoata", spec := "gradeFoata", unfollowed := true, recurses := true, apart := false }
def GradeFoataSaid : Prop := gradeFoataRow.holds Try.pinned (OpenSpec.ofChange gradeFoataSpec)

/-- ITS FALSE NEIGHBOUR: 'it returns false'. Refute it at one input. -/
def gradeFoataWrong : ChangeSpec := { name := "gradeFoata", fn := fun _ => fun
  | [d] => { results := [.lit (.bool false)], args := [d] }
  | _ => none }
def GradeFoataWrongFalsely : Prop := gradeFoataRow.holds Try.pinned (OpenSpec.ofChange gradeFoataWrong)

/-- 'vitolalaw03.GradeLines': WHATEVER THE INPUT: true; the input reads as it did. -/
def gradeLinesSpec : ChangeSpec := { name := "gradeLines", fn := fun _ => fun
  | [d] => { results := [.lit (.bool true)], args := [d] }
  | _ => none }
def gradeLinesRow : OpenClaim := { program := "ytmcckngodaeojaa", sum := "219931bf6fa2a26f94648f605803bde48e6e66a09ffec10759b5979c8ebfb97a", func := "vitola/vitolalaw03.GradeLines", spec := "gradeLines", unfollowed := true, recurses := true, apart := false }
def GradeLinesSaid : Prop := gradeLinesRow.holds Try.pinned (OpenSpec.ofChange gradeLinesSpec)

/-- ITS FALSE NEIGHBOUR: 'it returns false'. Refute it at one input. -/
def gradeLinesWrong : ChangeSpec := { name := "gradeLines", fn := fun _ => fun
  | [d] => { results := [.lit (.bool false)], args := [d] }
  | _ => none }
def GradeLinesWrongFalsely : Prop := gradeLinesRow.holds Try.pinned (OpenSpec.ofChange gradeLinesWrong)

/-- 'vitolalaw03.GradeLeast': WHATEVER THE INPUT: true; the input reads as it did. -/
def gradeLeastSpec : ChangeSpec := { name := "gradeLeast", fn := fun _ => fun
  | [d] => { results := [.lit (.bool true)], args := [d] }
  | _ => none }
def gradeLeastRow : OpenClaim := { program := "ytmcckngodaeojaa", sum := "219931bf6fa2a26f94648f605803bde48e6e66a09ffec10759b5979c8ebfb97a", func := "vitola/vitolalaw03.GradeLeast", spec := "gradeLeast", unfollowed := true, recurses := true, apart := false }
def GradeLeastSaid : Prop := gradeLeastRow.holds Try.pinned (OpenSpec.ofChange gradeLeastSpec)

/-- ITS FALSE NEIGHBOUR: 'it returns false'. Refute it at one input. -/
def gradeLeastWrong : ChangeSpec := { name := "gradeLeast", fn := fun _ => fun
  | [d] => { results := [.lit (.bool false)], args := [d] }
  | _ => none }
def GradeLeastWrongFalsely : Prop := gradeLeastRow.holds Try.pinned (OpenSpec.ofChange gradeLeastWrong)

/-- 'vitolalaw03.GradeExchanges': WHATEVER THE INPUT: true; the input reads as it did. -/
def gradeExchangesSpec : ChangeSpec := { name := "gradeExchanges", fn := fun _ => fun
  | [d] => { results := [.lit (.bool true)], args := [d] }
  | _ => none }
def gradeExchangesRow : OpenClaim := { program := "ytmcckngodaeojaa", sum := "219931bf6fa2a26f94648f605803bde48e6e66a09ffec10759b5979c8ebfb97a", func := "vitola/vitolalaw03.GradeExchanges", spec := "gradeExchanges", unfollowed := true, recurses := true, apart := false }
def GradeExchangesSaid : Prop := gradeExchangesRow.holds Try.pinned (OpenSpec.ofChange gradeExchangesSpec)

/-- ITS FALSE NEIGHBOUR: 'it returns false'. Refute it at one input. -/
def gradeExchangesWrong : ChangeSpec := { name := "gradeExchanges", fn := fun _ => fun
  | [d] => { results := [.lit (.bool false)], args := [d] }
  | _ => none }
def GradeExchangesWrongFalsely : Prop := gradeExchangesRow.holds Try.pinned (OpenSpec.ofChange gradeExchangesWrong)

/- THE SECOND FORM. 'bulk': how many values and letters a reading holds, each counted each time it is reached (what is shared counts as often as it is met; a slice's spare places count too). A statement '..UptoSaid' is the law's where the arguments, and the package variables that the reading takes, are together of bulk at most 1048576: NARROWER than '..Said'. Prove '..Said' where nothing that the law and all that it calls make is longer than what came in: it says more and counts as full. Else prove '..UptoSaid'. A law counts once. -/
mutual
def uptoBulk {H : Type} : DataW H → Nat
  | .lit (.string bytes) => bytes.length + 1
  | .lit _ => 1
  | .nil => 1
  | .ptr d => uptoBulk d + 1
  | .slice elems spare => uptoBulkAll elems + uptoBulkAll spare + 1
  | .agg parts => uptoBulkAll parts + 1
  | .iface _ d => uptoBulk d + 1
  | .map entries => uptoBulkEntries entries + 1
  | .held _ => 1
def uptoBulkAll {H : Type} : List (DataW H) → Nat
  | [] => 0
  | d :: r => uptoBulk d + uptoBulkAll r
def uptoBulkEntries {H : Type} : List (Lit × DataW H) → Nat
  | [] => 0
  | x :: r => uptoBulkEntry x + uptoBulkEntries r
def uptoBulkEntry {H : Type} : Lit × DataW H → Nat
  | (.string bytes, d) => bytes.length + uptoBulk d + 1
  | (_, d) => uptoBulk d + 1
 end
def uptoSmall : (H : Type) → List (DataW H) → Bool := fun _ ds => decide (uptoBulkAll ds ≤ 1048576)
def OpenSpec.upto (s : _root_.Go.ChangeSpec) : _root_.Go.OpenSpec := { _root_.Go.OpenSpec.ofChange s with cond := some uptoSmall }

/-- 'vitolalaw03.GradeDiffers', WHERE WHAT IT READS IS OF BULK AT MOST 1048576: true; the input reads as it did. -/
def gradeDiffersUptoRow : OpenClaim := { program := "ytmcckngodaeojaa", sum := "219931bf6fa2a26f94648f605803bde48e6e66a09ffec10759b5979c8ebfb97a", func := "vitola/vitolalaw03.GradeDiffers", spec := "gradeDiffers", unfollowed := true, recurses := true, apart := false, narrowed := true }
def GradeDiffersUptoSaid : Prop := gradeDiffersUptoRow.holds Try.pinned (OpenSpec.upto gradeDiffersSpec)

/-- 'vitolalaw03.GradeBetweens', WHERE WHAT IT READS IS OF BULK AT MOST 1048576: true; the input reads as it did. -/
def gradeBetweensUptoRow : OpenClaim := { program := "ytmcckngodaeojaa", sum := "219931bf6fa2a26f94648f605803bde48e6e66a09ffec10759b5979c8ebfb97a", func := "vitola/vitolalaw03.GradeBetweens", spec := "gradeBetweens", unfollowed := true, recurses := true, apart := false, narrowed := true }
def GradeBetweensUptoSaid : Prop := gradeBetweensUptoRow.holds Try.pinned (OpenSpec.upto gradeBetweensSpec)

/-- 'vitolalaw03.GradeJoined', WHERE WHAT IT READS IS OF BULK AT MOST 1048576: true; the input reads as it did. -/
def gradeJoinedUptoRow : OpenClaim := { program := "ytmcckngodaeojaa", sum := "219931bf6fa2a26f94648f605803bde48e6e66a09ffec10759b5979c8ebfb97a", func := "vitola/vitolalaw03.GradeJoined", spec := "gradeJoined", unfollowed := true, recurses := true, apart := false, narrowed := true }
def GradeJoinedUptoSaid : Prop := gradeJoinedUptoRow.holds Try.pinned (OpenSpec.upto gradeJoinedSpec)

/-- 'vitolalaw03.GradeCoded', WHERE WHAT IT READS IS OF BULK AT MOST 1048576: true; the input reads as it did. -/
def gradeCodedUptoRow : OpenClaim := { program := "ytmcckngodaeojaa", sum := "219931bf6fa2a26f94648f605803bde48e6e66a09ffec10759b5979c8ebfb97a", func := "vitola/vitolalaw03.GradeCoded", spec := "gradeCoded", unfollowed := true, recurses := true, apart := false, narrowed := true }
def GradeCodedUptoSaid : Prop := gradeCodedUptoRow.holds Try.pinned (OpenSpec.upto gradeCodedSpec)

/-- 'vitolalaw03.GradeCodes', WHERE WHAT IT READS IS OF BULK AT MOST 1048576: true; the input reads as it did. -/
def gradeCodesUptoRow : OpenClaim := { program := "ytmcckngodaeojaa", sum := "219931bf6fa2a26f94648f605803bde48e6e66a09ffec10759b5979c8ebfb97a", func := "vitola/vitolalaw03.GradeCodes", spec := "gradeCodes", unfollowed := true, recurses := true, apart := false, narrowed := true }
def GradeCodesUptoSaid : Prop := gradeCodesUptoRow.holds Try.pinned (OpenSpec.upto gradeCodesSpec)

/-- 'vitolalaw03.GradeAbsorbs', WHERE WHAT IT READS IS OF BULK AT MOST 1048576: true; the input reads as it did. -/
def gradeAbsorbsUptoRow : OpenClaim := { program := "ytmcckngodaeojaa", sum := "219931bf6fa2a26f94648f605803bde48e6e66a09ffec10759b5979c8ebfb97a", func := "vitola/vitolalaw03.GradeAbsorbs", spec := "gradeAbsorbs", unfollowed := true, recurses := true, apart := false, narrowed := true }
def GradeAbsorbsUptoSaid : Prop := gradeAbsorbsUptoRow.holds Try.pinned (OpenSpec.upto gradeAbsorbsSpec)

/-- 'vitolalaw03.GradeKnown', WHERE WHAT IT READS IS OF BULK AT MOST 1048576: true; the input reads as it did. -/
def gradeKnownUptoRow : OpenClaim := { program := "ytmcckngodaeojaa", sum := "219931bf6fa2a26f94648f605803bde48e6e66a09ffec10759b5979c8ebfb97a", func := "vitola/vitolalaw03.GradeKnown", spec := "gradeKnown", unfollowed := true, recurses := true, apart := false, narrowed := true }
def GradeKnownUptoSaid : Prop := gradeKnownUptoRow.holds Try.pinned (OpenSpec.upto gradeKnownSpec)

/-- 'vitolalaw03.GradeTurned', WHERE WHAT IT READS IS OF BULK AT MOST 1048576: true; the input reads as it did. -/
def gradeTurnedUptoRow : OpenClaim := { program := "ytmcckngodaeojaa", sum := "219931bf6fa2a26f94648f605803bde48e6e66a09ffec10759b5979c8ebfb97a", func := "vitola/vitolalaw03.GradeTurned", spec := "gradeTurned", unfollowed := true, recurses := true, apart := false, narrowed := true }
def GradeTurnedUptoSaid : Prop := gradeTurnedUptoRow.holds Try.pinned (OpenSpec.upto gradeTurnedSpec)

/-- 'vitolalaw03.GradeFoata', WHERE WHAT IT READS IS OF BULK AT MOST 1048576: true; the input reads as it did. -/
def gradeFoataUptoRow : OpenClaim := { program := "ytmcckngodaeojaa", sum := "219931bf6fa2a26f94648f605803bde48e6e66a09ffec10759b5979c8ebfb97a", func := "vitola/vitolalaw03.GradeFoata", spec := "gradeFoata", unfollowed := true, recurses := true, apart := false, narrowed := true }
def GradeFoataUptoSaid : Prop := gradeFoataUptoRow.holds Try.pinned (OpenSpec.upto gradeFoataSpec)

/-- 'vitolalaw03.GradeLines', WHERE WHAT IT READS IS OF BULK AT MOST 1048576: true; the input reads as it did. -/
def gradeLinesUptoRow : OpenClaim := { program := "ytmcckngodaeojaa", sum := "219931bf6fa2a26f94648f605803bde48e6e66a09ffec10759b5979c8ebfb97a", func := "vitola/vitolalaw03.GradeLines", spec := "gradeLines", unfollowed := true, recurses := true, apart := false, narrowed := true }
def GradeLinesUptoSaid : Prop := gradeLinesUptoRow.holds Try.pinned (OpenSpec.upto gradeLinesSpec)

/-- 'vitolalaw03.GradeLeast', WHERE WHAT IT READS IS OF BULK AT MOST 1048576: true; the input reads as it did. -/
def gradeLeastUptoRow : OpenClaim := { program := "ytmcckngodaeojaa", sum := "219931bf6fa2a26f94648f605803bde48e6e66a09ffec10759b5979c8ebfb97a", func := "vitola/vitolalaw03.GradeLeast", spec := "gradeLeast", unfollowed := true, recurses := true, apart := false, narrowed := true }
def GradeLeastUptoSaid : Prop := gradeLeastUptoRow.holds Try.pinned (OpenSpec.upto gradeLeastSpec)

/-- 'vitolalaw03.GradeExchanges', WHERE WHAT IT READS IS OF BULK AT MOST 1048576: true; the input reads as it did. -/
def gradeExchangesUptoRow : OpenClaim := { program := "ytmcckngodaeojaa", sum := "219931bf6fa2a26f94648f605803bde48e6e66a09ffec10759b5979c8ebfb97a", func := "vitola/vitolalaw03.GradeExchanges", spec := "gradeExchanges", unfollowed := true, recurses := true, apart := false, narrowed := true }
def GradeExchangesUptoSaid : Prop := gradeExchangesUptoRow.holds Try.pinned (OpenSpec.upto gradeExchangesSpec)

end Rows
end Go.Proofs.Ytmcckngodaeojaa
