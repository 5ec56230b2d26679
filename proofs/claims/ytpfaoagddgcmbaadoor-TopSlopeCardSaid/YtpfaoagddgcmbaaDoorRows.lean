/-
  NARROWER THAN 'FOR EVERY INPUT', by the rows' own cells (each row's printed sentence says how): TopHeaped: laid · TopCoded: laid · TopHome: laid · TopSpaced: laid · TopSlope: laid · TopChosen: laid · TopMirrored: laid.
  DERIVED. THE GIVEN ROWS OF THIS SEAT. 7 by the template 'for every input the law returns true; each argument reads behind the call as it read before'; 0 by the template 'total and deterministic' (their statements: YtpfaoagddgcmbaaDoorTotals.lean).
  GIVEN WITH THE SEED: the statements are not yours to turn. If you find one false, say at which input.
  Laid BY PROGRAM, IN A SANDBOX (cutbox-rows.mjs): the forced cells as the released guide's own fill.sh prints them over the translation 2bb65822bbc8c58b… (all of the seat's roots in one cut). By AI agents, Wed Nov 11 2026. No macro, syntax, notation, axiom, sorry.
-/
import Derived.Test.YtpfaoagddgcmbaaDoorChecked
import GoSem.Claim
import GoSem.ClaimJoined
import GoSem.ClaimMapViews
import Derived.JoinedTies
import Derived.KernelRfl
namespace Go.Proofs.YtpfaoagddgcmbaaDoor
/- THE CELL 'sum', in the pinned program and in every row, IS THE sha256 OF THE DUMP (.gsa) THAT YtpfaoagddgcmbaaDoorProg.lean LOADS. Nothing in Lean hashes anything: it is a label: what it is worth is what the hold of that sum in a sandbox is worth. -/
noncomputable def Tryd.pinned : Pinned := { name := "ytpfaoagddgcmbaadoor", sum := "2bb65822bbc8c58bbe08ad0d87f9eeabe70a08522dc9780bf0de6750a4410dbd", checked := Tryd.checked }
namespace Rows
def none {H : Type} : Left H := { results := [], args := [] }

/- WHAT THE LISTED PACKAGE-LEVEL VARIABLES READ AS WHEN THE CALL BEGINS. Each datum BY PROGRAM (the guide's laid-datum.mjs) off the statement by which the dump's own 'gosem.cut.vars' lays the variable. In a bare row this is a premise. The card (YtpfaoagddgcmbaaDoorCards.lean) ties it to the program's text. -/
def laid_math_bits_deBruijn32tab {H : Type} : DataW H := .agg [.lit (.int .u8 0), .lit (.int .u8 1), .lit (.int .u8 28), .lit (.int .u8 2), .lit (.int .u8 29), .lit (.int .u8 14), .lit (.int .u8 24), .lit (.int .u8 3), .lit (.int .u8 30), .lit (.int .u8 22), .lit (.int .u8 20), .lit (.int .u8 15), .lit (.int .u8 25), .lit (.int .u8 17), .lit (.int .u8 4), .lit (.int .u8 8), .lit (.int .u8 31), .lit (.int .u8 27), .lit (.int .u8 13), .lit (.int .u8 23), .lit (.int .u8 21), .lit (.int .u8 19), .lit (.int .u8 16), .lit (.int .u8 7), .lit (.int .u8 26), .lit (.int .u8 12), .lit (.int .u8 18), .lit (.int .u8 6), .lit (.int .u8 11), .lit (.int .u8 5), .lit (.int .u8 10), .lit (.int .u8 9)]
def laid_math_bits_deBruijn64tab {H : Type} : DataW H := .agg [.lit (.int .u8 0), .lit (.int .u8 1), .lit (.int .u8 56), .lit (.int .u8 2), .lit (.int .u8 57), .lit (.int .u8 49), .lit (.int .u8 28), .lit (.int .u8 3), .lit (.int .u8 61), .lit (.int .u8 58), .lit (.int .u8 42), .lit (.int .u8 50), .lit (.int .u8 38), .lit (.int .u8 29), .lit (.int .u8 17), .lit (.int .u8 4), .lit (.int .u8 62), .lit (.int .u8 47), .lit (.int .u8 59), .lit (.int .u8 36), .lit (.int .u8 45), .lit (.int .u8 43), .lit (.int .u8 51), .lit (.int .u8 22), .lit (.int .u8 53), .lit (.int .u8 39), .lit (.int .u8 33), .lit (.int .u8 30), .lit (.int .u8 24), .lit (.int .u8 18), .lit (.int .u8 12), .lit (.int .u8 5), .lit (.int .u8 63), .lit (.int .u8 55), .lit (.int .u8 48), .lit (.int .u8 27), .lit (.int .u8 60), .lit (.int .u8 41), .lit (.int .u8 37), .lit (.int .u8 16), .lit (.int .u8 46), .lit (.int .u8 35), .lit (.int .u8 44), .lit (.int .u8 21), .lit (.int .u8 52), .lit (.int .u8 32), .lit (.int .u8 23), .lit (.int .u8 11), .lit (.int .u8 54), .lit (.int .u8 26), .lit (.int .u8 40), .lit (.int .u8 15), .lit (.int .u8 34), .lit (.int .u8 20), .lit (.int .u8 31), .lit (.int .u8 10), .lit (.int .u8 25), .lit (.int .u8 14), .lit (.int .u8 19), .lit (.int .u8 9), .lit (.int .u8 13), .lit (.int .u8 8), .lit (.int .u8 7), .lit (.int .u8 6)]

/-- 'vitolatop.TopHeaped': WHATEVER THE INPUT: true; the input reads as it did. -/
def topHeapedSpec : ChangeSpec := { name := "topHeaped", fn := fun _ => fun
  | [d1, d2, d3] => { results := [.lit (.bool true)], args := [d1, d2, d3] }
  | _ => none }
def topHeapedRow : OpenClaim := { program := "ytpfaoagddgcmbaadoor", sum := "2bb65822bbc8c58bbe08ad0d87f9eeabe70a08522dc9780bf0de6750a4410dbd", func := "vitola/vitolatop.TopHeaped", spec := "topHeaped", unfollowed := true, recurses := true, named := ["math/bits.deBruijn32tab", "math/bits.deBruijn64tab"], apart := false, laid := [("math/bits.deBruijn32tab", laid_math_bits_deBruijn32tab), ("math/bits.deBruijn64tab", laid_math_bits_deBruijn64tab)] }
def TopHeapedSaid : Prop := topHeapedRow.holds Tryd.pinned (OpenSpec.ofChange topHeapedSpec)

/-- ITS FALSE NEIGHBOUR: 'it returns false'. Refute it at one input. -/
def topHeapedWrong : ChangeSpec := { name := "topHeaped", fn := fun _ => fun
  | [d1, d2, d3] => { results := [.lit (.bool false)], args := [d1, d2, d3] }
  | _ => none }
def TopHeapedWrongFalsely : Prop := topHeapedRow.holds Tryd.pinned (OpenSpec.ofChange topHeapedWrong)

/-- 'vitolatop.TopCoded': WHATEVER THE INPUT: true; the input reads as it did. -/
def topCodedSpec : ChangeSpec := { name := "topCoded", fn := fun _ => fun
  | [d1, d2] => { results := [.lit (.bool true)], args := [d1, d2] }
  | _ => none }
def topCodedRow : OpenClaim := { program := "ytpfaoagddgcmbaadoor", sum := "2bb65822bbc8c58bbe08ad0d87f9eeabe70a08522dc9780bf0de6750a4410dbd", func := "vitola/vitolatop.TopCoded", spec := "topCoded", unfollowed := true, recurses := true, named := ["math/bits.deBruijn32tab", "math/bits.deBruijn64tab"], apart := false, laid := [("math/bits.deBruijn32tab", laid_math_bits_deBruijn32tab), ("math/bits.deBruijn64tab", laid_math_bits_deBruijn64tab)] }
def TopCodedSaid : Prop := topCodedRow.holds Tryd.pinned (OpenSpec.ofChange topCodedSpec)

/-- ITS FALSE NEIGHBOUR: 'it returns false'. Refute it at one input. -/
def topCodedWrong : ChangeSpec := { name := "topCoded", fn := fun _ => fun
  | [d1, d2] => { results := [.lit (.bool false)], args := [d1, d2] }
  | _ => none }
def TopCodedWrongFalsely : Prop := topCodedRow.holds Tryd.pinned (OpenSpec.ofChange topCodedWrong)

/-- 'vitolatop.TopHome': WHATEVER THE INPUT: true; the input reads as it did. -/
def topHomeSpec : ChangeSpec := { name := "topHome", fn := fun _ => fun
  | [d1, d2, d3] => { results := [.lit (.bool true)], args := [d1, d2, d3] }
  | _ => none }
def topHomeRow : OpenClaim := { program := "ytpfaoagddgcmbaadoor", sum := "2bb65822bbc8c58bbe08ad0d87f9eeabe70a08522dc9780bf0de6750a4410dbd", func := "vitola/vitolatop.TopHome", spec := "topHome", unfollowed := true, recurses := true, named := ["math/bits.deBruijn32tab", "math/bits.deBruijn64tab"], apart := false, laid := [("math/bits.deBruijn32tab", laid_math_bits_deBruijn32tab), ("math/bits.deBruijn64tab", laid_math_bits_deBruijn64tab)] }
def TopHomeSaid : Prop := topHomeRow.holds Tryd.pinned (OpenSpec.ofChange topHomeSpec)

/-- ITS FALSE NEIGHBOUR: 'it returns false'. Refute it at one input. -/
def topHomeWrong : ChangeSpec := { name := "topHome", fn := fun _ => fun
  | [d1, d2, d3] => { results := [.lit (.bool false)], args := [d1, d2, d3] }
  | _ => none }
def TopHomeWrongFalsely : Prop := topHomeRow.holds Tryd.pinned (OpenSpec.ofChange topHomeWrong)

/-- 'vitolatop.TopSpaced': WHATEVER THE INPUT: true; the input reads as it did. -/
def topSpacedSpec : ChangeSpec := { name := "topSpaced", fn := fun _ => fun
  | [d1, d2] => { results := [.lit (.bool true)], args := [d1, d2] }
  | _ => none }
def topSpacedRow : OpenClaim := { program := "ytpfaoagddgcmbaadoor", sum := "2bb65822bbc8c58bbe08ad0d87f9eeabe70a08522dc9780bf0de6750a4410dbd", func := "vitola/vitolatop.TopSpaced", spec := "topSpaced", inPlace := ["internal/abi.NoEscape"], unfollowed := true, recurses := true, named := ["math/bits.deBruijn32tab", "math/bits.deBruijn64tab"], apart := false, laid := [("math/bits.deBruijn32tab", laid_math_bits_deBruijn32tab), ("math/bits.deBruijn64tab", laid_math_bits_deBruijn64tab)] }
def TopSpacedSaid : Prop := topSpacedRow.holds Tryd.pinned (OpenSpec.ofChange topSpacedSpec)

/-- ITS FALSE NEIGHBOUR: 'it returns false'. Refute it at one input. -/
def topSpacedWrong : ChangeSpec := { name := "topSpaced", fn := fun _ => fun
  | [d1, d2] => { results := [.lit (.bool false)], args := [d1, d2] }
  | _ => none }
def TopSpacedWrongFalsely : Prop := topSpacedRow.holds Tryd.pinned (OpenSpec.ofChange topSpacedWrong)

/-- 'vitolatop.TopSlope': WHATEVER THE INPUT: true; the input reads as it did. -/
def topSlopeSpec : ChangeSpec := { name := "topSlope", fn := fun _ => fun
  | [d1, d2, d3] => { results := [.lit (.bool true)], args := [d1, d2, d3] }
  | _ => none }
def topSlopeRow : OpenClaim := { program := "ytpfaoagddgcmbaadoor", sum := "2bb65822bbc8c58bbe08ad0d87f9eeabe70a08522dc9780bf0de6750a4410dbd", func := "vitola/vitolatop.TopSlope", spec := "topSlope", unfollowed := true, recurses := true, named := ["math/bits.deBruijn32tab", "math/bits.deBruijn64tab"], apart := false, laid := [("math/bits.deBruijn32tab", laid_math_bits_deBruijn32tab), ("math/bits.deBruijn64tab", laid_math_bits_deBruijn64tab)] }
def TopSlopeSaid : Prop := topSlopeRow.holds Tryd.pinned (OpenSpec.ofChange topSlopeSpec)

/-- ITS FALSE NEIGHBOUR: 'it returns false'. Refute it at one input. -/
def topSlopeWrong : ChangeSpec := { name := "topSlope", fn := fun _ => fun
  | [d1, d2, d3] => { results := [.lit (.bool false)], args := [d1, d2, d3] }
  | _ => none }
def TopSlopeWrongFalsely : Prop := topSlopeRow.holds Tryd.pinned (OpenSpec.ofChange topSlopeWrong)

/-- 'vitolatop.TopChosen': WHATEVER THE INPUT: true; the input reads as it did. -/
def topChosenSpec : ChangeSpec := { name := "topChosen", fn := fun _ => fun
  | [d1, d2, d3] => { results := [.lit (.bool true)], args := [d1, d2, d3] }
  | _ => none }
def topChosenRow : OpenClaim := { program := "ytpfaoagddgcmbaadoor", sum := "2bb65822bbc8c58bbe08ad0d87f9eeabe70a08522dc9780bf0de6750a4410dbd", func := "vitola/vitolatop.TopChosen", spec := "topChosen", unfollowed := true, recurses := true, named := ["math/bits.deBruijn32tab", "math/bits.deBruijn64tab"], apart := false, laid := [("math/bits.deBruijn32tab", laid_math_bits_deBruijn32tab), ("math/bits.deBruijn64tab", laid_math_bits_deBruijn64tab)] }
def TopChosenSaid : Prop := topChosenRow.holds Tryd.pinned (OpenSpec.ofChange topChosenSpec)

/-- ITS FALSE NEIGHBOUR: 'it returns false'. Refute it at one input. -/
def topChosenWrong : ChangeSpec := { name := "topChosen", fn := fun _ => fun
  | [d1, d2, d3] => { results := [.lit (.bool false)], args := [d1, d2, d3] }
  | _ => none }
def TopChosenWrongFalsely : Prop := topChosenRow.holds Tryd.pinned (OpenSpec.ofChange topChosenWrong)

/-- 'vitolatop.TopMirrored': WHATEVER THE INPUT: true; the input reads as it did. -/
def topMirroredSpec : ChangeSpec := { name := "topMirrored", fn := fun _ => fun
  | [d1, d2] => { results := [.lit (.bool true)], args := [d1, d2] }
  | _ => none }
def topMirroredRow : OpenClaim := { program := "ytpfaoagddgcmbaadoor", sum := "2bb65822bbc8c58bbe08ad0d87f9eeabe70a08522dc9780bf0de6750a4410dbd", func := "vitola/vitolatop.TopMirrored", spec := "topMirrored", unfollowed := true, recurses := true, named := ["math/bits.deBruijn32tab", "math/bits.deBruijn64tab"], apart := false, laid := [("math/bits.deBruijn32tab", laid_math_bits_deBruijn32tab), ("math/bits.deBruijn64tab", laid_math_bits_deBruijn64tab)] }
def TopMirroredSaid : Prop := topMirroredRow.holds Tryd.pinned (OpenSpec.ofChange topMirroredSpec)

/-- ITS FALSE NEIGHBOUR: 'it returns false'. Refute it at one input. -/
def topMirroredWrong : ChangeSpec := { name := "topMirrored", fn := fun _ => fun
  | [d1, d2] => { results := [.lit (.bool false)], args := [d1, d2] }
  | _ => none }
def TopMirroredWrongFalsely : Prop := topMirroredRow.holds Tryd.pinned (OpenSpec.ofChange topMirroredWrong)

/- THE SECOND FORM. 'bulk': how many values and letters a reading holds, each counted each time it is reached (what is shared counts as often as it is met; a slice's spare places count too). A statement '..UptoSaid' is the law's where the arguments, and the package variables that the reading takes, are together of bulk at most 1048576: NARROWER than '..Said'. Prove '..Said' where nothing that the law and all that it calls make is longer than what came in: it says more and counts as full. Else prove '..UptoSaid'. A law counts once. -/
mutual
def uptoBulk {H : Type} : DataW H → Nat
  | .lit (.string bytes) => bytes.length + 1
  | .lit _ => 1
  | .nil => 1
  | .ptr d => uptoBulk d + 1
  | .slice elems spare => uptoBulkAll elems + uptoBulkAll spare + 1
  | .agg parts => uptoBulkAll parts + 1
  | .iface _ d => uptoBulk d + 1
  | .map entries => uptoBulkEntries entries + 1
  | .held _ => 1
def uptoBulkAll {H : Type} : List (DataW H) → Nat
  | [] => 0
  | d :: r => uptoBulk d + uptoBulkAll r
def uptoBulkEntries {H : Type} : List (Lit × DataW H) → Nat
  | [] => 0
  | x :: r => uptoBulkEntry x + uptoBulkEntries r
def uptoBulkEntry {H : Type} : Lit × DataW H → Nat
  | (.string bytes, d) => bytes.length + uptoBulk d + 1
  | (_, d) => uptoBulk d + 1
 end
def uptoSmall : (H : Type) → List (DataW H) → Bool := fun _ ds => decide (uptoBulkAll ds ≤ 1048576)
def OpenSpec.upto (s : _root_.Go.ChangeSpec) : _root_.Go.OpenSpec := { _root_.Go.OpenSpec.ofChange s with cond := some uptoSmall }

/-- 'vitolatop.TopHeaped', WHERE WHAT IT READS IS OF BULK AT MOST 1048576: true; the input reads as it did. -/
def topHeapedUptoRow : OpenClaim := { program := "ytpfaoagddgcmbaadoor", sum := "2bb65822bbc8c58bbe08ad0d87f9eeabe70a08522dc9780bf0de6750a4410dbd", func := "vitola/vitolatop.TopHeaped", spec := "topHeaped", unfollowed := true, recurses := true, named := ["math/bits.deBruijn32tab", "math/bits.deBruijn64tab"], apart := false, laid := [("math/bits.deBruijn32tab", laid_math_bits_deBruijn32tab), ("math/bits.deBruijn64tab", laid_math_bits_deBruijn64tab)], narrowed := true }
def TopHeapedUptoSaid : Prop := topHeapedUptoRow.holds Tryd.pinned (OpenSpec.upto topHeapedSpec)

/-- 'vitolatop.TopCoded', WHERE WHAT IT READS IS OF BULK AT MOST 1048576: true; the input reads as it did. -/
def topCodedUptoRow : OpenClaim := { program := "ytpfaoagddgcmbaadoor", sum := "2bb65822bbc8c58bbe08ad0d87f9eeabe70a08522dc9780bf0de6750a4410dbd", func := "vitola/vitolatop.TopCoded", spec := "topCoded", unfollowed := true, recurses := true, named := ["math/bits.deBruijn32tab", "math/bits.deBruijn64tab"], apart := false, laid := [("math/bits.deBruijn32tab", laid_math_bits_deBruijn32tab), ("math/bits.deBruijn64tab", laid_math_bits_deBruijn64tab)], narrowed := true }
def TopCodedUptoSaid : Prop := topCodedUptoRow.holds Tryd.pinned (OpenSpec.upto topCodedSpec)

/-- 'vitolatop.TopHome', WHERE WHAT IT READS IS OF BULK AT MOST 1048576: true; the input reads as it did. -/
def topHomeUptoRow : OpenClaim := { program := "ytpfaoagddgcmbaadoor", sum := "2bb65822bbc8c58bbe08ad0d87f9eeabe70a08522dc9780bf0de6750a4410dbd", func := "vitola/vitolatop.TopHome", spec := "topHome", unfollowed := true, recurses := true, named := ["math/bits.deBruijn32tab", "math/bits.deBruijn64tab"], apart := false, laid := [("math/bits.deBruijn32tab", laid_math_bits_deBruijn32tab), ("math/bits.deBruijn64tab", laid_math_bits_deBruijn64tab)], narrowed := true }
def TopHomeUptoSaid : Prop := topHomeUptoRow.holds Tryd.pinned (OpenSpec.upto topHomeSpec)

/-- 'vitolatop.TopSpaced', WHERE WHAT IT READS IS OF BULK AT MOST 1048576: true; the input reads as it did. -/
def topSpacedUptoRow : OpenClaim := { program := "ytpfaoagddgcmbaadoor", sum := "2bb65822bbc8c58bbe08ad0d87f9eeabe70a08522dc9780bf0de6750a4410dbd", func := "vitola/vitolatop.TopSpaced", spec := "topSpaced", inPlace := ["internal/abi.NoEscape"], unfollowed := true, recurses := true, named := ["math/bits.deBruijn32tab", "math/bits.deBruijn64tab"], apart := false, laid := [("math/bits.deBruijn32tab", laid_math_bits_deBruijn32tab), ("math/bits.deBruijn64tab", laid_math_bits_deBruijn64tab)], narrowed := true }
def TopSpacedUptoSaid : Prop := topSpacedUptoRow.holds Tryd.pinned (OpenSpec.upto topSpacedSpec)

/-- 'vitolatop.TopSlope', WHERE WHAT IT READS IS OF BULK AT MOST 1048576: true; the input reads as it did. -/
def topSlopeUptoRow : OpenClaim := { program := "ytpfaoagddgcmbaadoor", sum := "2bb65822bbc8c58bbe08ad0d87f9eeabe70a08522dc9780bf0de6750a4410dbd", func := "vitola/vitolatop.TopSlope", spec := "topSlope", unfollowed := true, recurses := true, named := ["math/bits.deBruijn32tab", "math/bits.deBruijn64tab"], apart := false, laid := [("math/bits.deBruijn32tab", laid_math_bits_deBruijn32tab), ("math/bits.deBruijn64tab", laid_math_bits_deBruijn64tab)], narrowed := true }
def TopSlopeUptoSaid : Prop := topSlopeUptoRow.holds Tryd.pinned (OpenSpec.upto topSlopeSpec)

/-- 'vitolatop.TopChosen', WHERE WHAT IT READS IS OF BULK AT MOST 1048576: true; the input reads as it did. -/
def topChosenUptoRow : OpenClaim := { program := "ytpfaoagddgcmbaadoor", sum := "2bb65822bbc8c58bbe08ad0d87f9eeabe70a08522dc9780bf0de6750a4410dbd", func := "vitola/vitolatop.TopChosen", spec := "topChosen", unfollowed := true, recurses := true, named := ["math/bits.deBruijn32tab", "math/bits.deBruijn64tab"], apart := false, laid := [("math/bits.deBruijn32tab", laid_math_bits_deBruijn32tab), ("math/bits.deBruijn64tab", laid_math_bits_deBruijn64tab)], narrowed := true }
def TopChosenUptoSaid : Prop := topChosenUptoRow.holds Tryd.pinned (OpenSpec.upto topChosenSpec)

/-- 'vitolatop.TopMirrored', WHERE WHAT IT READS IS OF BULK AT MOST 1048576: true; the input reads as it did. -/
def topMirroredUptoRow : OpenClaim := { program := "ytpfaoagddgcmbaadoor", sum := "2bb65822bbc8c58bbe08ad0d87f9eeabe70a08522dc9780bf0de6750a4410dbd", func := "vitola/vitolatop.TopMirrored", spec := "topMirrored", unfollowed := true, recurses := true, named := ["math/bits.deBruijn32tab", "math/bits.deBruijn64tab"], apart := false, laid := [("math/bits.deBruijn32tab", laid_math_bits_deBruijn32tab), ("math/bits.deBruijn64tab", laid_math_bits_deBruijn64tab)], narrowed := true }
def TopMirroredUptoSaid : Prop := topMirroredUptoRow.holds Tryd.pinned (OpenSpec.upto topMirroredSpec)

end Rows
end Go.Proofs.YtpfaoagddgcmbaaDoor
