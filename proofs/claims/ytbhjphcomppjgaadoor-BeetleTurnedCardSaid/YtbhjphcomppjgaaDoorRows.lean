/-
  NARROWER THAN 'FOR EVERY INPUT', by the rows' own cells (each row's printed sentence says how): BeetleProves: laid · BeetlePlants: laid · BeetleKeeps: laid · BeetleSpreads: laid · BeetleKnown: laid · BeetleTurned: laid · BeetleMore: laid · BeetleReached: laid · BeetleSafe: laid · BeetleIdle: laid · BeetleOutline: laid · BeetleBlocks: laid · BeetleKept: laid.
  DERIVED. THE GIVEN ROWS OF THIS SEAT. 13 by the template 'for every input the law returns true; each argument reads behind the call as it read before'; 0 by the template 'total and deterministic' (their statements: YtbhjphcomppjgaaDoorTotals.lean).
  GIVEN WITH THE SEED: the statements are not yours to turn. If you find one false, say at which input.
  Laid BY PROGRAM, IN A SANDBOX (cutbox-rows.mjs): the forced cells as the released guide's own fill.sh prints them over the translation dae799175d8008ca… (all of the seat's roots in one cut). By AI agents, Wed Nov 11 2026. No macro, syntax, notation, axiom, sorry.
-/
import Derived.Test.YtbhjphcomppjgaaDoorChecked
import GoSem.Claim
import GoSem.ClaimJoined
import GoSem.ClaimMapViews
import Derived.JoinedTies
import Derived.KernelRfl
namespace Go.Proofs.YtbhjphcomppjgaaDoor
/- THE CELL 'sum', in the pinned program and in every row, IS THE sha256 OF THE DUMP (.gsa) THAT YtbhjphcomppjgaaDoorProg.lean LOADS. Nothing in Lean hashes anything: it is a label: what it is worth is what the hold of that sum in a sandbox is worth. -/
noncomputable def Tryd.pinned : Pinned := { name := "ytbhjphcomppjgaadoor", sum := "dae799175d8008caab758118480d58c579efa2cf68cc9d4d70f245c8d615636b", checked := Tryd.checked }
namespace Rows
def none {H : Type} : Left H := { results := [], args := [] }

/- WHAT THE LISTED PACKAGE-LEVEL VARIABLES READ AS WHEN THE CALL BEGINS. Each datum BY PROGRAM (the guide's laid-datum.mjs) off the statement by which the dump's own 'gosem.cut.vars' lays the variable. In a bare row this is a premise. The card (YtbhjphcomppjgaaDoorCards.lean) ties it to the program's text. -/
def laid_math_bits_deBruijn32tab {H : Type} : DataW H := .agg [.lit (.int .u8 0), .lit (.int .u8 1), .lit (.int .u8 28), .lit (.int .u8 2), .lit (.int .u8 29), .lit (.int .u8 14), .lit (.int .u8 24), .lit (.int .u8 3), .lit (.int .u8 30), .lit (.int .u8 22), .lit (.int .u8 20), .lit (.int .u8 15), .lit (.int .u8 25), .lit (.int .u8 17), .lit (.int .u8 4), .lit (.int .u8 8), .lit (.int .u8 31), .lit (.int .u8 27), .lit (.int .u8 13), .lit (.int .u8 23), .lit (.int .u8 21), .lit (.int .u8 19), .lit (.int .u8 16), .lit (.int .u8 7), .lit (.int .u8 26), .lit (.int .u8 12), .lit (.int .u8 18), .lit (.int .u8 6), .lit (.int .u8 11), .lit (.int .u8 5), .lit (.int .u8 10), .lit (.int .u8 9)]

/-- 'vitolalaw09.BeetleProves': WHATEVER THE INPUT: true; the input reads as it did. -/
def beetleProvesSpec : ChangeSpec := { name := "beetleProves", fn := fun _ => fun
  | [d1, d2] => { results := [.lit (.bool true)], args := [d1, d2] }
  | _ => none }
def beetleProvesRow : OpenClaim := { program := "ytbhjphcomppjgaadoor", sum := "dae799175d8008caab758118480d58c579efa2cf68cc9d4d70f245c8d615636b", func := "vitola/vitolalaw09.BeetleProves", spec := "beetleProves", unfollowed := true, recurses := true, named := ["math/bits.deBruijn32tab"], apart := false, laid := [("math/bits.deBruijn32tab", laid_math_bits_deBruijn32tab)] }
def BeetleProvesSaid : Prop := beetleProvesRow.holds Tryd.pinned (OpenSpec.ofChange beetleProvesSpec)

/-- ITS FALSE NEIGHBOUR: 'it returns false'. Refute it at one input. -/
def beetleProvesWrong : ChangeSpec := { name := "beetleProves", fn := fun _ => fun
  | [d1, d2] => { results := [.lit (.bool false)], args := [d1, d2] }
  | _ => none }
def BeetleProvesWrongFalsely : Prop := beetleProvesRow.holds Tryd.pinned (OpenSpec.ofChange beetleProvesWrong)

/-- 'vitolalaw09.BeetlePlants': WHATEVER THE INPUT: true; the input reads as it did. -/
def beetlePlantsSpec : ChangeSpec := { name := "beetlePlants", fn := fun _ => fun
  | [d1, d2] => { results := [.lit (.bool true)], args := [d1, d2] }
  | _ => none }
def beetlePlantsRow : OpenClaim := { program := "ytbhjphcomppjgaadoor", sum := "dae799175d8008caab758118480d58c579efa2cf68cc9d4d70f245c8d615636b", func := "vitola/vitolalaw09.BeetlePlants", spec := "beetlePlants", unfollowed := true, recurses := true, named := ["math/bits.deBruijn32tab"], apart := false, laid := [("math/bits.deBruijn32tab", laid_math_bits_deBruijn32tab)] }
def BeetlePlantsSaid : Prop := beetlePlantsRow.holds Tryd.pinned (OpenSpec.ofChange beetlePlantsSpec)

/-- ITS FALSE NEIGHBOUR: 'it returns false'. Refute it at one input. -/
def beetlePlantsWrong : ChangeSpec := { name := "beetlePlants", fn := fun _ => fun
  | [d1, d2] => { results := [.lit (.bool false)], args := [d1, d2] }
  | _ => none }
def BeetlePlantsWrongFalsely : Prop := beetlePlantsRow.holds Tryd.pinned (OpenSpec.ofChange beetlePlantsWrong)

/-- 'vitolalaw09.BeetleKeeps': WHATEVER THE INPUT: true; the input reads as it did. -/
def beetleKeepsSpec : ChangeSpec := { name := "beetleKeeps", fn := fun _ => fun
  | [d1, d2] => { results := [.lit (.bool true)], args := [d1, d2] }
  | _ => none }
def beetleKeepsRow : OpenClaim := { program := "ytbhjphcomppjgaadoor", sum := "dae799175d8008caab758118480d58c579efa2cf68cc9d4d70f245c8d615636b", func := "vitola/vitolalaw09.BeetleKeeps", spec := "beetleKeeps", unfollowed := true, recurses := true, named := ["math/bits.deBruijn32tab"], apart := false, laid := [("math/bits.deBruijn32tab", laid_math_bits_deBruijn32tab)] }
def BeetleKeepsSaid : Prop := beetleKeepsRow.holds Tryd.pinned (OpenSpec.ofChange beetleKeepsSpec)

/-- ITS FALSE NEIGHBOUR: 'it returns false'. Refute it at one input. -/
def beetleKeepsWrong : ChangeSpec := { name := "beetleKeeps", fn := fun _ => fun
  | [d1, d2] => { results := [.lit (.bool false)], args := [d1, d2] }
  | _ => none }
def BeetleKeepsWrongFalsely : Prop := beetleKeepsRow.holds Tryd.pinned (OpenSpec.ofChange beetleKeepsWrong)

/-- 'vitolalaw09.BeetleSpreads': WHATEVER THE INPUT: true; the input reads as it did. -/
def beetleSpreadsSpec : ChangeSpec := { name := "beetleSpreads", fn := fun _ => fun
  | [d] => { results := [.lit (.bool true)], args := [d] }
  | _ => none }
def beetleSpreadsRow : OpenClaim := { program := "ytbhjphcomppjgaadoor", sum := "dae799175d8008caab758118480d58c579efa2cf68cc9d4d70f245c8d615636b", func := "vitola/vitolalaw09.BeetleSpreads", spec := "beetleSpreads", unfollowed := true, recurses := true, named := ["math/bits.deBruijn32tab"], apart := false, laid := [("math/bits.deBruijn32tab", laid_math_bits_deBruijn32tab)] }
def BeetleSpreadsSaid : Prop := beetleSpreadsRow.holds Tryd.pinned (OpenSpec.ofChange beetleSpreadsSpec)

/-- ITS FALSE NEIGHBOUR: 'it returns false'. Refute it at one input. -/
def beetleSpreadsWrong : ChangeSpec := { name := "beetleSpreads", fn := fun _ => fun
  | [d] => { results := [.lit (.bool false)], args := [d] }
  | _ => none }
def BeetleSpreadsWrongFalsely : Prop := beetleSpreadsRow.holds Tryd.pinned (OpenSpec.ofChange beetleSpreadsWrong)

/-- 'vitolalaw09.BeetleKnown': WHATEVER THE INPUT: true; the input reads as it did. -/
def beetleKnownSpec : ChangeSpec := { name := "beetleKnown", fn := fun _ => fun
  | [] => { results := [.lit (.bool true)], args := [] }
  | _ => none }
def beetleKnownRow : OpenClaim := { program := "ytbhjphcomppjgaadoor", sum := "dae799175d8008caab758118480d58c579efa2cf68cc9d4d70f245c8d615636b", func := "vitola/vitolalaw09.BeetleKnown", spec := "beetleKnown", unfollowed := true, recurses := true, named := ["math/bits.deBruijn32tab"], apart := false, laid := [("math/bits.deBruijn32tab", laid_math_bits_deBruijn32tab)] }
def BeetleKnownSaid : Prop := beetleKnownRow.holds Tryd.pinned (OpenSpec.ofChange beetleKnownSpec)

/-- ITS FALSE NEIGHBOUR: 'it returns false'. Refute it at one input. -/
def beetleKnownWrong : ChangeSpec := { name := "beetleKnown", fn := fun _ => fun
  | [] => { results := [.lit (.bool false)], args := [] }
  | _ => none }
def BeetleKnownWrongFalsely : Prop := beetleKnownRow.holds Tryd.pinned (OpenSpec.ofChange beetleKnownWrong)

/-- 'vitolalaw09.BeetleTurned': WHATEVER THE INPUT: true; the input reads as it did. -/
def beetleTurnedSpec : ChangeSpec := { name := "beetleTurned", fn := fun _ => fun
  | [d] => { results := [.lit (.bool true)], args := [d] }
  | _ => none }
def beetleTurnedRow : OpenClaim := { program := "ytbhjphcomppjgaadoor", sum := "dae799175d8008caab758118480d58c579efa2cf68cc9d4d70f245c8d615636b", func := "vitola/vitolalaw09.BeetleTurned", spec := "beetleTurned", unfollowed := true, recurses := true, named := ["math/bits.deBruijn32tab"], apart := false, laid := [("math/bits.deBruijn32tab", laid_math_bits_deBruijn32tab)] }
def BeetleTurnedSaid : Prop := beetleTurnedRow.holds Tryd.pinned (OpenSpec.ofChange beetleTurnedSpec)

/-- ITS FALSE NEIGHBOUR: 'it returns false'. Refute it at one input. -/
def beetleTurnedWrong : ChangeSpec := { name := "beetleTurned", fn := fun _ => fun
  | [d] => { results := [.lit (.bool false)], args := [d] }
  | _ => none }
def BeetleTurnedWrongFalsely : Prop := beetleTurnedRow.holds Tryd.pinned (OpenSpec.ofChange beetleTurnedWrong)

/-- 'vitolalaw09.BeetleMore': WHATEVER THE INPUT: true; the input reads as it did. -/
def beetleMoreSpec : ChangeSpec := { name := "beetleMore", fn := fun _ => fun
  | [d1, d2, d3] => { results := [.lit (.bool true)], args := [d1, d2, d3] }
  | _ => none }
def beetleMoreRow : OpenClaim := { program := "ytbhjphcomppjgaadoor", sum := "dae799175d8008caab758118480d58c579efa2cf68cc9d4d70f245c8d615636b", func := "vitola/vitolalaw09.BeetleMore", spec := "beetleMore", unfollowed := true, recurses := true, named := ["math/bits.deBruijn32tab"], apart := false, laid := [("math/bits.deBruijn32tab", laid_math_bits_deBruijn32tab)] }
def BeetleMoreSaid : Prop := beetleMoreRow.holds Tryd.pinned (OpenSpec.ofChange beetleMoreSpec)

/-- ITS FALSE NEIGHBOUR: 'it returns false'. Refute it at one input. -/
def beetleMoreWrong : ChangeSpec := { name := "beetleMore", fn := fun _ => fun
  | [d1, d2, d3] => { results := [.lit (.bool false)], args := [d1, d2, d3] }
  | _ => none }
def BeetleMoreWrongFalsely : Prop := beetleMoreRow.holds Tryd.pinned (OpenSpec.ofChange beetleMoreWrong)

/-- 'vitolalaw09.BeetleReached': WHATEVER THE INPUT: true; the input reads as it did. -/
def beetleReachedSpec : ChangeSpec := { name := "beetleReached", fn := fun _ => fun
  | [d] => { results := [.lit (.bool true)], args := [d] }
  | _ => none }
def beetleReachedRow : OpenClaim := { program := "ytbhjphcomppjgaadoor", sum := "dae799175d8008caab758118480d58c579efa2cf68cc9d4d70f245c8d615636b", func := "vitola/vitolalaw09.BeetleReached", spec := "beetleReached", unfollowed := true, recurses := true, named := ["math/bits.deBruijn32tab"], apart := false, laid := [("math/bits.deBruijn32tab", laid_math_bits_deBruijn32tab)] }
def BeetleReachedSaid : Prop := beetleReachedRow.holds Tryd.pinned (OpenSpec.ofChange beetleReachedSpec)

/-- ITS FALSE NEIGHBOUR: 'it returns false'. Refute it at one input. -/
def beetleReachedWrong : ChangeSpec := { name := "beetleReached", fn := fun _ => fun
  | [d] => { results := [.lit (.bool false)], args := [d] }
  | _ => none }
def BeetleReachedWrongFalsely : Prop := beetleReachedRow.holds Tryd.pinned (OpenSpec.ofChange beetleReachedWrong)

/-- 'vitolalaw09.BeetleSafe': WHATEVER THE INPUT: true; the input reads as it did. -/
def beetleSafeSpec : ChangeSpec := { name := "beetleSafe", fn := fun _ => fun
  | [d] => { results := [.lit (.bool true)], args := [d] }
  | _ => none }
def beetleSafeRow : OpenClaim := { program := "ytbhjphcomppjgaadoor", sum := "dae799175d8008caab758118480d58c579efa2cf68cc9d4d70f245c8d615636b", func := "vitola/vitolalaw09.BeetleSafe", spec := "beetleSafe", unfollowed := true, recurses := true, named := ["math/bits.deBruijn32tab"], apart := false, laid := [("math/bits.deBruijn32tab", laid_math_bits_deBruijn32tab)] }
def BeetleSafeSaid : Prop := beetleSafeRow.holds Tryd.pinned (OpenSpec.ofChange beetleSafeSpec)

/-- ITS FALSE NEIGHBOUR: 'it returns false'. Refute it at one input. -/
def beetleSafeWrong : ChangeSpec := { name := "beetleSafe", fn := fun _ => fun
  | [d] => { results := [.lit (.bool false)], args := [d] }
  | _ => none }
def BeetleSafeWrongFalsely : Prop := beetleSafeRow.holds Tryd.pinned (OpenSpec.ofChange beetleSafeWrong)

/-- 'vitolalaw09.BeetleIdle': WHATEVER THE INPUT: true; the input reads as it did. -/
def beetleIdleSpec : ChangeSpec := { name := "beetleIdle", fn := fun _ => fun
  | [d] => { results := [.lit (.bool true)], args := [d] }
  | _ => none }
def beetleIdleRow : OpenClaim := { program := "ytbhjphcomppjgaadoor", sum := "dae799175d8008caab758118480d58c579efa2cf68cc9d4d70f245c8d615636b", func := "vitola/vitolalaw09.BeetleIdle", spec := "beetleIdle", unfollowed := true, recurses := true, named := ["math/bits.deBruijn32tab"], apart := false, laid := [("math/bits.deBruijn32tab", laid_math_bits_deBruijn32tab)] }
def BeetleIdleSaid : Prop := beetleIdleRow.holds Tryd.pinned (OpenSpec.ofChange beetleIdleSpec)

/-- ITS FALSE NEIGHBOUR: 'it returns false'. Refute it at one input. -/
def beetleIdleWrong : ChangeSpec := { name := "beetleIdle", fn := fun _ => fun
  | [d] => { results := [.lit (.bool false)], args := [d] }
  | _ => none }
def BeetleIdleWrongFalsely : Prop := beetleIdleRow.holds Tryd.pinned (OpenSpec.ofChange beetleIdleWrong)

/-- 'vitolalaw09.BeetleOutline': WHATEVER THE INPUT: true; the input reads as it did. -/
def beetleOutlineSpec : ChangeSpec := { name := "beetleOutline", fn := fun _ => fun
  | [d] => { results := [.lit (.bool true)], args := [d] }
  | _ => none }
def beetleOutlineRow : OpenClaim := { program := "ytbhjphcomppjgaadoor", sum := "dae799175d8008caab758118480d58c579efa2cf68cc9d4d70f245c8d615636b", func := "vitola/vitolalaw09.BeetleOutline", spec := "beetleOutline", unfollowed := true, recurses := true, named := ["math/bits.deBruijn32tab"], apart := false, laid := [("math/bits.deBruijn32tab", laid_math_bits_deBruijn32tab)] }
def BeetleOutlineSaid : Prop := beetleOutlineRow.holds Tryd.pinned (OpenSpec.ofChange beetleOutlineSpec)

/-- ITS FALSE NEIGHBOUR: 'it returns false'. Refute it at one input. -/
def beetleOutlineWrong : ChangeSpec := { name := "beetleOutline", fn := fun _ => fun
  | [d] => { results := [.lit (.bool false)], args := [d] }
  | _ => none }
def BeetleOutlineWrongFalsely : Prop := beetleOutlineRow.holds Tryd.pinned (OpenSpec.ofChange beetleOutlineWrong)

/-- 'vitolalaw09.BeetleBlocks': WHATEVER THE INPUT: true; the input reads as it did. -/
def beetleBlocksSpec : ChangeSpec := { name := "beetleBlocks", fn := fun _ => fun
  | [d] => { results := [.lit (.bool true)], args := [d] }
  | _ => none }
def beetleBlocksRow : OpenClaim := { program := "ytbhjphcomppjgaadoor", sum := "dae799175d8008caab758118480d58c579efa2cf68cc9d4d70f245c8d615636b", func := "vitola/vitolalaw09.BeetleBlocks", spec := "beetleBlocks", unfollowed := true, recurses := true, named := ["math/bits.deBruijn32tab"], apart := false, laid := [("math/bits.deBruijn32tab", laid_math_bits_deBruijn32tab)] }
def BeetleBlocksSaid : Prop := beetleBlocksRow.holds Tryd.pinned (OpenSpec.ofChange beetleBlocksSpec)

/-- ITS FALSE NEIGHBOUR: 'it returns false'. Refute it at one input. -/
def beetleBlocksWrong : ChangeSpec := { name := "beetleBlocks", fn := fun _ => fun
  | [d] => { results := [.lit (.bool false)], args := [d] }
  | _ => none }
def BeetleBlocksWrongFalsely : Prop := beetleBlocksRow.holds Tryd.pinned (OpenSpec.ofChange beetleBlocksWrong)

/-- 'vitolalaw09.BeetleKept': WHATEVER THE INPUT: true; the input reads as it did. -/
def beetleKeptSpec : ChangeSpec := { name := "beetleKept", fn := fun _ => fun
  | [d1, d2] => { results := [.lit (.bool true)], args := [d1, d2] }
  | _ => none }
def beetleKeptRow : OpenClaim := { program := "ytbhjphcomppjgaadoor", sum := "dae799175d8008caab758118480d58c579efa2cf68cc9d4d70f245c8d615636b", func := "vitola/vitolalaw09.BeetleKept", spec := "beetleKept", unfollowed := true, recurses := true, named := ["math/bits.deBruijn32tab"], apart := false, laid := [("math/bits.deBruijn32tab", laid_math_bits_deBruijn32tab)] }
def BeetleKeptSaid : Prop := beetleKeptRow.holds Tryd.pinned (OpenSpec.ofChange beetleKeptSpec)

/-- ITS FALSE NEIGHBOUR: 'it returns false'. Refute it at one input. -/
def beetleKeptWrong : ChangeSpec := { name := "beetleKept", fn := fun _ => fun
  | [d1, d2] => { results := [.lit (.bool false)], args := [d1, d2] }
  | _ => none }
def BeetleKeptWrongFalsely : Prop := beetleKeptRow.holds Tryd.pinned (OpenSpec.ofChange beetleKeptWrong)

/- THE SECOND FORM. 'bulk': how many values and letters a reading holds, each counted each time it is reached (what is shared counts as often as it is met; a slice's spare places count too). A statement '..UptoSaid' is the law's where the arguments, and the package variables that the reading takes, are together of bulk at most 1048576: NARROWER than '..Said'. Prove '..Said' where nothing that the law and all that it calls make is longer than what came in: it says more and counts as full. Else prove '..UptoSaid'. A law counts once. -/
mutual
def uptoBulk {H : Type} : DataW H → Nat
  | .lit (.string bytes) => bytes.length + 1
  | .lit _ => 1
  | .nil => 1
  | .ptr d => uptoBulk d + 1
  | .slice elems spare => uptoBulkAll elems + uptoBulkAll spare + 1
  | .agg parts => uptoBulkAll parts + 1
  | .iface _ d => uptoBulk d + 1
  | .map entries => uptoBulkEntries entries + 1
  | .held _ => 1
def uptoBulkAll {H : Type} : List (DataW H) → Nat
  | [] => 0
  | d :: r => uptoBulk d + uptoBulkAll r
def uptoBulkEntries {H : Type} : List (Lit × DataW H) → Nat
  | [] => 0
  | x :: r => uptoBulkEntry x + uptoBulkEntries r
def uptoBulkEntry {H : Type} : Lit × DataW H → Nat
  | (.string bytes, d) => bytes.length + uptoBulk d + 1
  | (_, d) => uptoBulk d + 1
 end
def uptoSmall : (H : Type) → List (DataW H) → Bool := fun _ ds => decide (uptoBulkAll ds ≤ 1048576)
def OpenSpec.upto (s : _root_.Go.ChangeSpec) : _root_.Go.OpenSpec := { _root_.Go.OpenSpec.ofChange s with cond := some uptoSmall }

/-- 'vitolalaw09.BeetleProves', WHERE WHAT IT READS IS OF BULK AT MOST 1048576: true; the input reads as it did. -/
def beetleProvesUptoRow : OpenClaim := { program := "ytbhjphcomppjgaadoor", sum := "dae799175d8008caab758118480d58c579efa2cf68cc9d4d70f245c8d615636b", func := "vitola/vitolalaw09.BeetleProves", spec := "beetleProves", unfollowed := true, recurses := true, named := ["math/bits.deBruijn32tab"], apart := false, laid := [("math/bits.deBruijn32tab", laid_math_bits_deBruijn32tab)], narrowed := true }
def BeetleProvesUptoSaid : Prop := beetleProvesUptoRow.holds Tryd.pinned (OpenSpec.upto beetleProvesSpec)

/-- 'vitolalaw09.BeetlePlants', WHERE WHAT IT READS IS OF BULK AT MOST 1048576: true; the input reads as it did. -/
def beetlePlantsUptoRow : OpenClaim := { program := "ytbhjphcomppjgaadoor", sum := "dae799175d8008caab758118480d58c579efa2cf68cc9d4d70f245c8d615636b", func := "vitola/vitolalaw09.BeetlePlants", spec := "beetlePlants", unfollowed := true, recurses := true, named := ["math/bits.deBruijn32tab"], apart := false, laid := [("math/bits.deBruijn32tab", laid_math_bits_deBruijn32tab)], narrowed := true }
def BeetlePlantsUptoSaid : Prop := beetlePlantsUptoRow.holds Tryd.pinned (OpenSpec.upto beetlePlantsSpec)

/-- 'vitolalaw09.BeetleKeeps', WHERE WHAT IT READS IS OF BULK AT MOST 1048576: true; the input reads as it did. -/
def beetleKeepsUptoRow : OpenClaim := { program := "ytbhjphcomppjgaadoor", sum := "dae799175d8008caab758118480d58c579efa2cf68cc9d4d70f245c8d615636b", func := "vitola/vitolalaw09.BeetleKeeps", spec := "beetleKeeps", unfollowed := true, recurses := true, named := ["math/bits.deBruijn32tab"], apart := false, laid := [("math/bits.deBruijn32tab", laid_math_bits_deBruijn32tab)], narrowed := true }
def BeetleKeepsUptoSaid : Prop := beetleKeepsUptoRow.holds Tryd.pinned (OpenSpec.upto beetleKeepsSpec)

/-- 'vitolalaw09.BeetleSpreads', WHERE WHAT IT READS IS OF BULK AT MOST 1048576: true; the input reads as it did. -/
def beetleSpreadsUptoRow : OpenClaim := { program := "ytbhjphcomppjgaadoor", sum := "dae799175d8008caab758118480d58c579efa2cf68cc9d4d70f245c8d615636b", func := "vitola/vitolalaw09.BeetleSpreads", spec := "beetleSpreads", unfollowed := true, recurses := true, named := ["math/bits.deBruijn32tab"], apart := false, laid := [("math/bits.deBruijn32tab", laid_math_bits_deBruijn32tab)], narrowed := true }
def BeetleSpreadsUptoSaid : Prop := beetleSpreadsUptoRow.holds Tryd.pinned (OpenSpec.upto beetleSpreadsSpec)

/-- 'vitolalaw09.BeetleKnown', WHERE WHAT IT READS IS OF BULK AT MOST 1048576: true; the input reads as it did. -/
def beetleKnownUptoRow : OpenClaim := { program := "ytbhjphcomppjgaadoor", sum := "dae799175d8008caab758118480d58c579efa2cf68cc9d4d70f245c8d615636b", func := "vitola/vitolalaw09.BeetleKnown", spec := "beetleKnown", unfollowed := true, recurses := true, named := ["math/bits.deBruijn32tab"], apart := false, laid := [("math/bits.deBruijn32tab", laid_math_bits_deBruijn32tab)], narrowed := true }
def BeetleKnownUptoSaid : Prop := beetleKnownUptoRow.holds Tryd.pinned (OpenSpec.upto beetleKnownSpec)

/-- 'vitolalaw09.BeetleTurned', WHERE WHAT IT READS IS OF BULK AT MOST 1048576: true; the input reads as it did. -/
def beetleTurnedUptoRow : OpenClaim := { program := "ytbhjphcomppjgaadoor", sum := "dae799175d8008caab758118480d58c579efa2cf68cc9d4d70f245c8d615636b", func := "vitola/vitolalaw09.BeetleTurned", spec := "beetleTurned", unfollowed := true, recurses := true, named := ["math/bits.deBruijn32tab"], apart := false, laid := [("math/bits.deBruijn32tab", laid_math_bits_deBruijn32tab)], narrowed := true }
def BeetleTurnedUptoSaid : Prop := beetleTurnedUptoRow.holds Tryd.pinned (OpenSpec.upto beetleTurnedSpec)

/-- 'vitolalaw09.BeetleMore', WHERE WHAT IT READS IS OF BULK AT MOST 1048576: true; the input reads as it did. -/
def beetleMoreUptoRow : OpenClaim := { program := "ytbhjphcomppjgaadoor", sum := "dae799175d8008caab758118480d58c579efa2cf68cc9d4d70f245c8d615636b", func := "vitola/vitolalaw09.BeetleMore", spec := "beetleMore", unfollowed := true, recurses := true, named := ["math/bits.deBruijn32tab"], apart := false, laid := [("math/bits.deBruijn32tab", laid_math_bits_deBruijn32tab)], narrowed := true }
def BeetleMoreUptoSaid : Prop := beetleMoreUptoRow.holds Tryd.pinned (OpenSpec.upto beetleMoreSpec)

/-- 'vitolalaw09.BeetleReached', WHERE WHAT IT READS IS OF BULK AT MOST 1048576: true; the input reads as it did. -/
def beetleReachedUptoRow : OpenClaim := { program := "ytbhjphcomppjgaadoor", sum := "dae799175d8008caab758118480d58c579efa2cf68cc9d4d70f245c8d615636b", func := "vitola/vitolalaw09.BeetleReached", spec := "beetleReached", unfollowed := true, recurses := true, named := ["math/bits.deBruijn32tab"], apart := false, laid := [("math/bits.deBruijn32tab", laid_math_bits_deBruijn32tab)], narrowed := true }
def BeetleReachedUptoSaid : Prop := beetleReachedUptoRow.holds Tryd.pinned (OpenSpec.upto beetleReachedSpec)

/-- 'vitolalaw09.BeetleSafe', WHERE WHAT IT READS IS OF BULK AT MOST 1048576: true; the input reads as it did. -/
def beetleSafeUptoRow : OpenClaim := { program := "ytbhjphcomppjgaadoor", sum := "dae799175d8008caab758118480d58c579efa2cf68cc9d4d70f245c8d615636b", func := "vitola/vitolalaw09.BeetleSafe", spec := "beetleSafe", unfollowed := true, recurses := true, named := ["math/bits.deBruijn32tab"], apart := false, laid := [("math/bits.deBruijn32tab", laid_math_bits_deBruijn32tab)], narrowed := true }
def BeetleSafeUptoSaid : Prop := beetleSafeUptoRow.holds Tryd.pinned (OpenSpec.upto beetleSafeSpec)

/-- 'vitolalaw09.BeetleIdle', WHERE WHAT IT READS IS OF BULK AT MOST 1048576: true; the input reads as it did. -/
def beetleIdleUptoRow : OpenClaim := { program := "ytbhjphcomppjgaadoor", sum := "dae799175d8008caab758118480d58c579efa2cf68cc9d4d70f245c8d615636b", func := "vitola/vitolalaw09.BeetleIdle", spec := "beetleIdle", unfollowed := true, recurses := true, named := ["math/bits.deBruijn32tab"], apart := false, laid := [("math/bits.deBruijn32tab", laid_math_bits_deBruijn32tab)], narrowed := true }
def BeetleIdleUptoSaid : Prop := beetleIdleUptoRow.holds Tryd.pinned (OpenSpec.upto beetleIdleSpec)

/-- 'vitolalaw09.BeetleOutline', WHERE WHAT IT READS IS OF BULK AT MOST 1048576: true; the input reads as it did. -/
def beetleOutlineUptoRow : OpenClaim := { program := "ytbhjphcomppjgaadoor", sum := "dae799175d8008caab758118480d58c579efa2cf68cc9d4d70f245c8d615636b", func := "vitola/vitolalaw09.BeetleOutline", spec := "beetleOutline", unfollowed := true, recurses := true, named := ["math/bits.deBruijn32tab"], apart := false, laid := [("math/bits.deBruijn32tab", laid_math_bits_deBruijn32tab)], narrowed := true }
def BeetleOutlineUptoSaid : Prop := beetleOutlineUptoRow.holds Tryd.pinned (OpenSpec.upto beetleOutlineSpec)

/-- 'vitolalaw09.BeetleBlocks', WHERE WHAT IT READS IS OF BULK AT MOST 1048576: true; the input reads as it did. -/
def beetleBlocksUptoRow : OpenClaim := { program := "ytbhjphcomppjgaadoor", sum := "dae799175d8008caab758118480d58c579efa2cf68cc9d4d70f245c8d615636b", func := "vitola/vitolalaw09.BeetleBlocks", spec := "beetleBlocks", unfollowed := true, recurses := true, named := ["math/bits.deBruijn32tab"], apart := false, laid := [("math/bits.deBruijn32tab", laid_math_bits_deBruijn32tab)], narrowed := true }
def BeetleBlocksUptoSaid : Prop := beetleBlocksUptoRow.holds Tryd.pinned (OpenSpec.upto beetleBlocksSpec)

/-- 'vitolalaw09.BeetleKept', WHERE WHAT IT READS IS OF BULK AT MOST 1048576: true; the input reads as it did. -/
def beetleKeptUptoRow : OpenClaim := { program := "ytbhjphcomppjgaadoor", sum := "dae799175d8008caab758118480d58c579efa2cf68cc9d4d70f245c8d615636b", func := "vitola/vitolalaw09.BeetleKept", spec := "beetleKept", unfollowed := true, recurses := true, named := ["math/bits.deBruijn32tab"], apart := false, laid := [("math/bits.deBruijn32tab", laid_math_bits_deBruijn32tab)], narrowed := true }
def BeetleKeptUptoSaid : Prop := beetleKeptUptoRow.holds Tryd.pinned (OpenSpec.upto beetleKeptSpec)

end Rows
end Go.Proofs.YtbhjphcomppjgaaDoor
