/-
  DERIVED. GIVEN WITH THE SEED: THE CARDS: each row of YtpfaoagddgcmbaaDoorRows.lean that lists a variable, with what it lists TIED to the program's text (the seventh form; the later family's looks); each row that meets fmt, with fmt's text TOLD by the authors' own Lean function (tested against real Go, not proved from fmt's source: count such statements apart). THE CARD IS WHAT COUNTS. Prove the row's statement (the work); the ties are given (YtpfaoagddgcmbaaDoorTie.lean); close each card by the builder's one call (the guide's Derived/Test/ToyasCard.lean, 'card_holds'). Laid BY PROGRAM, IN A SANDBOX (cutbox-door.mjs). By AI agents, Wed Nov 11 2026. No macro, syntax, notation, axiom, sorry.
-/
import Derived.Test.YtpfaoagddgcmbaaDoorRows
import GoSem.ClaimSeven
namespace Go.Proofs.YtpfaoagddgcmbaaDoor
namespace Rows

/-- THE TIED CARD OF 'vitolatop.TopHeaped'. -/
def topHeapedCard : Claim7 := { stood := { row := topHeapedRow, standIns := [], harness := (true, "9638ed7deb098f7057f45a0e162b0c42c0a07890f5ad7d976817beb91ad5f2a2"), looks := true }, kinds := [], alts := [], laidByText := true, laidKinds := [.data, .data], laidTests := true, laidLooks := .later }
def TopHeapedCardSaid : Prop := Claim7.holds Tryd.pinned (.plain (OpenSpec.ofChange topHeapedSpec)) topHeapedCard

/-- THE TIED CARD OF 'vitolatop.TopCoded'. -/
def topCodedCard : Claim7 := { stood := { row := topCodedRow, standIns := [], harness := (true, "9638ed7deb098f7057f45a0e162b0c42c0a07890f5ad7d976817beb91ad5f2a2"), looks := true }, kinds := [], alts := [], laidByText := true, laidKinds := [.data, .data], laidTests := true, laidLooks := .later }
def TopCodedCardSaid : Prop := Claim7.holds Tryd.pinned (.plain (OpenSpec.ofChange topCodedSpec)) topCodedCard

/-- THE TIED CARD OF 'vitolatop.TopHome'. -/
def topHomeCard : Claim7 := { stood := { row := topHomeRow, standIns := [], harness := (true, "9638ed7deb098f7057f45a0e162b0c42c0a07890f5ad7d976817beb91ad5f2a2"), looks := true }, kinds := [], alts := [], laidByText := true, laidKinds := [.data, .data], laidTests := true, laidLooks := .later }
def TopHomeCardSaid : Prop := Claim7.holds Tryd.pinned (.plain (OpenSpec.ofChange topHomeSpec)) topHomeCard

/-- THE TIED CARD OF 'vitolatop.TopSpaced'. -/
def topSpacedCard : Claim7 := { stood := { row := topSpacedRow, standIns := [], harness := (true, "9638ed7deb098f7057f45a0e162b0c42c0a07890f5ad7d976817beb91ad5f2a2"), looks := true }, kinds := [], alts := [], laidByText := true, laidKinds := [.data, .data], laidTests := true, laidLooks := .later }
def TopSpacedCardSaid : Prop := Claim7.holds Tryd.pinned (.plain (OpenSpec.ofChange topSpacedSpec)) topSpacedCard

/-- THE TIED CARD OF 'vitolatop.TopSlope'. -/
def topSlopeCard : Claim7 := { stood := { row := topSlopeRow, standIns := [], harness := (true, "9638ed7deb098f7057f45a0e162b0c42c0a07890f5ad7d976817beb91ad5f2a2"), looks := true }, kinds := [], alts := [], laidByText := true, laidKinds := [.data, .data], laidTests := true, laidLooks := .later }
def TopSlopeCardSaid : Prop := Claim7.holds Tryd.pinned (.plain (OpenSpec.ofChange topSlopeSpec)) topSlopeCard

/-- THE TIED CARD OF 'vitolatop.TopChosen'. -/
def topChosenCard : Claim7 := { stood := { row := topChosenRow, standIns := [], harness := (true, "9638ed7deb098f7057f45a0e162b0c42c0a07890f5ad7d976817beb91ad5f2a2"), looks := true }, kinds := [], alts := [], laidByText := true, laidKinds := [.data, .data], laidTests := true, laidLooks := .later }
def TopChosenCardSaid : Prop := Claim7.holds Tryd.pinned (.plain (OpenSpec.ofChange topChosenSpec)) topChosenCard

/-- THE TIED CARD OF 'vitolatop.TopMirrored'. -/
def topMirroredCard : Claim7 := { stood := { row := topMirroredRow, standIns := [], harness := (true, "9638ed7deb098f7057f45a0e162b0c42c0a07890f5ad7d976817beb91ad5f2a2"), looks := true }, kinds := [], alts := [], laidByText := true, laidKinds := [.data, .data], laidTests := true, laidLooks := .later }
def TopMirroredCardSaid : Prop := Claim7.holds Tryd.pinned (.plain (OpenSpec.ofChange topMirroredSpec)) topMirroredCard

/-- THE SECOND FORM's CARD OF 'vitolatop.TopHeaped'. -/
def topHeapedUptoCard : Claim7 := { stood := { row := topHeapedUptoRow, standIns := [], harness := (true, "9638ed7deb098f7057f45a0e162b0c42c0a07890f5ad7d976817beb91ad5f2a2"), looks := true }, kinds := [], alts := [], laidByText := true, laidKinds := [.data, .data], laidTests := true, laidLooks := .later }
def TopHeapedUptoCardSaid : Prop := Claim7.holds Tryd.pinned (.plain (OpenSpec.upto topHeapedSpec)) topHeapedUptoCard

/-- THE SECOND FORM's CARD OF 'vitolatop.TopCoded'. -/
def topCodedUptoCard : Claim7 := { stood := { row := topCodedUptoRow, standIns := [], harness := (true, "9638ed7deb098f7057f45a0e162b0c42c0a07890f5ad7d976817beb91ad5f2a2"), looks := true }, kinds := [], alts := [], laidByText := true, laidKinds := [.data, .data], laidTests := true, laidLooks := .later }
def TopCodedUptoCardSaid : Prop := Claim7.holds Tryd.pinned (.plain (OpenSpec.upto topCodedSpec)) topCodedUptoCard

/-- THE SECOND FORM's CARD OF 'vitolatop.TopHome'. -/
def topHomeUptoCard : Claim7 := { stood := { row := topHomeUptoRow, standIns := [], harness := (true, "9638ed7deb098f7057f45a0e162b0c42c0a07890f5ad7d976817beb91ad5f2a2"), looks := true }, kinds := [], alts := [], laidByText := true, laidKinds := [.data, .data], laidTests := true, laidLooks := .later }
def TopHomeUptoCardSaid : Prop := Claim7.holds Tryd.pinned (.plain (OpenSpec.upto topHomeSpec)) topHomeUptoCard

/-- THE SECOND FORM's CARD OF 'vitolatop.TopSpaced'. -/
def topSpacedUptoCard : Claim7 := { stood := { row := topSpacedUptoRow, standIns := [], harness := (true, "9638ed7deb098f7057f45a0e162b0c42c0a07890f5ad7d976817beb91ad5f2a2"), looks := true }, kinds := [], alts := [], laidByText := true, laidKinds := [.data, .data], laidTests := true, laidLooks := .later }
def TopSpacedUptoCardSaid : Prop := Claim7.holds Tryd.pinned (.plain (OpenSpec.upto topSpacedSpec)) topSpacedUptoCard

/-- THE SECOND FORM's CARD OF 'vitolatop.TopSlope'. -/
def topSlopeUptoCard : Claim7 := { stood := { row := topSlopeUptoRow, standIns := [], harness := (true, "9638ed7deb098f7057f45a0e162b0c42c0a07890f5ad7d976817beb91ad5f2a2"), looks := true }, kinds := [], alts := [], laidByText := true, laidKinds := [.data, .data], laidTests := true, laidLooks := .later }
def TopSlopeUptoCardSaid : Prop := Claim7.holds Tryd.pinned (.plain (OpenSpec.upto topSlopeSpec)) topSlopeUptoCard

/-- THE SECOND FORM's CARD OF 'vitolatop.TopChosen'. -/
def topChosenUptoCard : Claim7 := { stood := { row := topChosenUptoRow, standIns := [], harness := (true, "9638ed7deb098f7057f45a0e162b0c42c0a07890f5ad7d976817beb91ad5f2a2"), looks := true }, kinds := [], alts := [], laidByText := true, laidKinds := [.data, .data], laidTests := true, laidLooks := .later }
def TopChosenUptoCardSaid : Prop := Claim7.holds Tryd.pinned (.plain (OpenSpec.upto topChosenSpec)) topChosenUptoCard

/-- THE SECOND FORM's CARD OF 'vitolatop.TopMirrored'. -/
def topMirroredUptoCard : Claim7 := { stood := { row := topMirroredUptoRow, standIns := [], harness := (true, "9638ed7deb098f7057f45a0e162b0c42c0a07890f5ad7d976817beb91ad5f2a2"), looks := true }, kinds := [], alts := [], laidByText := true, laidKinds := [.data, .data], laidTests := true, laidLooks := .later }
def TopMirroredUptoCardSaid : Prop := Claim7.holds Tryd.pinned (.plain (OpenSpec.upto topMirroredSpec)) topMirroredUptoCard
end Rows
end Go.Proofs.YtpfaoagddgcmbaaDoor
