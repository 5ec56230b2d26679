/-
  DERIVED. GIVEN WITH THE SEED: THE CARDS: each row of YtbhjphcomppjgaaDoorRows.lean that lists a variable, with what it lists TIED to the program's text (the seventh form; the later family's looks); each row that meets fmt, with fmt's text TOLD by the authors' own Lean function (tested against real Go, not proved from fmt's source: count such statements apart). THE CARD IS WHAT COUNTS. Prove the row's statement (the work); the ties are given (YtbhjphcomppjgaaDoorTie.lean); close each card by the builder's one call (the guide's Derived/Test/ToyasCard.lean, 'card_holds'). Laid BY PROGRAM, IN A SANDBOX (cutbox-door.mjs). By AI agents, Wed Nov 11 2026. No macro, syntax, notation, axiom, sorry.
-/
import Derived.Test.YtbhjphcomppjgaaDoorRows
import GoSem.ClaimSeven
namespace Go.Proofs.YtbhjphcomppjgaaDoor
namespace Rows

/-- THE TIED CARD OF 'vitolalaw09.BeetleProves'. -/
def beetleProvesCard : Claim7 := { stood := { row := beetleProvesRow, standIns := [], harness := (true, "98a32f6c3d1d0113283f04bf21997189eb58b2446706ad00cbf6fa2177f865f6"), looks := false }, kinds := [], alts := [], laidByText := true, laidKinds := [.data], laidTests := true, laidLooks := .later }
def BeetleProvesCardSaid : Prop := Claim7.holds Tryd.pinned (.plain (OpenSpec.ofChange beetleProvesSpec)) beetleProvesCard

/-- THE TIED CARD OF 'vitolalaw09.BeetlePlants'. -/
def beetlePlantsCard : Claim7 := { stood := { row := beetlePlantsRow, standIns := [], harness := (true, "98a32f6c3d1d0113283f04bf21997189eb58b2446706ad00cbf6fa2177f865f6"), looks := false }, kinds := [], alts := [], laidByText := true, laidKinds := [.data], laidTests := true, laidLooks := .later }
def BeetlePlantsCardSaid : Prop := Claim7.holds Tryd.pinned (.plain (OpenSpec.ofChange beetlePlantsSpec)) beetlePlantsCard

/-- THE TIED CARD OF 'vitolalaw09.BeetleKeeps'. -/
def beetleKeepsCard : Claim7 := { stood := { row := beetleKeepsRow, standIns := [], harness := (true, "98a32f6c3d1d0113283f04bf21997189eb58b2446706ad00cbf6fa2177f865f6"), looks := false }, kinds := [], alts := [], laidByText := true, laidKinds := [.data], laidTests := true, laidLooks := .later }
def BeetleKeepsCardSaid : Prop := Claim7.holds Tryd.pinned (.plain (OpenSpec.ofChange beetleKeepsSpec)) beetleKeepsCard

/-- THE TIED CARD OF 'vitolalaw09.BeetleSpreads'. -/
def beetleSpreadsCard : Claim7 := { stood := { row := beetleSpreadsRow, standIns := [], harness := (true, "98a32f6c3d1d0113283f04bf21997189eb58b2446706ad00cbf6fa2177f865f6"), looks := false }, kinds := [], alts := [], laidByText := true, laidKinds := [.data], laidTests := true, laidLooks := .later }
def BeetleSpreadsCardSaid : Prop := Claim7.holds Tryd.pinned (.plain (OpenSpec.ofChange beetleSpreadsSpec)) beetleSpreadsCard

/-- THE TIED CARD OF 'vitolalaw09.BeetleKnown'. -/
def beetleKnownCard : Claim7 := { stood := { row := beetleKnownRow, standIns := [], harness := (true, "98a32f6c3d1d0113283f04bf21997189eb58b2446706ad00cbf6fa2177f865f6"), looks := false }, kinds := [], alts := [], laidByText := true, laidKinds := [.data], laidTests := true, laidLooks := .later }
def BeetleKnownCardSaid : Prop := Claim7.holds Tryd.pinned (.plain (OpenSpec.ofChange beetleKnownSpec)) beetleKnownCard

/-- THE TIED CARD OF 'vitolalaw09.BeetleTurned'. -/
def beetleTurnedCard : Claim7 := { stood := { row := beetleTurnedRow, standIns := [], harness := (true, "98a32f6c3d1d0113283f04bf21997189eb58b2446706ad00cbf6fa2177f865f6"), looks := false }, kinds := [], alts := [], laidByText := true, laidKinds := [.data], laidTests := true, laidLooks := .later }
def BeetleTurnedCardSaid : Prop := Claim7.holds Tryd.pinned (.plain (OpenSpec.ofChange beetleTurnedSpec)) beetleTurnedCard

/-- THE TIED CARD OF 'vitolalaw09.BeetleMore'. -/
def beetleMoreCard : Claim7 := { stood := { row := beetleMoreRow, standIns := [], harness := (true, "98a32f6c3d1d0113283f04bf21997189eb58b2446706ad00cbf6fa2177f865f6"), looks := false }, kinds := [], alts := [], laidByText := true, laidKinds := [.data], laidTests := true, laidLooks := .later }
def BeetleMoreCardSaid : Prop := Claim7.holds Tryd.pinned (.plain (OpenSpec.ofChange beetleMoreSpec)) beetleMoreCard

/-- THE TIED CARD OF 'vitolalaw09.BeetleReached'. -/
def beetleReachedCard : Claim7 := { stood := { row := beetleReachedRow, standIns := [], harness := (true, "98a32f6c3d1d0113283f04bf21997189eb58b2446706ad00cbf6fa2177f865f6"), looks := false }, kinds := [], alts := [], laidByText := true, laidKinds := [.data], laidTests := true, laidLooks := .later }
def BeetleReachedCardSaid : Prop := Claim7.holds Tryd.pinned (.plain (OpenSpec.ofChange beetleReachedSpec)) beetleReachedCard

/-- THE TIED CARD OF 'vitolalaw09.BeetleSafe'. -/
def beetleSafeCard : Claim7 := { stood := { row := beetleSafeRow, standIns := [], harness := (true, "98a32f6c3d1d0113283f04bf21997189eb58b2446706ad00cbf6fa2177f865f6"), looks := false }, kinds := [], alts := [], laidByText := true, laidKinds := [.data], laidTests := true, laidLooks := .later }
def BeetleSafeCardSaid : Prop := Claim7.holds Tryd.pinned (.plain (OpenSpec.ofChange beetleSafeSpec)) beetleSafeCard

/-- THE TIED CARD OF 'vitolalaw09.BeetleIdle'. -/
def beetleIdleCard : Claim7 := { stood := { row := beetleIdleRow, standIns := [], harness := (true, "98a32f6c3d1d0113283f04bf21997189eb58b2446706ad00cbf6fa2177f865f6"), looks := false }, kinds := [], alts := [], laidByText := true, laidKinds := [.data], laidTests := true, laidLooks := .later }
def BeetleIdleCardSaid : Prop := Claim7.holds Tryd.pinned (.plain (OpenSpec.ofChange beetleIdleSpec)) beetleIdleCard

/-- THE TIED CARD OF 'vitolalaw09.BeetleOutline'. -/
def beetleOutlineCard : Claim7 := { stood := { row := beetleOutlineRow, standIns := [], harness := (true, "98a32f6c3d1d0113283f04bf21997189eb58b2446706ad00cbf6fa2177f865f6"), looks := false }, kinds := [], alts := [], laidByText := true, laidKinds := [.data], laidTests := true, laidLooks := .later }
def BeetleOutlineCardSaid : Prop := Claim7.holds Tryd.pinned (.plain (OpenSpec.ofChange beetleOutlineSpec)) beetleOutlineCard

/-- THE TIED CARD OF 'vitolalaw09.BeetleBlocks'. -/
def beetleBlocksCard : Claim7 := { stood := { row := beetleBlocksRow, standIns := [], harness := (true, "98a32f6c3d1d0113283f04bf21997189eb58b2446706ad00cbf6fa2177f865f6"), looks := false }, kinds := [], alts := [], laidByText := true, laidKinds := [.data], laidTests := true, laidLooks := .later }
def BeetleBlocksCardSaid : Prop := Claim7.holds Tryd.pinned (.plain (OpenSpec.ofChange beetleBlocksSpec)) beetleBlocksCard

/-- THE TIED CARD OF 'vitolalaw09.BeetleKept'. -/
def beetleKeptCard : Claim7 := { stood := { row := beetleKeptRow, standIns := [], harness := (true, "98a32f6c3d1d0113283f04bf21997189eb58b2446706ad00cbf6fa2177f865f6"), looks := false }, kinds := [], alts := [], laidByText := true, laidKinds := [.data], laidTests := true, laidLooks := .later }
def BeetleKeptCardSaid : Prop := Claim7.holds Tryd.pinned (.plain (OpenSpec.ofChange beetleKeptSpec)) beetleKeptCard

/-- THE SECOND FORM's CARD OF 'vitolalaw09.BeetleProves'. -/
def beetleProvesUptoCard : Claim7 := { stood := { row := beetleProvesUptoRow, standIns := [], harness := (true, "98a32f6c3d1d0113283f04bf21997189eb58b2446706ad00cbf6fa2177f865f6"), looks := false }, kinds := [], alts := [], laidByText := true, laidKinds := [.data], laidTests := true, laidLooks := .later }
def BeetleProvesUptoCardSaid : Prop := Claim7.holds Tryd.pinned (.plain (OpenSpec.upto beetleProvesSpec)) beetleProvesUptoCard

/-- THE SECOND FORM's CARD OF 'vitolalaw09.BeetlePlants'. -/
def beetlePlantsUptoCard : Claim7 := { stood := { row := beetlePlantsUptoRow, standIns := [], harness := (true, "98a32f6c3d1d0113283f04bf21997189eb58b2446706ad00cbf6fa2177f865f6"), looks := false }, kinds := [], alts := [], laidByText := true, laidKinds := [.data], laidTests := true, laidLooks := .later }
def BeetlePlantsUptoCardSaid : Prop := Claim7.holds Tryd.pinned (.plain (OpenSpec.upto beetlePlantsSpec)) beetlePlantsUptoCard

/-- THE SECOND FORM's CARD OF 'vitolalaw09.BeetleKeeps'. -/
def beetleKeepsUptoCard : Claim7 := { stood := { row := beetleKeepsUptoRow, standIns := [], harness := (true, "98a32f6c3d1d0113283f04bf21997189eb58b2446706ad00cbf6fa2177f865f6"), looks := false }, kinds := [], alts := [], laidByText := true, laidKinds := [.data], laidTests := true, laidLooks := .later }
def BeetleKeepsUptoCardSaid : Prop := Claim7.holds Tryd.pinned (.plain (OpenSpec.upto beetleKeepsSpec)) beetleKeepsUptoCard

/-- THE SECOND FORM's CARD OF 'vitolalaw09.BeetleSpreads'. -/
def beetleSpreadsUptoCard : Claim7 := { stood := { row := beetleSpreadsUptoRow, standIns := [], harness := (true, "98a32f6c3d1d0113283f04bf21997189eb58b2446706ad00cbf6fa2177f865f6"), looks := false }, kinds := [], alts := [], laidByText := true, laidKinds := [.data], laidTests := true, laidLooks := .later }
def BeetleSpreadsUptoCardSaid : Prop := Claim7.holds Tryd.pinned (.plain (OpenSpec.upto beetleSpreadsSpec)) beetleSpreadsUptoCard

/-- THE SECOND FORM's CARD OF 'vitolalaw09.BeetleKnown'. -/
def beetleKnownUptoCard : Claim7 := { stood := { row := beetleKnownUptoRow, standIns := [], harness := (true, "98a32f6c3d1d0113283f04bf21997189eb58b2446706ad00cbf6fa2177f865f6"), looks := false }, kinds := [], alts := [], laidByText := true, laidKinds := [.data], laidTests := true, laidLooks := .later }
def BeetleKnownUptoCardSaid : Prop := Claim7.holds Tryd.pinned (.plain (OpenSpec.upto beetleKnownSpec)) beetleKnownUptoCard

/-- THE SECOND FORM's CARD OF 'vitolalaw09.BeetleTurned'. -/
def beetleTurnedUptoCard : Claim7 := { stood := { row := beetleTurnedUptoRow, standIns := [], harness := (true, "98a32f6c3d1d0113283f04bf21997189eb58b2446706ad00cbf6fa2177f865f6"), looks := false }, kinds := [], alts := [], laidByText := true, laidKinds := [.data], laidTests := true, laidLooks := .later }
def BeetleTurnedUptoCardSaid : Prop := Claim7.holds Tryd.pinned (.plain (OpenSpec.upto beetleTurnedSpec)) beetleTurnedUptoCard

/-- THE SECOND FORM's CARD OF 'vitolalaw09.BeetleMore'. -/
def beetleMoreUptoCard : Claim7 := { stood := { row := beetleMoreUptoRow, standIns := [], harness := (true, "98a32f6c3d1d0113283f04bf21997189eb58b2446706ad00cbf6fa2177f865f6"), looks := false }, kinds := [], alts := [], laidByText := true, laidKinds := [.data], laidTests := true, laidLooks := .later }
def BeetleMoreUptoCardSaid : Prop := Claim7.holds Tryd.pinned (.plain (OpenSpec.upto beetleMoreSpec)) beetleMoreUptoCard

/-- THE SECOND FORM's CARD OF 'vitolalaw09.BeetleReached'. -/
def beetleReachedUptoCard : Claim7 := { stood := { row := beetleReachedUptoRow, standIns := [], harness := (true, "98a32f6c3d1d0113283f04bf21997189eb58b2446706ad00cbf6fa2177f865f6"), looks := false }, kinds := [], alts := [], laidByText := true, laidKinds := [.data], laidTests := true, laidLooks := .later }
def BeetleReachedUptoCardSaid : Prop := Claim7.holds Tryd.pinned (.plain (OpenSpec.upto beetleReachedSpec)) beetleReachedUptoCard

/-- THE SECOND FORM's CARD OF 'vitolalaw09.BeetleSafe'. -/
def beetleSafeUptoCard : Claim7 := { stood := { row := beetleSafeUptoRow, standIns := [], harness := (true, "98a32f6c3d1d0113283f04bf21997189eb58b2446706ad00cbf6fa2177f865f6"), looks := false }, kinds := [], alts := [], laidByText := true, laidKinds := [.data], laidTests := true, laidLooks := .later }
def BeetleSafeUptoCardSaid : Prop := Claim7.holds Tryd.pinned (.plain (OpenSpec.upto beetleSafeSpec)) beetleSafeUptoCard

/-- THE SECOND FORM's CARD OF 'vitolalaw09.BeetleIdle'. -/
def beetleIdleUptoCard : Claim7 := { stood := { row := beetleIdleUptoRow, standIns := [], harness := (true, "98a32f6c3d1d0113283f04bf21997189eb58b2446706ad00cbf6fa2177f865f6"), looks := false }, kinds := [], alts := [], laidByText := true, laidKinds := [.data], laidTests := true, laidLooks := .later }
def BeetleIdleUptoCardSaid : Prop := Claim7.holds Tryd.pinned (.plain (OpenSpec.upto beetleIdleSpec)) beetleIdleUptoCard

/-- THE SECOND FORM's CARD OF 'vitolalaw09.BeetleOutline'. -/
def beetleOutlineUptoCard : Claim7 := { stood := { row := beetleOutlineUptoRow, standIns := [], harness := (true, "98a32f6c3d1d0113283f04bf21997189eb58b2446706ad00cbf6fa2177f865f6"), looks := false }, kinds := [], alts := [], laidByText := true, laidKinds := [.data], laidTests := true, laidLooks := .later }
def BeetleOutlineUptoCardSaid : Prop := Claim7.holds Tryd.pinned (.plain (OpenSpec.upto beetleOutlineSpec)) beetleOutlineUptoCard

/-- THE SECOND FORM's CARD OF 'vitolalaw09.BeetleBlocks'. -/
def beetleBlocksUptoCard : Claim7 := { stood := { row := beetleBlocksUptoRow, standIns := [], harness := (true, "98a32f6c3d1d0113283f04bf21997189eb58b2446706ad00cbf6fa2177f865f6"), looks := false }, kinds := [], alts := [], laidByText := true, laidKinds := [.data], laidTests := true, laidLooks := .later }
def BeetleBlocksUptoCardSaid : Prop := Claim7.holds Tryd.pinned (.plain (OpenSpec.upto beetleBlocksSpec)) beetleBlocksUptoCard

/-- THE SECOND FORM's CARD OF 'vitolalaw09.BeetleKept'. -/
def beetleKeptUptoCard : Claim7 := { stood := { row := beetleKeptUptoRow, standIns := [], harness := (true, "98a32f6c3d1d0113283f04bf21997189eb58b2446706ad00cbf6fa2177f865f6"), looks := false }, kinds := [], alts := [], laidByText := true, laidKinds := [.data], laidTests := true, laidLooks := .later }
def BeetleKeptUptoCardSaid : Prop := Claim7.holds Tryd.pinned (.plain (OpenSpec.upto beetleKeptSpec)) beetleKeptUptoCard
end Rows
end Go.Proofs.YtbhjphcomppjgaaDoor
