/-
  DERIVED. GIVEN WITH THE SEED: THE CARDS: each row of YtdlndhbkcgmkkaaGreatDoorRows.lean that lists a variable, with what it lists TIED to the program's text (the seventh form; the later family's looks); each row that meets fmt, with fmt's text TOLD by the authors' own Lean function (tested against real Go, not proved from fmt's source: count such statements apart). THE CARD IS WHAT COUNTS. Prove the row's statement (the work); the ties are given (YtdlndhbkcgmkkaaGreatDoorTie.lean); close each card by the builder's one call (the guide's Derived/Test/ToyasCard.lean, 'card_holds'). Laid BY PROGRAM, IN A SANDBOX (cutbox-door.mjs). By AI agents, Wed Nov 11 2026. No macro, syntax, notation, axiom, sorry.
-/
import Derived.Test.YtdlndhbkcgmkkaaGreatDoorRows
import GoSem.ClaimSeven
namespace Go.Proofs.YtdlndhbkcgmkkaaGreatDoor
namespace Rows

/-- THE TIED CARD OF 'sleuthlaw05.SliceNeeds'. -/
def sliceNeedsCard : Claim7 := { stood := { row := sliceNeedsRow, standIns := [], harness := (true, "e7d14c5ed944e46a7d34a91a35747fa9da62550aed624e477098c56b56154b07"), looks := true }, kinds := [], alts := [], laidByText := true, laidKinds := [.data, .data, .data, .sentinel, .sentinel], laidTests := true, laidLooks := .later }
def SliceNeedsCardSaid : Prop := Claim7.holds Tryz.pinned (.plain (OpenSpec.ofChange sliceNeedsSpec)) sliceNeedsCard

/-- THE TIED CARD OF 'sleuthlaw05.SliceFlow'. -/
def sliceFlowCard : Claim7 := { stood := { row := sliceFlowRow, standIns := [], harness := (true, "e7d14c5ed944e46a7d34a91a35747fa9da62550aed624e477098c56b56154b07"), looks := true }, kinds := [], alts := [], laidByText := true, laidKinds := [.data, .data, .data, .sentinel, .sentinel], laidTests := true, laidLooks := .later }
def SliceFlowCardSaid : Prop := Claim7.holds Tryz.pinned (.plain (OpenSpec.ofChange sliceFlowSpec)) sliceFlowCard

/-- THE TIED CARD OF 'sleuthlaw05.SliceShapes'. -/
def sliceShapesCard : Claim7 := { stood := { row := sliceShapesRow, standIns := [], harness := (true, "e7d14c5ed944e46a7d34a91a35747fa9da62550aed624e477098c56b56154b07"), looks := true }, kinds := [], alts := [], laidByText := true, laidKinds := [.data, .data, .data, .sentinel, .sentinel], laidTests := true, laidLooks := .later }
def SliceShapesCardSaid : Prop := Claim7.holds Tryz.pinned (.plain (OpenSpec.ofChange sliceShapesSpec)) sliceShapesCard

/-- THE TIED CARD OF 'sleuthlaw05.SliceSets'. -/
def sliceSetsCard : Claim7 := { stood := { row := sliceSetsRow, standIns := [], harness := (true, "e7d14c5ed944e46a7d34a91a35747fa9da62550aed624e477098c56b56154b07"), looks := true }, kinds := [], alts := [], laidByText := true, laidKinds := [.data, .data, .data, .sentinel, .sentinel], laidTests := true, laidLooks := .later }
def SliceSetsCardSaid : Prop := Claim7.holds Tryz.pinned (.plain (OpenSpec.ofChange sliceSetsSpec)) sliceSetsCard

/-- THE TIED CARD OF 'sleuthlaw05.SliceFiner'. -/
def sliceFinerCard : Claim7 := { stood := { row := sliceFinerRow, standIns := [], harness := (true, "e7d14c5ed944e46a7d34a91a35747fa9da62550aed624e477098c56b56154b07"), looks := true }, kinds := [], alts := [], laidByText := true, laidKinds := [.data, .data, .data, .sentinel, .sentinel], laidTests := true, laidLooks := .later }
def SliceFinerCardSaid : Prop := Claim7.holds Tryz.pinned (.plain (OpenSpec.ofChange sliceFinerSpec)) sliceFinerCard

/-- THE TIED CARD OF 'sleuthlaw05.SliceBoth'. -/
def sliceBothCard : Claim7 := { stood := { row := sliceBothRow, standIns := [], harness := (true, "e7d14c5ed944e46a7d34a91a35747fa9da62550aed624e477098c56b56154b07"), looks := true }, kinds := [], alts := [], laidByText := true, laidKinds := [.data, .data, .data, .sentinel, .sentinel], laidTests := true, laidLooks := .later }
def SliceBothCardSaid : Prop := Claim7.holds Tryz.pinned (.plain (OpenSpec.ofChange sliceBothSpec)) sliceBothCard

/-- THE TIED CARD OF 'sleuthlaw05.SliceMakes'. -/
def sliceMakesCard : Claim7 := { stood := { row := sliceMakesRow, standIns := [], harness := (true, "e7d14c5ed944e46a7d34a91a35747fa9da62550aed624e477098c56b56154b07"), looks := true }, kinds := [], alts := [], laidByText := true, laidKinds := [.data, .data, .data, .sentinel, .sentinel], laidTests := true, laidLooks := .later }
def SliceMakesCardSaid : Prop := Claim7.holds Tryz.pinned (.plain (OpenSpec.ofChange sliceMakesSpec)) sliceMakesCard

/-- THE TIED CARD OF 'sleuthlaw05.SliceWhole'. -/
def sliceWholeCard : Claim7 := { stood := { row := sliceWholeRow, standIns := [], harness := (true, "e7d14c5ed944e46a7d34a91a35747fa9da62550aed624e477098c56b56154b07"), looks := true }, kinds := [], alts := [], laidByText := true, laidKinds := [.data, .data, .data, .sentinel, .sentinel], laidTests := true, laidLooks := .later }
def SliceWholeCardSaid : Prop := Claim7.holds Tryz.pinned (.plain (OpenSpec.ofChange sliceWholeSpec)) sliceWholeCard

/-- THE SECOND FORM's CARD OF 'sleuthlaw05.SliceNeeds'. -/
def sliceNeedsUptoCard : Claim7 := { stood := { row := sliceNeedsUptoRow, standIns := [], harness := (true, "e7d14c5ed944e46a7d34a91a35747fa9da62550aed624e477098c56b56154b07"), looks := true }, kinds := [], alts := [], laidByText := true, laidKinds := [.data, .data, .data, .sentinel, .sentinel], laidTests := true, laidLooks := .later }
def SliceNeedsUptoCardSaid : Prop := Claim7.holds Tryz.pinned (.plain (OpenSpec.upto sliceNeedsSpec)) sliceNeedsUptoCard

/-- THE SECOND FORM's CARD OF 'sleuthlaw05.SliceFlow'. -/
def sliceFlowUptoCard : Claim7 := { stood := { row := sliceFlowUptoRow, standIns := [], harness := (true, "e7d14c5ed944e46a7d34a91a35747fa9da62550aed624e477098c56b56154b07"), looks := true }, kinds := [], alts := [], laidByText := true, laidKinds := [.data, .data, .data, .sentinel, .sentinel], laidTests := true, laidLooks := .later }
def SliceFlowUptoCardSaid : Prop := Claim7.holds Tryz.pinned (.plain (OpenSpec.upto sliceFlowSpec)) sliceFlowUptoCard

/-- THE SECOND FORM's CARD OF 'sleuthlaw05.SliceShapes'. -/
def sliceShapesUptoCard : Claim7 := { stood := { row := sliceShapesUptoRow, standIns := [], harness := (true, "e7d14c5ed944e46a7d34a91a35747fa9da62550aed624e477098c56b56154b07"), looks := true }, kinds := [], alts := [], laidByText := true, laidKinds := [.data, .data, .data, .sentinel, .sentinel], laidTests := true, laidLooks := .later }
def SliceShapesUptoCardSaid : Prop := Claim7.holds Tryz.pinned (.plain (OpenSpec.upto sliceShapesSpec)) sliceShapesUptoCard

/-- THE SECOND FORM's CARD OF 'sleuthlaw05.SliceSets'. -/
def sliceSetsUptoCard : Claim7 := { stood := { row := sliceSetsUptoRow, standIns := [], harness := (true, "e7d14c5ed944e46a7d34a91a35747fa9da62550aed624e477098c56b56154b07"), looks := true }, kinds := [], alts := [], laidByText := true, laidKinds := [.data, .data, .data, .sentinel, .sentinel], laidTests := true, laidLooks := .later }
def SliceSetsUptoCardSaid : Prop := Claim7.holds Tryz.pinned (.plain (OpenSpec.upto sliceSetsSpec)) sliceSetsUptoCard

/-- THE SECOND FORM's CARD OF 'sleuthlaw05.SliceFiner'. -/
def sliceFinerUptoCard : Claim7 := { stood := { row := sliceFinerUptoRow, standIns := [], harness := (true, "e7d14c5ed944e46a7d34a91a35747fa9da62550aed624e477098c56b56154b07"), looks := true }, kinds := [], alts := [], laidByText := true, laidKinds := [.data, .data, .data, .sentinel, .sentinel], laidTests := true, laidLooks := .later }
def SliceFinerUptoCardSaid : Prop := Claim7.holds Tryz.pinned (.plain (OpenSpec.upto sliceFinerSpec)) sliceFinerUptoCard

/-- THE SECOND FORM's CARD OF 'sleuthlaw05.SliceBoth'. -/
def sliceBothUptoCard : Claim7 := { stood := { row := sliceBothUptoRow, standIns := [], harness := (true, "e7d14c5ed944e46a7d34a91a35747fa9da62550aed624e477098c56b56154b07"), looks := true }, kinds := [], alts := [], laidByText := true, laidKinds := [.data, .data, .data, .sentinel, .sentinel], laidTests := true, laidLooks := .later }
def SliceBothUptoCardSaid : Prop := Claim7.holds Tryz.pinned (.plain (OpenSpec.upto sliceBothSpec)) sliceBothUptoCard

/-- THE SECOND FORM's CARD OF 'sleuthlaw05.SliceMakes'. -/
def sliceMakesUptoCard : Claim7 := { stood := { row := sliceMakesUptoRow, standIns := [], harness := (true, "e7d14c5ed944e46a7d34a91a35747fa9da62550aed624e477098c56b56154b07"), looks := true }, kinds := [], alts := [], laidByText := true, laidKinds := [.data, .data, .data, .sentinel, .sentinel], laidTests := true, laidLooks := .later }
def SliceMakesUptoCardSaid : Prop := Claim7.holds Tryz.pinned (.plain (OpenSpec.upto sliceMakesSpec)) sliceMakesUptoCard

/-- THE SECOND FORM's CARD OF 'sleuthlaw05.SliceWhole'. -/
def sliceWholeUptoCard : Claim7 := { stood := { row := sliceWholeUptoRow, standIns := [], harness := (true, "e7d14c5ed944e46a7d34a91a35747fa9da62550aed624e477098c56b56154b07"), looks := true }, kinds := [], alts := [], laidByText := true, laidKinds := [.data, .data, .data, .sentinel, .sentinel], laidTests := true, laidLooks := .later }
def SliceWholeUptoCardSaid : Prop := Claim7.holds Tryz.pinned (.plain (OpenSpec.upto sliceWholeSpec)) sliceWholeUptoCard
end Rows
end Go.Proofs.YtdlndhbkcgmkkaaGreatDoor
