/-
  DERIVED. GIVEN WITH THE SEED: THE CARDS: each row of YtdpoecjbofofoaaGreatDoorRows.lean that lists a variable, with what it lists TIED to the program's text (the seventh form; the later family's looks); each row that meets fmt, with fmt's text TOLD by the authors' own Lean function (tested against real Go, not proved from fmt's source: count such statements apart). THE CARD IS WHAT COUNTS. Prove the row's statement (the work); the ties are given (YtdpoecjbofofoaaGreatDoorTie.lean); close each card by the builder's one call (the guide's Derived/Test/ToyasCard.lean, 'card_holds'). Laid BY PROGRAM, IN A SANDBOX (cutbox-door.mjs). By AI agents, Wed Nov 11 2026. No macro, syntax, notation, axiom, sorry.
-/
import Derived.Test.YtdpoecjbofofoaaGreatDoorRows
import GoSem.ClaimSeven
namespace Go.Proofs.YtdpoecjbofofoaaGreatDoor
namespace Rows

/-- THE TIED CARD OF 'sleuthlaw03.RecordLogs'. -/
def recordLogsCard : Claim7 := { stood := { row := recordLogsRow, standIns := [], harness := (true, "7e816e39ed3f0fb77a857b63b84ce555a426f6f3c3503addd84e6bef841cf522"), looks := true }, kinds := [], alts := [], laidByText := true, laidKinds := [.data, .data, .data, .sentinel, .sentinel, .sentinel], laidTests := true, laidLooks := .later }
def RecordLogsCardSaid : Prop := Claim7.holds Tryz.pinned (.plain (OpenSpec.ofChange recordLogsSpec)) recordLogsCard

/-- THE TIED CARD OF 'sleuthlaw03.RecordBytes'. -/
def recordBytesCard : Claim7 := { stood := { row := recordBytesRow, standIns := [], harness := (true, "7e816e39ed3f0fb77a857b63b84ce555a426f6f3c3503addd84e6bef841cf522"), looks := true }, kinds := [], alts := [], laidByText := true, laidKinds := [.data, .data, .data, .sentinel, .sentinel, .sentinel], laidTests := true, laidLooks := .later }
def RecordBytesCardSaid : Prop := Claim7.holds Tryz.pinned (.plain (OpenSpec.ofChange recordBytesSpec)) recordBytesCard

/-- THE SECOND FORM's CARD OF 'sleuthlaw03.RecordLogs'. -/
def recordLogsUptoCard : Claim7 := { stood := { row := recordLogsUptoRow, standIns := [], harness := (true, "7e816e39ed3f0fb77a857b63b84ce555a426f6f3c3503addd84e6bef841cf522"), looks := true }, kinds := [], alts := [], laidByText := true, laidKinds := [.data, .data, .data, .sentinel, .sentinel, .sentinel], laidTests := true, laidLooks := .later }
def RecordLogsUptoCardSaid : Prop := Claim7.holds Tryz.pinned (.plain (OpenSpec.upto recordLogsSpec)) recordLogsUptoCard

/-- THE SECOND FORM's CARD OF 'sleuthlaw03.RecordBytes'. -/
def recordBytesUptoCard : Claim7 := { stood := { row := recordBytesUptoRow, standIns := [], harness := (true, "7e816e39ed3f0fb77a857b63b84ce555a426f6f3c3503addd84e6bef841cf522"), looks := true }, kinds := [], alts := [], laidByText := true, laidKinds := [.data, .data, .data, .sentinel, .sentinel, .sentinel], laidTests := true, laidLooks := .later }
def RecordBytesUptoCardSaid : Prop := Claim7.holds Tryz.pinned (.plain (OpenSpec.upto recordBytesSpec)) recordBytesUptoCard
end Rows
end Go.Proofs.YtdpoecjbofofoaaGreatDoor
