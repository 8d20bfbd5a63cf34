/-
  DERIVED. GIVEN WITH THE SEED: THE CARDS: each row of YtbhgcdkahblllaaGreatDoorRows.lean that lists a variable, with what it lists TIED to the program's text (the seventh form; the later family's looks); each row that meets fmt, with fmt's text TOLD by the authors' own Lean function (tested against real Go, not proved from fmt's source: count such statements apart). THE CARD IS WHAT COUNTS. Prove the row's statement (the work); the ties are given (YtbhgcdkahblllaaGreatDoorTie.lean); close each card by the builder's one call (the guide's Derived/Test/ToyasCard.lean, 'card_holds'). Laid BY PROGRAM, IN A SANDBOX (cutbox-door.mjs). By AI agents, Wed Nov 11 2026. No macro, syntax, notation, axiom, sorry.
-/
import Derived.Test.YtbhgcdkahblllaaGreatDoorRows
import GoSem.ClaimSeven
namespace Go.Proofs.YtbhgcdkahblllaaGreatDoor
namespace Rows

/-- THE TIED CARD OF 'sleuthlaw05.SliceKnown'. -/
def sliceKnownCard : Claim7 := { stood := { row := sliceKnownRow, standIns := [], harness := (true, "46f345fdcb50553286d09be36d885c59e1d7f3ee64866451f77e7b4568c4442d"), looks := true }, kinds := [], alts := [], laidByText := true, laidKinds := [.data, .data, .data, .sentinel, .sentinel], laidTests := true, laidLooks := .later }
def SliceKnownCardSaid : Prop := Claim7.holds Tryz.pinned (.plain (OpenSpec.ofChange sliceKnownSpec)) sliceKnownCard

/-- THE TIED CARD OF 'sleuthlaw03.RecordNil'. -/
def recordNilCard : Claim7 := { stood := { row := recordNilRow, standIns := [], harness := (true, "46f345fdcb50553286d09be36d885c59e1d7f3ee64866451f77e7b4568c4442d"), looks := true }, kinds := [], alts := [], laidByText := true, laidKinds := [.data, .data, .data, .sentinel, .sentinel, .sentinel], laidTests := true, laidLooks := .later }
def RecordNilCardSaid : Prop := Claim7.holds Tryz.pinned (.plain (OpenSpec.ofChange recordNilSpec)) recordNilCard

/-- THE TIED CARD OF 'sleuthlaw03.RecordKnown'. -/
def recordKnownCard : Claim7 := { stood := { row := recordKnownRow, standIns := [], harness := (true, "46f345fdcb50553286d09be36d885c59e1d7f3ee64866451f77e7b4568c4442d"), looks := true }, kinds := [], alts := [], laidByText := true, laidKinds := [.data, .data, .data, .sentinel, .sentinel, .sentinel], laidTests := true, laidLooks := .later }
def RecordKnownCardSaid : Prop := Claim7.holds Tryz.pinned (.plain (OpenSpec.ofChange recordKnownSpec)) recordKnownCard

/-- THE TIED CARD OF 'sleuthlaw04.TraceKnown'. -/
def traceKnownCard : Claim7 := { stood := { row := traceKnownRow, standIns := [], harness := (true, "46f345fdcb50553286d09be36d885c59e1d7f3ee64866451f77e7b4568c4442d"), looks := true }, kinds := [], alts := [], laidByText := true, laidKinds := [.data, .data, .data, .sentinel, .sentinel, .sentinel], laidTests := true, laidLooks := .later }
def TraceKnownCardSaid : Prop := Claim7.holds Tryz.pinned (.plain (OpenSpec.ofChange traceKnownSpec)) traceKnownCard

/-- THE SECOND FORM's CARD OF 'sleuthlaw05.SliceKnown'. -/
def sliceKnownUptoCard : Claim7 := { stood := { row := sliceKnownUptoRow, standIns := [], harness := (true, "46f345fdcb50553286d09be36d885c59e1d7f3ee64866451f77e7b4568c4442d"), looks := true }, kinds := [], alts := [], laidByText := true, laidKinds := [.data, .data, .data, .sentinel, .sentinel], laidTests := true, laidLooks := .later }
def SliceKnownUptoCardSaid : Prop := Claim7.holds Tryz.pinned (.plain (OpenSpec.upto sliceKnownSpec)) sliceKnownUptoCard

/-- THE SECOND FORM's CARD OF 'sleuthlaw03.RecordNil'. -/
def recordNilUptoCard : Claim7 := { stood := { row := recordNilUptoRow, standIns := [], harness := (true, "46f345fdcb50553286d09be36d885c59e1d7f3ee64866451f77e7b4568c4442d"), looks := true }, kinds := [], alts := [], laidByText := true, laidKinds := [.data, .data, .data, .sentinel, .sentinel, .sentinel], laidTests := true, laidLooks := .later }
def RecordNilUptoCardSaid : Prop := Claim7.holds Tryz.pinned (.plain (OpenSpec.upto recordNilSpec)) recordNilUptoCard

/-- THE SECOND FORM's CARD OF 'sleuthlaw03.RecordKnown'. -/
def recordKnownUptoCard : Claim7 := { stood := { row := recordKnownUptoRow, standIns := [], harness := (true, "46f345fdcb50553286d09be36d885c59e1d7f3ee64866451f77e7b4568c4442d"), looks := true }, kinds := [], alts := [], laidByText := true, laidKinds := [.data, .data, .data, .sentinel, .sentinel, .sentinel], laidTests := true, laidLooks := .later }
def RecordKnownUptoCardSaid : Prop := Claim7.holds Tryz.pinned (.plain (OpenSpec.upto recordKnownSpec)) recordKnownUptoCard

/-- THE SECOND FORM's CARD OF 'sleuthlaw04.TraceKnown'. -/
def traceKnownUptoCard : Claim7 := { stood := { row := traceKnownUptoRow, standIns := [], harness := (true, "46f345fdcb50553286d09be36d885c59e1d7f3ee64866451f77e7b4568c4442d"), looks := true }, kinds := [], alts := [], laidByText := true, laidKinds := [.data, .data, .data, .sentinel, .sentinel, .sentinel], laidTests := true, laidLooks := .later }
def TraceKnownUptoCardSaid : Prop := Claim7.holds Tryz.pinned (.plain (OpenSpec.upto traceKnownSpec)) traceKnownUptoCard
end Rows
end Go.Proofs.YtbhgcdkahblllaaGreatDoor
