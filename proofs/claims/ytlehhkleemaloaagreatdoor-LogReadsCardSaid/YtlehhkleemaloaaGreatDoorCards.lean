/-
  DERIVED. GIVEN WITH THE SEED: THE CARDS: each row of YtlehhkleemaloaaGreatDoorRows.lean that lists a variable, with what it lists TIED to the program's text (the seventh form; the later family's looks); each row that meets fmt, with fmt's text TOLD by the authors' own Lean function (tested against real Go, not proved from fmt's source: count such statements apart). THE CARD IS WHAT COUNTS. Prove the row's statement (the work); the ties are given (YtlehhkleemaloaaGreatDoorTie.lean); close each card by the builder's one call (the guide's Derived/Test/ToyasCard.lean, 'card_holds'). Laid BY PROGRAM, IN A SANDBOX (cutbox-door.mjs). By AI agents, Wed Nov 11 2026. No macro, syntax, notation, axiom, sorry.
-/
import Derived.Test.YtlehhkleemaloaaGreatDoorRows
import GoSem.ClaimSeven
namespace Go.Proofs.YtlehhkleemaloaaGreatDoor
namespace Rows

/-- THE TIED CARD OF 'examinerlaw35.LogLists'. -/
def logListsCard : Claim7 := { stood := { row := logListsRow, standIns := [], harness := (true, "36529fcd560c4384b82a95515f3da990ee48e13c84185e746117b01531c96862"), looks := true }, kinds := [], alts := [], laidByText := true, laidKinds := [.data, .data, .data, .pinned, .data, .sentinel, .sentinel], laidTests := true, laidLooks := .later }
def LogListsCardSaid : Prop := Claim7.holds Tryz.pinned (.plain (OpenSpec.ofChange logListsSpec)) logListsCard

/-- THE TIED CARD OF 'examinerlaw35.LogParts'. -/
def logPartsCard : Claim7 := { stood := { row := logPartsRow, standIns := [], harness := (true, "36529fcd560c4384b82a95515f3da990ee48e13c84185e746117b01531c96862"), looks := true }, kinds := [], alts := [], laidByText := true, laidKinds := [.data, .data, .data, .pinned, .data, .sentinel, .sentinel], laidTests := true, laidLooks := .later }
def LogPartsCardSaid : Prop := Claim7.holds Tryz.pinned (.plain (OpenSpec.ofChange logPartsSpec)) logPartsCard

/-- THE TIED CARD OF 'examinerlaw35.LogLines'. -/
def logLinesCard : Claim7 := { stood := { row := logLinesRow, standIns := [], harness := (true, "36529fcd560c4384b82a95515f3da990ee48e13c84185e746117b01531c96862"), looks := true }, kinds := [], alts := [], laidByText := true, laidKinds := [.data, .data, .data, .pinned, .data, .sentinel, .sentinel], laidTests := true, laidLooks := .later }
def LogLinesCardSaid : Prop := Claim7.holds Tryz.pinned (.plain (OpenSpec.ofChange logLinesSpec)) logLinesCard

/-- THE TIED CARD OF 'examinerlaw35.LogBack'. -/
def logBackCard : Claim7 := { stood := { row := logBackRow, standIns := [], harness := (true, "36529fcd560c4384b82a95515f3da990ee48e13c84185e746117b01531c96862"), looks := true }, kinds := [], alts := [], laidByText := true, laidKinds := [.data, .data, .data, .pinned, .data, .sentinel, .sentinel], laidTests := true, laidLooks := .later }
def LogBackCardSaid : Prop := Claim7.holds Tryz.pinned (.plain (OpenSpec.ofChange logBackSpec)) logBackCard

/-- THE TIED CARD OF 'examinerlaw35.LogReads'. -/
def logReadsCard : Claim7 := { stood := { row := logReadsRow, standIns := [], harness := (true, "36529fcd560c4384b82a95515f3da990ee48e13c84185e746117b01531c96862"), looks := true }, kinds := [], alts := [], laidByText := true, laidKinds := [.data, .data, .data, .pinned, .data, .sentinel, .sentinel], laidTests := true, laidLooks := .later }
def LogReadsCardSaid : Prop := Claim7.holds Tryz.pinned (.plain (OpenSpec.ofChange logReadsSpec)) logReadsCard

/-- THE SECOND FORM's CARD OF 'examinerlaw35.LogLists'. -/
def logListsUptoCard : Claim7 := { stood := { row := logListsUptoRow, standIns := [], harness := (true, "36529fcd560c4384b82a95515f3da990ee48e13c84185e746117b01531c96862"), looks := true }, kinds := [], alts := [], laidByText := true, laidKinds := [.data, .data, .data, .pinned, .data, .sentinel, .sentinel], laidTests := true, laidLooks := .later }
def LogListsUptoCardSaid : Prop := Claim7.holds Tryz.pinned (.plain (OpenSpec.upto logListsSpec)) logListsUptoCard

/-- THE SECOND FORM's CARD OF 'examinerlaw35.LogParts'. -/
def logPartsUptoCard : Claim7 := { stood := { row := logPartsUptoRow, standIns := [], harness := (true, "36529fcd560c4384b82a95515f3da990ee48e13c84185e746117b01531c96862"), looks := true }, kinds := [], alts := [], laidByText := true, laidKinds := [.data, .data, .data, .pinned, .data, .sentinel, .sentinel], laidTests := true, laidLooks := .later }
def LogPartsUptoCardSaid : Prop := Claim7.holds Tryz.pinned (.plain (OpenSpec.upto logPartsSpec)) logPartsUptoCard

/-- THE SECOND FORM's CARD OF 'examinerlaw35.LogLines'. -/
def logLinesUptoCard : Claim7 := { stood := { row := logLinesUptoRow, standIns := [], harness := (true, "36529fcd560c4384b82a95515f3da990ee48e13c84185e746117b01531c96862"), looks := true }, kinds := [], alts := [], laidByText := true, laidKinds := [.data, .data, .data, .pinned, .data, .sentinel, .sentinel], laidTests := true, laidLooks := .later }
def LogLinesUptoCardSaid : Prop := Claim7.holds Tryz.pinned (.plain (OpenSpec.upto logLinesSpec)) logLinesUptoCard

/-- THE SECOND FORM's CARD OF 'examinerlaw35.LogBack'. -/
def logBackUptoCard : Claim7 := { stood := { row := logBackUptoRow, standIns := [], harness := (true, "36529fcd560c4384b82a95515f3da990ee48e13c84185e746117b01531c96862"), looks := true }, kinds := [], alts := [], laidByText := true, laidKinds := [.data, .data, .data, .pinned, .data, .sentinel, .sentinel], laidTests := true, laidLooks := .later }
def LogBackUptoCardSaid : Prop := Claim7.holds Tryz.pinned (.plain (OpenSpec.upto logBackSpec)) logBackUptoCard

/-- THE SECOND FORM's CARD OF 'examinerlaw35.LogReads'. -/
def logReadsUptoCard : Claim7 := { stood := { row := logReadsUptoRow, standIns := [], harness := (true, "36529fcd560c4384b82a95515f3da990ee48e13c84185e746117b01531c96862"), looks := true }, kinds := [], alts := [], laidByText := true, laidKinds := [.data, .data, .data, .pinned, .data, .sentinel, .sentinel], laidTests := true, laidLooks := .later }
def LogReadsUptoCardSaid : Prop := Claim7.holds Tryz.pinned (.plain (OpenSpec.upto logReadsSpec)) logReadsUptoCard
end Rows
end Go.Proofs.YtlehhkleemaloaaGreatDoor
