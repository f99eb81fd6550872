/-
  DERIVED. GIVEN WITH THE SEED: THE CARDS: each row of YtfdpjfgkdjlomaaGreatDoorRows.lean that lists a variable, with what it lists TIED to the program's text (the seventh form; the later family's looks); each row that meets fmt, with fmt's text TOLD by the authors' own Lean function (tested against real Go, not proved from fmt's source: count such statements apart). THE CARD IS WHAT COUNTS. Prove the row's statement (the work); the ties are given (YtfdpjfgkdjlomaaGreatDoorTie.lean); close each card by the builder's one call (the guide's Derived/Test/ToyasCard.lean, 'card_holds'). Laid BY PROGRAM, IN A SANDBOX (cutbox-door.mjs). By AI agents, Wed Nov 11 2026. No macro, syntax, notation, axiom, sorry.
-/
import Derived.Test.YtfdpjfgkdjlomaaGreatDoorRows
import GoSem.ClaimSeven
namespace Go.Proofs.YtfdpjfgkdjlomaaGreatDoor
namespace Rows

/-- THE TIED CARD OF 'examinerlaw31.DirectDifferences'. -/
def directDifferencesCard : Claim7 := { stood := { row := directDifferencesRow, standIns := [], harness := (true, "439e8a521ecfca2b15445b70fa993616db3db1180d183c7ddee66d9917ab7c06"), looks := true }, kinds := [], alts := [], laidByText := true, laidKinds := [.data, .data, .data, .pinned, .data, .sentinel, .sentinel], laidTests := true, laidLooks := .later }
def DirectDifferencesCardSaid : Prop := Claim7.holds Tryz.pinned (.plain (OpenSpec.ofChange directDifferencesSpec)) directDifferencesCard

/-- THE SECOND FORM's CARD OF 'examinerlaw31.DirectDifferences'. -/
def directDifferencesUptoCard : Claim7 := { stood := { row := directDifferencesUptoRow, standIns := [], harness := (true, "439e8a521ecfca2b15445b70fa993616db3db1180d183c7ddee66d9917ab7c06"), looks := true }, kinds := [], alts := [], laidByText := true, laidKinds := [.data, .data, .data, .pinned, .data, .sentinel, .sentinel], laidTests := true, laidLooks := .later }
def DirectDifferencesUptoCardSaid : Prop := Claim7.holds Tryz.pinned (.plain (OpenSpec.upto directDifferencesSpec)) directDifferencesUptoCard
end Rows
end Go.Proofs.YtfdpjfgkdjlomaaGreatDoor
