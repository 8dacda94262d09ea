/-
  DERIVED. GIVEN WITH THE SEED: THE CARDS: each row of YtpcipfnahknngaaGreatDoorRows.lean that lists a variable, with what it lists TIED to the program's text (the seventh form; the later family's looks); each row that meets fmt, with fmt's text TOLD by the authors' own Lean function (tested against real Go, not proved from fmt's source: count such statements apart). THE CARD IS WHAT COUNTS. Prove the row's statement (the work); the ties are given (YtpcipfnahknngaaGreatDoorTie.lean); close each card by the builder's one call (the guide's Derived/Test/ToyasCard.lean, 'card_holds'). Laid BY PROGRAM, IN A SANDBOX (cutbox-door.mjs). By AI agents, Wed Nov 11 2026. No macro, syntax, notation, axiom, sorry.
-/
import Derived.Test.YtpcipfnahknngaaGreatDoorRows
import GoSem.ClaimSeven
namespace Go.Proofs.YtpcipfnahknngaaGreatDoor
namespace Rows

/-- THE TIED CARD OF 'ringerlaw10.WalRecords'. -/
def walRecordsCard : Claim7 := { stood := { row := walRecordsRow, standIns := [], harness := (true, "31e55806a63a1f705881196d9a2972aa90e968ade327d23860d969b738058ffa"), looks := true }, kinds := [], alts := [], laidByText := true, laidKinds := [.data, .data, .data, .sentinel, .sentinel], laidTests := true, laidLooks := .later }
def WalRecordsCardSaid : Prop := Claim7.holds Tryz.pinned (.plain (OpenSpec.ofChange walRecordsSpec)) walRecordsCard

/-- THE TIED CARD OF 'ringerlaw10.WalPlays'. -/
def walPlaysCard : Claim7 := { stood := { row := walPlaysRow, standIns := [], harness := (true, "31e55806a63a1f705881196d9a2972aa90e968ade327d23860d969b738058ffa"), looks := true }, kinds := [], alts := [], laidByText := true, laidKinds := [.data, .data, .data, .sentinel, .sentinel], laidTests := true, laidLooks := .later }
def WalPlaysCardSaid : Prop := Claim7.holds Tryz.pinned (.plain (OpenSpec.ofChange walPlaysSpec)) walPlaysCard

/-- THE TIED CARD OF 'ringerlaw10.WalTorn'. -/
def walTornCard : Claim7 := { stood := { row := walTornRow, standIns := [], harness := (true, "31e55806a63a1f705881196d9a2972aa90e968ade327d23860d969b738058ffa"), looks := true }, kinds := [], alts := [], laidByText := true, laidKinds := [.data, .data, .data, .sentinel, .sentinel], laidTests := true, laidLooks := .later }
def WalTornCardSaid : Prop := Claim7.holds Tryz.pinned (.plain (OpenSpec.ofChange walTornSpec)) walTornCard

/-- THE SECOND FORM's CARD OF 'ringerlaw10.WalRecords'. -/
def walRecordsUptoCard : Claim7 := { stood := { row := walRecordsUptoRow, standIns := [], harness := (true, "31e55806a63a1f705881196d9a2972aa90e968ade327d23860d969b738058ffa"), looks := true }, kinds := [], alts := [], laidByText := true, laidKinds := [.data, .data, .data, .sentinel, .sentinel], laidTests := true, laidLooks := .later }
def WalRecordsUptoCardSaid : Prop := Claim7.holds Tryz.pinned (.plain (OpenSpec.upto walRecordsSpec)) walRecordsUptoCard

/-- THE SECOND FORM's CARD OF 'ringerlaw10.WalPlays'. -/
def walPlaysUptoCard : Claim7 := { stood := { row := walPlaysUptoRow, standIns := [], harness := (true, "31e55806a63a1f705881196d9a2972aa90e968ade327d23860d969b738058ffa"), looks := true }, kinds := [], alts := [], laidByText := true, laidKinds := [.data, .data, .data, .sentinel, .sentinel], laidTests := true, laidLooks := .later }
def WalPlaysUptoCardSaid : Prop := Claim7.holds Tryz.pinned (.plain (OpenSpec.upto walPlaysSpec)) walPlaysUptoCard

/-- THE SECOND FORM's CARD OF 'ringerlaw10.WalTorn'. -/
def walTornUptoCard : Claim7 := { stood := { row := walTornUptoRow, standIns := [], harness := (true, "31e55806a63a1f705881196d9a2972aa90e968ade327d23860d969b738058ffa"), looks := true }, kinds := [], alts := [], laidByText := true, laidKinds := [.data, .data, .data, .sentinel, .sentinel], laidTests := true, laidLooks := .later }
def WalTornUptoCardSaid : Prop := Claim7.holds Tryz.pinned (.plain (OpenSpec.upto walTornSpec)) walTornUptoCard
end Rows
end Go.Proofs.YtpcipfnahknngaaGreatDoor
