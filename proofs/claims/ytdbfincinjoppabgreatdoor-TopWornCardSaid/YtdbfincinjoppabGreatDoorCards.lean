/-
  DERIVED. GIVEN WITH THE SEED: THE CARDS: each row of YtdbfincinjoppabGreatDoorRows.lean that lists a variable, with what it lists TIED to the program's text (the seventh form; the later family's looks); each row that meets fmt, with fmt's text TOLD by the authors' own Lean function (tested against real Go, not proved from fmt's source: count such statements apart). THE CARD IS WHAT COUNTS. Prove the row's statement (the work); the ties are given (YtdbfincinjoppabGreatDoorTie.lean); close each card by the builder's one call (the guide's Derived/Test/ToyasCard.lean, 'card_holds'). Laid BY PROGRAM, IN A SANDBOX (cutbox-door.mjs). By AI agents, Wed Nov 11 2026. No macro, syntax, notation, axiom, sorry.
-/
import Derived.Test.YtdbfincinjoppabGreatDoorRows
import GoSem.ClaimSeven
namespace Go.Proofs.YtdbfincinjoppabGreatDoor
namespace Rows

/-- THE TIED CARD OF 'hachuretop.TopWorn'. -/
def topWornCard : Claim7 := { stood := { row := topWornRow, standIns := [], harness := (true, "7cb5d679b1daac38818b05a6f6f38ef201b2aefe6a71057951c92eed5a9be325"), looks := false }, kinds := [], alts := [], laidByText := true, laidKinds := [.data, .data], laidTests := true, laidLooks := .later }
def TopWornCardSaid : Prop := Claim7.holds Tryz.pinned (.plain (OpenSpec.ofChange topWornSpec)) topWornCard

/-- THE SECOND FORM's CARD OF 'hachuretop.TopWorn'. -/
def topWornUptoCard : Claim7 := { stood := { row := topWornUptoRow, standIns := [], harness := (true, "7cb5d679b1daac38818b05a6f6f38ef201b2aefe6a71057951c92eed5a9be325"), looks := false }, kinds := [], alts := [], laidByText := true, laidKinds := [.data, .data], laidTests := true, laidLooks := .later }
def TopWornUptoCardSaid : Prop := Claim7.holds Tryz.pinned (.plain (OpenSpec.upto topWornSpec)) topWornUptoCard
end Rows
end Go.Proofs.YtdbfincinjoppabGreatDoor
