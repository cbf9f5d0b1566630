/-
  DERIVED. GIVEN WITH THE SEED: THE CARDS: each row of YtnbgojbmlnohhaaGreatDoorRows.lean that lists a variable, with what it lists TIED to the program's text (the seventh form; the later family's looks); each row that meets fmt, with fmt's text TOLD by the authors' own Lean function (tested against real Go, not proved from fmt's source: count such statements apart). THE CARD IS WHAT COUNTS. Prove the row's statement (the work); the ties are given (YtnbgojbmlnohhaaGreatDoorTie.lean); close each card by the builder's one call (the guide's Derived/Test/ToyasCard.lean, 'card_holds'). Laid BY PROGRAM, IN A SANDBOX (cutbox-door.mjs). By AI agents, Wed Nov 11 2026. No macro, syntax, notation, axiom, sorry.
-/
import Derived.Test.YtnbgojbmlnohhaaGreatDoorRows
import GoSem.ClaimSeven
namespace Go.Proofs.YtnbgojbmlnohhaaGreatDoor
namespace Rows

/-- THE TIED CARD OF 'wireglasslaw10.NamesPorts'. -/
def namesPortsCard : Claim7 := { stood := { row := namesPortsRow, standIns := [], harness := (true, "acdddd31c9913f5f2367c4c2f96187b77e7f7aa27f73f6feb4e01ba03557ca84"), looks := false }, kinds := [], alts := [], laidByText := true, laidKinds := [.listed, .data], laidTests := true, laidLooks := .later }
def NamesPortsCardSaid : Prop := Claim7.holds Tryz.pinned (.plain (OpenSpec.ofChange namesPortsSpec)) namesPortsCard

/-- THE SECOND FORM's CARD OF 'wireglasslaw10.NamesPorts'. -/
def namesPortsUptoCard : Claim7 := { stood := { row := namesPortsUptoRow, standIns := [], harness := (true, "acdddd31c9913f5f2367c4c2f96187b77e7f7aa27f73f6feb4e01ba03557ca84"), looks := false }, kinds := [], alts := [], laidByText := true, laidKinds := [.listed, .data], laidTests := true, laidLooks := .later }
def NamesPortsUptoCardSaid : Prop := Claim7.holds Tryz.pinned (.plain (OpenSpec.upto namesPortsSpec)) namesPortsUptoCard
end Rows
end Go.Proofs.YtnbgojbmlnohhaaGreatDoor
