/-
  DERIVED. GIVEN WITH THE SEED: THE CARDS: each row of YtafngalmkblipaaGreatDoorRows.lean that lists a variable, with what it lists TIED to the program's text (the seventh form; the later family's looks); each row that meets fmt, with fmt's text TOLD by the authors' own Lean function (tested against real Go, not proved from fmt's source: count such statements apart). THE CARD IS WHAT COUNTS. Prove the row's statement (the work); the ties are given (YtafngalmkblipaaGreatDoorTie.lean); close each card by the builder's one call (the guide's Derived/Test/ToyasCard.lean, 'card_holds'). Laid BY PROGRAM, IN A SANDBOX (cutbox-door.mjs). By AI agents, Wed Nov 11 2026. No macro, syntax, notation, axiom, sorry.
-/
import Derived.Test.YtafngalmkblipaaGreatDoorRows
import GoSem.ClaimSeven
namespace Go.Proofs.YtafngalmkblipaaGreatDoor
namespace Rows

/-- THE TIED CARD OF 'wireglasslaw10.NamesPlays'. -/
def namesPlaysCard : Claim7 := { stood := { row := namesPlaysRow, standIns := [], harness := (true, "c4845f014a1d04e0b08bafc90d2edf1c78d51fe41cf9b065084ed9b074128071"), looks := true }, kinds := [], alts := [], laidByText := true, laidKinds := [.data, .data, .data, .listed, .data], laidTests := true, laidLooks := .later }
def NamesPlaysCardSaid : Prop := Claim7.holds Tryz.pinned (.plain (OpenSpec.ofChange namesPlaysSpec)) namesPlaysCard

/-- THE TIED CARD OF 'wireglasslaw10.NamesCopies'. -/
def namesCopiesCard : Claim7 := { stood := { row := namesCopiesRow, standIns := [], harness := (true, "c4845f014a1d04e0b08bafc90d2edf1c78d51fe41cf9b065084ed9b074128071"), looks := true }, kinds := [], alts := [], laidByText := true, laidKinds := [.data, .data, .data, .listed, .data], laidTests := true, laidLooks := .later }
def NamesCopiesCardSaid : Prop := Claim7.holds Tryz.pinned (.plain (OpenSpec.ofChange namesCopiesSpec)) namesCopiesCard

/-- THE SECOND FORM's CARD OF 'wireglasslaw10.NamesPlays'. -/
def namesPlaysUptoCard : Claim7 := { stood := { row := namesPlaysUptoRow, standIns := [], harness := (true, "c4845f014a1d04e0b08bafc90d2edf1c78d51fe41cf9b065084ed9b074128071"), looks := true }, kinds := [], alts := [], laidByText := true, laidKinds := [.data, .data, .data, .listed, .data], laidTests := true, laidLooks := .later }
def NamesPlaysUptoCardSaid : Prop := Claim7.holds Tryz.pinned (.plain (OpenSpec.upto namesPlaysSpec)) namesPlaysUptoCard

/-- THE SECOND FORM's CARD OF 'wireglasslaw10.NamesCopies'. -/
def namesCopiesUptoCard : Claim7 := { stood := { row := namesCopiesUptoRow, standIns := [], harness := (true, "c4845f014a1d04e0b08bafc90d2edf1c78d51fe41cf9b065084ed9b074128071"), looks := true }, kinds := [], alts := [], laidByText := true, laidKinds := [.data, .data, .data, .listed, .data], laidTests := true, laidLooks := .later }
def NamesCopiesUptoCardSaid : Prop := Claim7.holds Tryz.pinned (.plain (OpenSpec.upto namesCopiesSpec)) namesCopiesUptoCard
end Rows
end Go.Proofs.YtafngalmkblipaaGreatDoor
