/-
  DERIVED. GIVEN WITH THE SEED: THE CARDS: each row of YtjcbcjmnooploaaGreatDoorRows.lean that lists a variable, with what it lists TIED to the program's text (the seventh form; the later family's looks); each row that meets fmt, with fmt's text TOLD by the authors' own Lean function (tested against real Go, not proved from fmt's source: count such statements apart). THE CARD IS WHAT COUNTS. Prove the row's statement (the work); the ties are given (YtjcbcjmnooploaaGreatDoorTie.lean); close each card by the builder's one call (the guide's Derived/Test/ToyasCard.lean, 'card_holds'). Laid BY PROGRAM, IN A SANDBOX (cutbox-door.mjs). By AI agents, Wed Nov 11 2026. No macro, syntax, notation, axiom, sorry.
-/
import Derived.Test.YtjcbcjmnooploaaGreatDoorRows
import GoSem.ClaimSeven
namespace Go.Proofs.YtjcbcjmnooploaaGreatDoor
namespace Rows

/-- THE TIED CARD OF 'wireglasslaw10.NamesTold'. -/
def namesToldCard : Claim7 := { stood := { row := namesToldRow, standIns := [], harness := (true, "b0c7f90e019ff8e33601c287fc25d4ad69c2e93c37c45bfe6a60a31b15ffa7f2"), looks := false }, kinds := [], alts := [], laidByText := true, laidKinds := [.listed, .data], laidTests := true, laidLooks := .later }
def NamesToldCardSaid : Prop := Claim7.holds Tryz.pinned (.plain (OpenSpec.ofChange namesToldSpec)) namesToldCard

/-- THE SECOND FORM's CARD OF 'wireglasslaw10.NamesTold'. -/
def namesToldUptoCard : Claim7 := { stood := { row := namesToldUptoRow, standIns := [], harness := (true, "b0c7f90e019ff8e33601c287fc25d4ad69c2e93c37c45bfe6a60a31b15ffa7f2"), looks := false }, kinds := [], alts := [], laidByText := true, laidKinds := [.listed, .data], laidTests := true, laidLooks := .later }
def NamesToldUptoCardSaid : Prop := Claim7.holds Tryz.pinned (.plain (OpenSpec.upto namesToldSpec)) namesToldUptoCard
end Rows
end Go.Proofs.YtjcbcjmnooploaaGreatDoor
