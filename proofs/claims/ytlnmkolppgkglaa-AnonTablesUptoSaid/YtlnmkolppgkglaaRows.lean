/-
  No cell of these rows narrows 'for every input' (looked for: loops, veiled, ifaces, maps, wideKeys, modest, calm, conditions, laid).
  DERIVED. THE GIVEN ROWS OF THIS SEAT. 3 by the template 'for every input the law returns true; each argument reads behind the call as it read before'; 0 by the template 'total and deterministic' (their statements: YtlnmkolppgkglaaTotals.lean).
  GIVEN WITH THE SEED: the statements are not yours to turn. If you find one false, say at which input.
  Laid BY PROGRAM, IN A SANDBOX (cutbox-rows.mjs): the forced cells as the released guide's own fill.sh prints them over the translation 5c68a235a20ca090… (all of the seat's roots in one cut). By AI agents, Wed Nov 11 2026. No macro, syntax, notation, axiom, sorry.
-/
import Derived.Test.YtlnmkolppgkglaaChecked
import GoSem.Claim
import GoSem.ClaimJoined
import GoSem.ClaimMapViews
import Derived.JoinedTies
import Derived.KernelRfl
namespace Go.Proofs.Ytlnmkolppgkglaa
/- THE CELL 'sum', in the pinned program and in every row, IS THE sha256 OF THE DUMP (.gsa) THAT YtlnmkolppgkglaaProg.lean LOADS. Nothing in Lean hashes anything: it is a label: what it is worth is what the hold of that sum in a sandbox is worth. -/
noncomputable def Try.pinned : Pinned := { name := "ytlnmkolppgkglaa", sum := "5c68a235a20ca090574f0e7631291e4f3913a0184a33a57bb2a90f0126f2b804", checked := Try.checked }
namespace Rows
def none {H : Type} : Left H := { results := [], args := [] }

/-- 'wireglasslaw27.AnonKeeps': WHATEVER THE INPUT: true; the input reads as it did. -/
def anonKeepsSpec : ChangeSpec := { name := "anonKeeps", fn := fun _ => fun
  | [d1, d2, d3] => { results := [.lit (.bool true)], args := [d1, d2, d3] }
  | _ => none }
def anonKeepsRow : OpenClaim := { program := "ytlnmkolppgkglaa", sum := "5c68a235a20ca090574f0e7631291e4f3913a0184a33a57bb2a90f0126f2b804", func := "wireglass/wireglasslaw27.AnonKeeps", spec := "anonKeeps", unfollowed := true, recurses := true, apart := false }
def AnonKeepsSaid : Prop := anonKeepsRow.holds Try.pinned (OpenSpec.ofChange anonKeepsSpec)

/-- ITS FALSE NEIGHBOUR: 'it returns false'. Refute it at one input. -/
def anonKeepsWrong : ChangeSpec := { name := "anonKeeps", fn := fun _ => fun
  | [d1, d2, d3] => { results := [.lit (.bool false)], args := [d1, d2, d3] }
  | _ => none }
def AnonKeepsWrongFalsely : Prop := anonKeepsRow.holds Try.pinned (OpenSpec.ofChange anonKeepsWrong)

/-- 'wireglasslaw27.AnonMaps': WHATEVER THE INPUT: true; the input reads as it did. -/
def anonMapsSpec : ChangeSpec := { name := "anonMaps", fn := fun _ => fun
  | [d1, d2] => { results := [.lit (.bool true)], args := [d1, d2] }
  | _ => none }
def anonMapsRow : OpenClaim := { program := "ytlnmkolppgkglaa", sum := "5c68a235a20ca090574f0e7631291e4f3913a0184a33a57bb2a90f0126f2b804", func := "wireglass/wireglasslaw27.AnonMaps", spec := "anonMaps", unfollowed := true, recurses := true, apart := false }
def AnonMapsSaid : Prop := anonMapsRow.holds Try.pinned (OpenSpec.ofChange anonMapsSpec)

/-- ITS FALSE NEIGHBOUR: 'it returns false'. Refute it at one input. -/
def anonMapsWrong : ChangeSpec := { name := "anonMaps", fn := fun _ => fun
  | [d1, d2] => { results := [.lit (.bool false)], args := [d1, d2] }
  | _ => none }
def AnonMapsWrongFalsely : Prop := anonMapsRow.holds Try.pinned (OpenSpec.ofChange anonMapsWrong)

/-- 'wireglasslaw27.AnonTables': WHATEVER THE INPUT: true; the input reads as it did. -/
def anonTablesSpec : ChangeSpec := { name := "anonTables", fn := fun _ => fun
  | [d1, d2, d3] => { results := [.lit (.bool true)], args := [d1, d2, d3] }
  | _ => none }
def anonTablesRow : OpenClaim := { program := "ytlnmkolppgkglaa", sum := "5c68a235a20ca090574f0e7631291e4f3913a0184a33a57bb2a90f0126f2b804", func := "wireglass/wireglasslaw27.AnonTables", spec := "anonTables", inPlace := ["internal/bytealg.Compare"], unfollowed := true, recurses := true, apart := false }
def AnonTablesSaid : Prop := anonTablesRow.holds Try.pinned (OpenSpec.ofChange anonTablesSpec)

/-- ITS FALSE NEIGHBOUR: 'it returns false'. Refute it at one input. -/
def anonTablesWrong : ChangeSpec := { name := "anonTables", fn := fun _ => fun
  | [d1, d2, d3] => { results := [.lit (.bool false)], args := [d1, d2, d3] }
  | _ => none }
def AnonTablesWrongFalsely : Prop := anonTablesRow.holds Try.pinned (OpenSpec.ofChange anonTablesWrong)

/- THE SECOND FORM. 'bulk': how many values and letters a reading holds, each counted each time it is reached (what is shared counts as often as it is met; a slice's spare places count too). A statement '..UptoSaid' is the law's where the arguments, and the package variables that the reading takes, are together of bulk at most 1048576: NARROWER than '..Said'. Prove '..Said' where nothing that the law and all that it calls make is longer than what came in: it says more and counts as full. Else prove '..UptoSaid'. A law counts once. -/
mutual
def uptoBulk {H : Type} : DataW H → Nat
  | .lit (.string bytes) => bytes.length + 1
  | .lit _ => 1
  | .nil => 1
  | .ptr d => uptoBulk d + 1
  | .slice elems spare => uptoBulkAll elems + uptoBulkAll spare + 1
  | .agg parts => uptoBulkAll parts + 1
  | .iface _ d => uptoBulk d + 1
  | .map entries => uptoBulkEntries entries + 1
  | .held _ => 1
def uptoBulkAll {H : Type} : List (DataW H) → Nat
  | [] => 0
  | d :: r => uptoBulk d + uptoBulkAll r
def uptoBulkEntries {H : Type} : List (Lit × DataW H) → Nat
  | [] => 0
  | x :: r => uptoBulkEntry x + uptoBulkEntries r
def uptoBulkEntry {H : Type} : Lit × DataW H → Nat
  | (.string bytes, d) => bytes.length + uptoBulk d + 1
  | (_, d) => uptoBulk d + 1
 end
def uptoSmall : (H : Type) → List (DataW H) → Bool := fun _ ds => decide (uptoBulkAll ds ≤ 1048576)
def OpenSpec.upto (s : _root_.Go.ChangeSpec) : _root_.Go.OpenSpec := { _root_.Go.OpenSpec.ofChange s with cond := some uptoSmall }

/-- 'wireglasslaw27.AnonKeeps', WHERE WHAT IT READS IS OF BULK AT MOST 1048576: true; the input reads as it did. -/
def anonKeepsUptoRow : OpenClaim := { program := "ytlnmkolppgkglaa", sum := "5c68a235a20ca090574f0e7631291e4f3913a0184a33a57bb2a90f0126f2b804", func := "wireglass/wireglasslaw27.AnonKeeps", spec := "anonKeeps", unfollowed := true, recurses := true, apart := false, narrowed := true }
def AnonKeepsUptoSaid : Prop := anonKeepsUptoRow.holds Try.pinned (OpenSpec.upto anonKeepsSpec)

/-- 'wireglasslaw27.AnonMaps', WHERE WHAT IT READS IS OF BULK AT MOST 1048576: true; the input reads as it did. -/
def anonMapsUptoRow : OpenClaim := { program := "ytlnmkolppgkglaa", sum := "5c68a235a20ca090574f0e7631291e4f3913a0184a33a57bb2a90f0126f2b804", func := "wireglass/wireglasslaw27.AnonMaps", spec := "anonMaps", unfollowed := true, recurses := true, apart := false, narrowed := true }
def AnonMapsUptoSaid : Prop := anonMapsUptoRow.holds Try.pinned (OpenSpec.upto anonMapsSpec)

/-- 'wireglasslaw27.AnonTables', WHERE WHAT IT READS IS OF BULK AT MOST 1048576: true; the input reads as it did. -/
def anonTablesUptoRow : OpenClaim := { program := "ytlnmkolppgkglaa", sum := "5c68a235a20ca090574f0e7631291e4f3913a0184a33a57bb2a90f0126f2b804", func := "wireglass/wireglasslaw27.AnonTables", spec := "anonTables", inPlace := ["internal/bytealg.Compare"], unfollowed := true, recurses := true, apart := false, narrowed := true }
def AnonTablesUptoSaid : Prop := anonTablesUptoRow.holds Try.pinned (OpenSpec.upto anonTablesSpec)

end Rows
end Go.Proofs.Ytlnmkolppgkglaa
