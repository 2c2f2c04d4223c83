/-
  DERIVED. GIVEN WITH THE SEED: THE CARDS: each row of YtnhpalpjfhpgjaaGreatDoorRows.lean that lists a variable, with what it lists TIED to the program's text (the seventh form; the later family's looks); each row that meets fmt, with fmt's text TOLD by the authors' own Lean function (tested against real Go, not proved from fmt's source: count such statements apart). THE CARD IS WHAT COUNTS. Prove the row's statement (the work); the ties are given (YtnhpalpjfhpgjaaGreatDoorTie.lean); close each card by the builder's one call (the guide's Derived/Test/ToyasCard.lean, 'card_holds'). Laid BY PROGRAM, IN A SANDBOX (cutbox-door.mjs). By AI agents, Wed Nov 11 2026. No macro, syntax, notation, axiom, sorry.
-/
import Derived.Test.YtnhpalpjfhpgjaaGreatDoorRows
import GoSem.ClaimSeven
namespace Go.Proofs.YtnhpalpjfhpgjaaGreatDoor
namespace Rows

/-- THE TIED CARD OF 'sennitlaw30.NodesVoid'. -/
def nodesVoidCard : Claim7 := { stood := { row := nodesVoidRow, standIns := [], harness := (true, "369bf32efe7f455d8b69049d2356fb3025198675767f1fafc4c04b36c545febb"), looks := true }, kinds := [], alts := [], laidByText := true, laidKinds := [.data, .data, .data], laidTests := true, laidLooks := .later }
def NodesVoidCardSaid : Prop := Claim7.holds Tryz.pinned (.plain (OpenSpec.ofChange nodesVoidSpec)) nodesVoidCard

/-- THE SECOND FORM's CARD OF 'sennitlaw30.NodesVoid'. -/
def nodesVoidUptoCard : Claim7 := { stood := { row := nodesVoidUptoRow, standIns := [], harness := (true, "369bf32efe7f455d8b69049d2356fb3025198675767f1fafc4c04b36c545febb"), looks := true }, kinds := [], alts := [], laidByText := true, laidKinds := [.data, .data, .data], laidTests := true, laidLooks := .later }
def NodesVoidUptoCardSaid : Prop := Claim7.holds Tryz.pinned (.plain (OpenSpec.upto nodesVoidSpec)) nodesVoidUptoCard
end Rows
end Go.Proofs.YtnhpalpjfhpgjaaGreatDoor
