/- Part of an own symbolic executor for the model's code, proved sound, and of the proof of one statement (see the text of the claimed theorem). -/
import Derived.Test.YtnhpalpjfhpgjaaGreatDoorSxT11
namespace Go.Sx
open Go.Proofs Go.ChangeShapes Go.WideShapes Go.ChangeAt Go.RowKit
open Go.Proofs.YtnhpalpjfhpgjaaGreatDoor
set_option maxRecDepth 1000000
theorem inst : Tryz.f3.isInstance Tryz.pinned.checked.prog Rows.nodesVoidRow.origin Rows.nodesVoidRow.targs := of_decide_eq_true (by kernel_rfl)
theorem wrap : Tryz.f3.isWrapper Tryz.pinned.checked.prog Rows.nodesVoidRow.wrapper Rows.nodesVoidRow.mainSum := by unfold Func.isWrapper; first | (rw [if_pos (by decide +kernel)]; kernel_rfl) | (rw [if_neg (by decide +kernel)]; exact ⟨rfl, rfl⟩)
end Go.Sx
