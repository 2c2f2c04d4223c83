/- Part of an own symbolic executor for the model's code, proved sound, and of the proof of one statement (see the text of the claimed theorem). -/
import Derived.Test.YtnhpalpjfhpgjaaGreatDoorSxT8
import Derived.Test.YtnhpalpjfhpgjaaGreatDoorSxAH
import Derived.Test.YtnhpalpjfhpgjaaGreatDoorRows
namespace Go.Sx
open Go.Proofs Go.ChangeShapes Go.WideShapes Go.ChangeAt Go.RowKit
open Go.Proofs.YtnhpalpjfhpgjaaGreatDoor
set_option maxRecDepth 1000000
theorem own0 : ownKnob Tryz.prog.godebug = none := by kernel_rfl
theorem door_met (os : Os) (args : Array Value) : laidMetH Tryz.prog Rows.nodesVoidRow.laid ((World.doorLaid Tryz.prog 400 os).forCall (fun _ _ => 0) ⟨#[], args, []⟩).memory :=
  laidMetH_of_parts3 (fuel := 8) (laidMet_of_run' 8 (by kernel_rfl) (by kernel_rfl)) (by kernel_rfl) (by kernel_rfl)
theorem tg0 : (Tryz.prog.globals[0]?).map (·.type) = some 302 := by kernel_rfl
theorem tg1 : (Tryz.prog.globals[2]?).map (·.type) = some 398 := by kernel_rfl
theorem tg2 : (Tryz.prog.globals[1]?).map (·.type) = some 22 := by kernel_rfl
end Go.Sx
