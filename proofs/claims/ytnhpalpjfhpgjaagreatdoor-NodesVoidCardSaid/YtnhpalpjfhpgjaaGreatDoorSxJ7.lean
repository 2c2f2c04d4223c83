/- Part of an own symbolic executor for the model's code, proved sound, and of the proof of one statement (see the text of the claimed theorem). -/
import Derived.Test.YtnhpalpjfhpgjaaGreatDoorSxT9
namespace Go.Sx
open Go.Proofs Go.ChangeShapes Go.WideShapes Go.ChangeAt Go.RowKit
open Go.Proofs.YtnhpalpjfhpgjaaGreatDoor
set_option maxRecDepth 1000000
theorem jf_a1 : Rows.nodesVoidRow.wf (OpenSpec.ofChange Rows.nodesVoidSpec) = true := by kernel_rfl
theorem jf_a4 : Tryz.f3.params.all (Tryz.prog.readableRec ·) = true := by kernel_rfl
theorem jf_a5 : namedTie Tryz.prog Rows.nodesVoidRow.named Rows.nodesVoidSpec.vars = true := by kernel_rfl
theorem jf_a6 : (Rows.nodesVoidRow.stops == []) = true := by kernel_rfl
theorem jf_a7 : (Tryz.prog.stops == []) = true := by kernel_rfl
theorem jf_a8 : (Rows.nodesVoidRow.knobs == []) = true := by kernel_rfl
theorem jf_a9 : (Tryz.prog.stopKnobs == []) = true := by kernel_rfl
theorem jf_b5 : (Rows.nodesVoidRow.maps == (Tryz.f3.params.toList ++ Rows.nodesVoidSpec.plain.varTypes Tryz.prog).any (Tryz.prog.mapsRec ·)) = true := by kernel_rfl
theorem jf_b6 : (Rows.nodesVoidRow.ifaces == (Tryz.f3.params.toList ++ Rows.nodesVoidSpec.plain.varTypes Tryz.prog).any (Tryz.prog.ifacesRec ·)) = true := by kernel_rfl
theorem jf_b7 : (Rows.nodesVoidRow.mapsOut == Tryz.prog.mapsAmong Tryz.f3.resultTypes.toList) = true := by kernel_rfl
theorem jf_b8 : (Rows.nodesVoidRow.loops == (Tryz.f3.params.toList ++ Rows.nodesVoidSpec.plain.varTypes Tryz.prog).any (Tryz.prog.loopsFrom ·)) = true := by kernel_rfl
theorem jf_b9 : (Rows.nodesVoidRow.wideKeys == (Tryz.f3.params.toList ++ Rows.nodesVoidSpec.plain.varTypes Tryz.prog ++ Tryz.f3.resultTypes.toList).any (Tryz.prog.wideKeysFrom ·)) = true := by kernel_rfl
theorem jf_c1 : Rows.nodesVoidSpec.vars.all (Tryz.prog.varReadable ·) = true := by kernel_rfl
theorem jf_c2 : Tryz.f3.resultTypes.all (fun t => Tryz.prog.readableRec t && decide (t < Tryz.prog.types.size)) = true := by kernel_rfl
theorem jf_c3 : (Rows.nodesVoidRow.ifacesOut == Tryz.f3.resultTypes.toList.any (Tryz.prog.ifacesRec ·)) = true := by kernel_rfl
theorem jf_c4 : (Rows.nodesVoidRow.loopsOut == Tryz.f3.resultTypes.toList.any (Tryz.prog.loopsFrom ·)) = true := by kernel_rfl
theorem jf_c5 : (Rows.nodesVoidRow.plainKeys == Tryz.prog.plainKeys) = true := by kernel_rfl
theorem jf_c6 : Rows.nodesVoidRow.shortTexts.isNone = true := by kernel_rfl
theorem jf_c9 : (Rows.nodesVoidRow.lifted == Tryz.prog.liftsFinal) = true := by kernel_rfl
theorem jf_d1 : (Tryz.prog.make == some Rows.nodesVoidRow.make) = true := by kernel_rfl
theorem jf_d2 : (Rows.nodesVoidRow.kinds == (if Rows.nodesVoidRow.domain.isEmpty then [] else Tryz.f3.params.toList.map fun t => match Tryz.prog.underlying t with | some (.int k) => some k | _ => none)) = true := by kernel_rfl
theorem jf_d3 : (Rows.nodesVoidRow.pinned == Rows.nodesVoidRow.pinnedBy) = true := by kernel_rfl
theorem jf_d4 : (Rows.nodesVoidRow.veiled == (Tryz.f3.params.toList ++ Rows.nodesVoidSpec.plain.varTypes Tryz.prog ++ Tryz.f3.resultTypes.toList).any (Tryz.prog.veiledRec ·)) = true := by kernel_rfl
theorem jf_d5 : Rows.nodesVoidRow.veiledFits Tryz.prog Tryz.f3.params.toList (Tryz.f3.params.toList ++ Rows.nodesVoidSpec.plain.varTypes Tryz.prog ++ Tryz.f3.resultTypes.toList) = true := by kernel_rfl
end Go.Sx
