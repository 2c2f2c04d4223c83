/- Part of an own symbolic executor for the model's code, proved sound, and of the proof of one statement (see the text of the claimed theorem). -/
import Derived.Test.YtkpkfccgbehilaaGreatDoorBoD1
namespace Go.Sx
open Go.Proofs Go.ChangeShapes Go.WideShapes Go.ChangeAt Go.RowKit
open Go.Proofs.YtkpkfccgbehilaaGreatDoor
set_option maxRecDepth 1000000
theorem jf_a1 : Rows.boundsOfRow.wf (OpenSpec.ofChange Rows.boundsOfSpec) = true := by kernel_rfl
theorem jf_a2 : laidOutB Tryz.prog = true := by kernel_rfl
theorem jf_a3 : mapsRowed Tryz.prog = true := by kernel_rfl
theorem jf_a4 : Tryz.f3.params.all (Tryz.prog.readableRec ·) = true := by kernel_rfl
theorem jf_a5 : namedTie Tryz.prog Rows.boundsOfRow.named Rows.boundsOfSpec.vars = true := by kernel_rfl
theorem jf_a6 : (Rows.boundsOfRow.stops == []) = true := by kernel_rfl
theorem jf_a7 : (Tryz.prog.stops == []) = true := by kernel_rfl
theorem jf_a8 : (Rows.boundsOfRow.knobs == []) = true := by kernel_rfl
theorem jf_a9 : (Tryz.prog.stopKnobs == []) = true := by kernel_rfl
theorem jf_b1 : (Rows.boundsOfRow.inPlace == Tryz.prog.inPlace 3) = true := by kernel_rfl
theorem jf_b2 : (Rows.boundsOfRow.unfollowed == Tryz.prog.unfollowed 3) = true := by kernel_rfl
theorem jf_b3 : (Rows.boundsOfRow.recurses == Tryz.prog.recurses 3) = true := by kernel_rfl
theorem jf_b4 : (Rows.boundsOfRow.named == Tryz.prog.varsNamed 3) = true := by kernel_rfl
theorem jf_b5 : (Rows.boundsOfRow.maps == (Tryz.f3.params.toList ++ Rows.boundsOfSpec.plain.varTypes Tryz.prog).any (Tryz.prog.mapsRec ·)) = true := by kernel_rfl
theorem jf_b6 : (Rows.boundsOfRow.ifaces == (Tryz.f3.params.toList ++ Rows.boundsOfSpec.plain.varTypes Tryz.prog).any (Tryz.prog.ifacesRec ·)) = true := by kernel_rfl
theorem jf_b7 : (Rows.boundsOfRow.mapsOut == Tryz.prog.mapsAmong Tryz.f3.resultTypes.toList) = true := by kernel_rfl
theorem jf_b8 : (Rows.boundsOfRow.loops == (Tryz.f3.params.toList ++ Rows.boundsOfSpec.plain.varTypes Tryz.prog).any (Tryz.prog.loopsFrom ·)) = true := by kernel_rfl
theorem jf_b9 : (Rows.boundsOfRow.wideKeys == (Tryz.f3.params.toList ++ Rows.boundsOfSpec.plain.varTypes Tryz.prog ++ Tryz.f3.resultTypes.toList).any (Tryz.prog.wideKeysFrom ·)) = true := by kernel_rfl
theorem jf_c1 : Rows.boundsOfSpec.vars.all (Tryz.prog.varReadable ·) = true := by kernel_rfl
theorem jf_c2 : Tryz.f3.resultTypes.all (fun t => Tryz.prog.readableRec t && decide (t < Tryz.prog.types.size)) = true := by kernel_rfl
theorem jf_c3 : (Rows.boundsOfRow.ifacesOut == Tryz.f3.resultTypes.toList.any (Tryz.prog.ifacesRec ·)) = true := by kernel_rfl
theorem jf_c4 : (Rows.boundsOfRow.loopsOut == Tryz.f3.resultTypes.toList.any (Tryz.prog.loopsFrom ·)) = true := by kernel_rfl
theorem jf_c5 : (Rows.boundsOfRow.plainKeys == Tryz.prog.plainKeys) = true := by kernel_rfl
theorem jf_c6 : Rows.boundsOfRow.shortTexts.isNone = true := by kernel_rfl
theorem jf_c7 : Tryz.prog.stopsHeard = true := by kernel_rfl
theorem jf_c8 : Tryz.prog.mayEnter = true := by kernel_rfl
theorem jf_c9 : (Rows.boundsOfRow.lifted == Tryz.prog.liftsFinal) = true := by kernel_rfl
theorem jf_d1 : (Tryz.prog.make == some Rows.boundsOfRow.make) = true := by kernel_rfl
theorem jf_d2 : (Rows.boundsOfRow.kinds == (if Rows.boundsOfRow.domain.isEmpty then [] else Tryz.f3.params.toList.map fun t => match Tryz.prog.underlying t with | some (.int k) => some k | _ => none)) = true := by kernel_rfl
theorem jf_d3 : (Rows.boundsOfRow.pinned == Rows.boundsOfRow.pinnedBy) = true := by kernel_rfl
theorem jf_d4 : (Rows.boundsOfRow.veiled == (Tryz.f3.params.toList ++ Rows.boundsOfSpec.plain.varTypes Tryz.prog ++ Tryz.f3.resultTypes.toList).any (Tryz.prog.veiledRec ·)) = true := by kernel_rfl
theorem jf_d5 : Rows.boundsOfRow.veiledFits Tryz.prog Tryz.f3.params.toList (Tryz.f3.params.toList ++ Rows.boundsOfSpec.plain.varTypes Tryz.prog ++ Tryz.f3.resultTypes.toList) = true := by kernel_rfl
end Go.Sx
