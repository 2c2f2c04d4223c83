/- Part of an own symbolic executor for the model's code, proved sound, and of the proof of one statement (see the text of the claimed theorem). -/
import Derived.Test.YtkpkfccgbehilaaGreatDoorBoD1
import Derived.Test.YtkpkfccgbehilaaGreatDoorBoJ0
import Derived.Test.YtkpkfccgbehilaaGreatDoorSxAH
namespace Go.Sx
open Go.Proofs Go.ChangeShapes Go.WideShapes Go.ChangeAt Go.RowKit
open Go.Proofs.YtkpkfccgbehilaaGreatDoor
set_option maxRecDepth 1000000
theorem closed : joinedFacts Tryz.prog 3 Tryz.f3 Rows.boundsOfSpec Rows.boundsOfRow = true := joinedFacts_of jf_a1 jf_a2 jf_a3 jf_a4 jf_a5 jf_a6 jf_a7 jf_a8 jf_a9 jf_b1 jf_b2 jf_b3 jf_b4 jf_b5 jf_b6 jf_b7 jf_b8 jf_b9 jf_c1 jf_c2 jf_c3 jf_c4 jf_c5 jf_c6 jf_c7 jf_c8 jf_c9 jf_d1 jf_d2 jf_d3 jf_d4 jf_d5
theorem boundsOf_holds : Rows.BoundsOfSaid :=
  OpenClaim.holds_of_wide (p := Tryz.pinned) 3 Tryz.f3 rfl rfl rfl rfl rfl rfl rfl ⟨rfl, rfl, rfl, rfl, rfl⟩ rfl rfl rfl rfl rfl named Tryz.func3 closed
    inst wrap (fun os started H enc _ => lifted os started H enc)
#print axioms boundsOf_holds
end Go.Sx
