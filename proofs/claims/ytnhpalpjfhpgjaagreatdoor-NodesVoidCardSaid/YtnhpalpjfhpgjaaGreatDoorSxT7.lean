/- Part of an own symbolic executor for the model's code, proved sound, and of the proof of one statement (see the text of the claimed theorem). -/
import Derived.Test.YtnhpalpjfhpgjaaGreatDoorSxT2
namespace Go.Sx
open Go.Proofs
set_option maxRecDepth 1000000
theorem nv (x0 x1 sym : Int) : go (F0 (fun _ _ => False)) 3 [.agg [.int false .i64 x0, .int false .i64 x1], .int false .u8 sym] isT = True := by kernel_rfl
#print axioms nv
end Go.Sx
