/- Part of an own symbolic executor for the model's code, proved sound, and of the proof of one statement (see the text of the claimed theorem). -/
import Derived.Test.YtnhpalpjfhpgjaaGreatDoorSxT14
import Derived.Test.YtnhpalpjfhpgjaaGreatDoorTie
import Derived.Test.YtnhpalpjfhpgjaaGreatDoorCards
import Derived.SevenTiedAt
/- PROVED HERE: 'sennitlaw30.NodesVoid' returns true for every input, and its arguments read afterwards as they read before: the tied card. Conditions: those of the given row and card alone: the three listed package-level variables hold what the program's text lays (the tie is the given one). The run is gone through by an own symbolic executor, proved sound against the model, and reckoned by the kernel. -/
namespace Go.Proofs.YtnhpalpjfhpgjaaGreatDoor
open Go Go.Sx
set_option maxRecDepth 1000000
theorem nodesVoid_card : Rows.NodesVoidCardSaid :=
  Claim7.holds_tied_plain_at .later [] [.data, .data, .data] true (true, "369bf32efe7f455d8b69049d2356fb3025198675767f1fafc4c04b36c545febb") true
    nodesVoid_holds (fun _ h => by cases h) (by kernel_rfl) (fun _ h => by cases h) nodesVoid_row_tie rfl ⟨rfl, rfl⟩ (by kernel_rfl) rfl
    (fun f fn hf hfn => by
      obtain rfl : f = 3 := Option.some.inj (named.symm.trans hf) |>.symm
      obtain rfl : fn = Tryz.f3 := (Option.some.inj (Tryz.func3.symm.trans hfn)).symm
      exact ⟨by kernel_rfl, fun j t ht => by
        rw [Tryz.params3] at ht
        have hm : t ∈ [22, 5] := by simpa using Array.mem_of_getElem? ht
        have hall : ([22, 5].all fun u => !Tryz.prog.wantsStandIn u) = true := by kernel_rfl
        exact (show Tryz.prog.wantsStandIn t = false by simpa using List.all_eq_true.1 hall t hm)⟩)
    (by kernel_rfl)
#print axioms nodesVoid_card
end Go.Proofs.YtnhpalpjfhpgjaaGreatDoor
