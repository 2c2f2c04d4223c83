/- PROVED HERE: 'sennitlaw34.BoundsOf' returns true for every input, and its argument reads afterwards as it read before: the tied card. Conditions: those of the given row and card alone: the listed package-level variable holds what the program's text lays (the tie is the given one). The run is gone through by an own symbolic executor, proved sound against the model, and reckoned by the kernel. -/
import Derived.Test.YtkpkfccgbehilaaGreatDoorBoD4
import Derived.Test.YtkpkfccgbehilaaGreatDoorTie
import Derived.Test.YtkpkfccgbehilaaGreatDoorCards
import Derived.SevenTiedAt
namespace Go.Proofs.YtkpkfccgbehilaaGreatDoor
open Go Go.Sx
set_option maxRecDepth 1000000
theorem boundsOf_card : Rows.BoundsOfCardSaid :=
  Claim7.holds_tied_plain_at .later [] [.data] true (true, "8ae27264476b6b4c74ea971211281bb3d0257a3b3ba01ec912f7cc8c8d128e71") false
    boundsOf_holds (fun _ h => by cases h) (by kernel_rfl) (fun _ h => by cases h) boundsOf_row_tie rfl ⟨rfl, rfl⟩ (by kernel_rfl) rfl
    (fun f fn hf hfn => by
      obtain rfl : f = 3 := Option.some.inj (named.symm.trans hf) |>.symm
      obtain rfl : fn = Tryz.f3 := (Option.some.inj (Tryz.func3.symm.trans hfn)).symm
      exact ⟨by kernel_rfl, fun j t ht => by
        rw [Tryz.params3] at ht
        have hm : t ∈ [25] := by simpa using Array.mem_of_getElem? ht
        have hall : ([25].all fun u => !Tryz.prog.wantsStandIn u) = true := by kernel_rfl
        exact (show Tryz.prog.wantsStandIn t = false by simpa using List.all_eq_true.1 hall t hm)⟩)
    (by kernel_rfl)
#print axioms boundsOf_card
end Go.Proofs.YtkpkfccgbehilaaGreatDoor
