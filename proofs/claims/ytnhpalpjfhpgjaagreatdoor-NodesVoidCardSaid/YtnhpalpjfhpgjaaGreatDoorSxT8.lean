/- Part of an own symbolic executor for the model's code, proved sound, and of the proof of one statement (see the text of the claimed theorem). -/
import Derived.Test.YtnhpalpjfhpgjaaGreatDoorSxT2
namespace Go.Sx
open Go.Proofs
set_option maxRecDepth 1000000
theorem mixed0 : Tryz.prog.follows .mixedOrders = true := by kernel_rfl
theorem eq0 : (E0.eqt.all fun t => !Tryz.prog.stoodInHeld t && !Tryz.prog.eqGuardType Tryz.prog.depth t) = true := by kernel_rfl
theorem E0_ok : E0.Ok where
  info := info_of TT_ok
  mixed := mixed0
  stood := fun t ht => by
    have := List.all_eq_true.1 eq0 t ht
    simp only [Bool.and_eq_true, Bool.not_eq_true'] at this
    exact this.1
  guard := fun t ht => by
    have := List.all_eq_true.1 eq0 t ht
    simp only [Bool.and_eq_true, Bool.not_eq_true'] at this
    exact this.2
theorem B0_ok : FsEnv E0 (B0 (fun _ _ => False)) := ⟨⟨E0_ok, fun _ _ h => h, fun f fc h => by cases h⟩, fun lid args H nid k _ h => h.elim, fun f sc h => by cases h⟩
theorem F0_ok : FsEnv E0 (F0 (fun _ _ => False)) := fsOf_ok E0_ok (tabOk_of FT0_ok) 64 _ B0_ok 20
theorem g0 : Tryz.prog.globalNamed "sennit/windows.roles" = some 0 := by kernel_rfl
theorem g1 : Tryz.prog.globalNamed "sennit/modes.edges" = some 2 := by kernel_rfl
theorem g2 : Tryz.prog.globalNamed "sennit/rings.signs" = some 1 := by kernel_rfl
theorem fLaw : Tryz.prog.funcNamed "sennit/sennitlaw30.NodesVoid" = some 3 := by kernel_rfl
end Go.Sx
