/- Part of an own symbolic executor for the model's code, proved sound, and of the proof of one statement (see the text of the claimed theorem). -/
import Derived.Test.YtnhpalpjfhpgjaaGreatDoorSxTab
import Derived.Test.YtnhpalpjfhpgjaaGreatDoorSxAH
namespace Go.Sx
open Go.Proofs
noncomputable def E0 : Env := { P := Tryz.prog, tt := TT, G := [(0, [.int true .u8 1, .int true .u8 1, .int true .u8 2]), (1, [.int true .i64 1, .int true .i64 (-1)])], eqt := [40, 42, 116, 152, 57, 85, 232, 293, 55, 49, 43, 44, 46], lit := true }
noncomputable def B0 (s : Op → List AV → Prop) : Fs := ⟨⟨fun _ => none, s⟩, fun _ => none, fun _ _ _ _ _ => False⟩
noncomputable def F0 (s : Op → List AV → Prop) : Fs := fsOf E0 FT0 64 (fun _ => true) (B0 s) 20
def ints (l : List Int) : AV := .isl 1 l.length none (fun i => match l[i]? with
  | some x => [.int true .i64 x]
  | none => [])
def small : AV := .agg [.int true .i64 4, ints [0, 2], ints [0, 1], .int true .i64 120, ints [0, 0, 0, 0], .nils, .int true .i64 3, .int true .i64 2, .int true .i64 3]
end Go.Sx
