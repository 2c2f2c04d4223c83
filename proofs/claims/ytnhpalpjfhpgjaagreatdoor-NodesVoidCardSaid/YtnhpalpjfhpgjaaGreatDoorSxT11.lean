/- Part of an own symbolic executor for the model's code, proved sound, and of the proof of one statement (see the text of the claimed theorem). -/
import Derived.Test.YtnhpalpjfhpgjaaGreatDoorSxT7
import Derived.Test.YtnhpalpjfhpgjaaGreatDoorSxT9
namespace Go.Sx
open Go.Proofs Go.ChangeShapes Go.WideShapes Go.ChangeAt Go.RowKit
open Go.Proofs.YtnhpalpjfhpgjaaGreatDoor
set_option maxRecDepth 1000000

theorem u118 : Tryz.prog.underlying 230 = some (.int .u8) := by kernel_rfl
theorem c3 : Tryz.prog.cellsOf 3 = 1 := by kernel_rfl
theorem c118 : Tryz.prog.cellsOf 230 = 1 := by kernel_rfl
theorem c32 : Tryz.prog.cellsOf 22 = 2 := by kernel_rfl

/-- A listed array of numbers is what it is read as. -/
theorem glob_ints {W : World} {name : String} {g : Nat} {t e n : Nat} {k : IntKind} {ns : List Int} {cs : Array Value} {fuel : Nat} {p : List MemPlace} {spare : Nat → Bool} {held : Bool} (hg : Tryz.prog.globalNamed name = some g) (hv : W.var? Tryz.prog name = some cs)
    (ht : Tryz.prog.underlying t = some (.array n e)) (he : Tryz.prog.underlying e = some (.int k)) (hc : Tryz.prog.cellsOf e = 1) (hn : n = ns.length)
    (h : DataW.trod (H := Unit) (fun _ => ()) Tryz.prog W 0 spare held fuel t cs.toList = some (.agg (ns.map fun x => .lit (.int k x)), p)) :
    VRel (fun b => b < W.heap.size) W noG (.iref (ns.map fun x => AV.int true k x)) (.pointer (some ⟨g, 0, none⟩)) := by
  have hcell := World.var?_cell hg hv
  have hcs := cells_ints ht he hc hn h
  have hlt : g < W.heap.size := by
    unfold World.var? at hv
    rw [hg] at hv
    simp only [Option.bind_some] at hv
    split at hv
    · rename_i hh; exact (Array.getElem?_eq_some_iff.1 hh).1
    · cases hv
  refine .iref (vs := fun i => Value.int k (ns.getD i 0)) hlt rfl (fun i c hi => ?_) (fun i c hi => ?_)
  · simp only [List.getElem?_map, Option.map_eq_some_iff] at hi
    obtain ⟨x, hx, rfl⟩ := hi
    have hl := (List.getElem?_eq_some_iff.1 hx).1
    have h1 := hcs i hl
    rw [hx] at h1
    have h2 := hcell i
    rw [Nat.zero_add, h2, ← Array.getElem?_toList, h1]
    simp [List.getD, hx]
  · simp only [List.getElem?_map, Option.map_eq_some_iff] at hi
    obtain ⟨x, hx, rfl⟩ := hi
    simp only [List.getD, hx, Option.getD_some]
    exact .int

theorem glob_ok {W : World} (h : laidMetH Tryz.prog Rows.nodesVoidRow.laid W) : GOk E0 (fun b => b < W.heap.size) W := by
  rw [MakeChecks.laidMetH_plain _ _ _ (by kernel_rfl)] at h
  obtain ⟨ps, ⟨ga, ta, ca, fa, pa, qa, hga, hta, hva, hda, ⟨gb, tb, cb, fb, pb, qb, hgb, htb, hvb, hdb, ⟨gc, tc, cc, fc, pc, qc, hgc, htc, hvc, hdc, _, _⟩, _⟩, _⟩, _, _⟩ := h
  obtain rfl := Option.some.inj (g2.symm.trans hga)
  obtain rfl := Option.some.inj (g0.symm.trans hgc)
  obtain rfl := Option.some.inj (tg2.symm.trans hta)
  obtain rfl := Option.some.inj (tg0.symm.trans htc)
  have h0 := glob_ints (ns := [1, 1, 2]) g0 hvc Tryz.underlying302 u118 c118 rfl hdc
  have h2 := glob_ints (ns := [1, -1]) g2 hva Tryz.underlying22 Tryz.underlying3 c3 rfl hda
  intro g cs hg
  have : (g = 0 ∧ cs = [.int true .u8 1, .int true .u8 1, .int true .u8 2]) ∨ (g = 1 ∧ cs = [.int true .i64 1, .int true .i64 (-1)]) := by
    simp only [E0, lookG] at hg
    split at hg
    · rename_i hb; left; cases hg; exact ⟨(Nat.eq_of_beq_eq_true hb).symm, rfl⟩
    · split at hg
      · rename_i hb; right; cases hg; exact ⟨(Nat.eq_of_beq_eq_true hb).symm, rfl⟩
      · cases hg
  rcases this with ⟨rfl, rfl⟩ | ⟨rfl, rfl⟩
  · exact h0
  · exact h2

theorem nv_calls (x0 x1 sym : Int) (w : World) (hg : GOk E0 (fun b => b < w.heap.size) w) :
    Calls Tryz.prog 3 #[.agg #[.int .i64 x0, .int .i64 x1], .int .u8 sym] w fun e w' => e = .returned (.bool true) ∧ Grown w w' :=
  go_calls F0_ok (nv x0 x1 sym) w _ hg rfl (fun i c v hc hv => by
    rcases i with _ | _ | i
    · simp at hc hv; subst hc; subst hv
      exact .agg rfl fun i c v hc hv => by
        rcases i with _ | _ | i
        · simp at hc hv; subst hc; subst hv; exact .int
        · simp at hc hv; subst hc; subst hv; exact .int
        · simp at hc
    · simp at hc hv; subst hc; subst hv; exact .int
    · simp at hc)
#print axioms nv_calls
#print axioms glob_ok
end Go.Sx

namespace Go.Sx
open Go.Proofs Go.ChangeShapes Go.WideShapes Go.ChangeAt Go.RowKit
set_option maxRecDepth 1000000
theorem open_pair {H : Type} {enc : TypeId × Value → H} {W : World} {base : Nat} {spare : Nat → Bool} {held : Bool} {v : Value} {d : DataW H} {ps : List MemPlace}
    (hd : DataW.Trod enc Tryz.prog W base spare held 22 v d ps) : ∃ x0 x1, v = .agg #[.int .i64 x0, .int .i64 x1] ∧ d = .agg [.lit (.int .i64 x0), .lit (.int .i64 x1)] ∧ ps = [] ∧
      ∀ (W' : World) (b : Nat) (sp : Nat → Bool) (hd : Bool), DataW.Trod enc Tryz.prog W' b sp hd 22 v d [] := by
  obtain ⟨fuel, hf⟩ := hd
  obtain ⟨xs, m, rfl, hx, hlen, hxl, hel⟩ := DataW.trod_array Tryz.underlying22 hf
  rw [c32] at hlen
  match xs, hxl with
  | [a, b], _ =>
    have h0 := hel 0 (by decide)
    have h1 := hel 1 (by decide)
    obtain ⟨x0, e0, f0, w0⟩ := DataW.trod_int Tryz.underlying3 (show DataW.trod _ Tryz.prog W _ _ _ m 3 _ = some a from h0)
    obtain ⟨x1, e1, f1, w1⟩ := DataW.trod_int Tryz.underlying3 (show DataW.trod _ Tryz.prog W _ _ _ m 3 _ = some b from h1)
    rw [c3] at e0 e1
    have hcells : v.cells.toList = [.int .i64 x0, .int .i64 x1] := by
      match hq : v.cells.toList, hlen with
      | [p, q], _ =>
        rw [hq] at e0 e1
        simp at e0 e1
        rw [e0, e1]
    subst f0; subst f1
    simp only [Prod.mk.injEq] at hx
    obtain ⟨hx1, hx2⟩ := hx
    have hv : v = .agg #[.int .i64 x0, .int .i64 x1] := by
      cases v <;> first
        | (rename_i cs; have : cs.toList = [.int .i64 x0, .int .i64 x1] := hcells; congr 1; apply Array.ext'; simpa using this)
        | (simp [Value.cells] at hcells)
    refine ⟨x0, x1, hv, by simpa using hx1, by simpa using hx2, fun W' b sp hd => ?_⟩
    subst hv
    have hx1' : d = .agg [.lit (.int .i64 x0), .lit (.int .i64 x1)] := by simpa using hx1
    subst hx1'
    exact ⟨2, by simp [DataW.trod, Tryz.underlying22, Tryz.underlying3, c3, c32, Value.cells, w0, w1, List.range_succ]⟩
end Go.Sx
