/- Part of an own symbolic executor for the model's code, proved sound, and of the proof of one statement (see the text of the claimed theorem). -/
import Derived.Test.YtkpkfccgbehilaaGreatDoorBoC20
import Derived.Test.YtkpkfccgbehilaaGreatDoorSxAP
import Derived.Test.YtkpkfccgbehilaaGreatDoorRows
namespace Go.Sx
open Go.Proofs Go.ChangeShapes Go.WideShapes Go.ChangeAt Go.RowKit
open Go.Proofs.YtkpkfccgbehilaaGreatDoor
set_option maxRecDepth 1000000
theorem own0 : ownKnob Tryz.prog.godebug = none := by kernel_rfl
theorem door_met (os : Os) (args : Array Value) : laidMetH Tryz.prog Rows.boundsOfRow.laid ((World.doorLaid Tryz.prog 400 os).forCall (fun _ _ => 0) ⟨#[], args, []⟩).memory :=
  laidMetH_of_parts3 (fuel := 8) (laidMet_of_run' 8 (by kernel_rfl) (by kernel_rfl)) (by kernel_rfl) (by kernel_rfl)
theorem g2 : Tryz.prog.globalNamed "sennit/rings.signs" = some 0 := by kernel_rfl
theorem tg2 : (Tryz.prog.globals[0]?).map (·.type) = some 88 := by kernel_rfl
theorem c3 : Tryz.prog.cellsOf 3 = 1 := by kernel_rfl
theorem c32 : Tryz.prog.cellsOf 88 = 2 := by kernel_rfl
theorem cU : Tryz.prog.cellsOf 45 = 1 := by kernel_rfl
theorem cI : Tryz.prog.cellsOf 22 = 1 := by kernel_rfl
theorem cS : Tryz.prog.cellsOf 23 = 1 := by kernel_rfl
theorem cSt : Tryz.prog.cellsOf 47 = 3 := by kernel_rfl
theorem cC : Tryz.prog.cellsOf 25 = 9 := by kernel_rfl

/-- A listed array of numbers is what it is read as. -/
theorem glob_ints {W : World} {name : String} {g : Nat} {t e n : Nat} {k : IntKind} {ns : List Int} {cs : Array Value} {fuel : Nat} {p : List MemPlace} {spare : Nat → Bool} {held : Bool} (hg : Tryz.prog.globalNamed name = some g) (hv : W.var? Tryz.prog name = some cs)
    (ht : Tryz.prog.underlying t = some (.array n e)) (he : Tryz.prog.underlying e = some (.int k)) (hc : Tryz.prog.cellsOf e = 1) (hn : n = ns.length)
    (h : DataW.trod (H := Unit) (fun _ => ()) Tryz.prog W 0 spare held fuel t cs.toList = some (.agg (ns.map fun x => .lit (.int k x)), p)) :
    VRel (fun b => b < W.heap.size) W noG (.iref (ns.map fun x => AV.int true k x)) (.pointer (some ⟨g, 0, none⟩)) := by
  have hcell := World.var?_cell hg hv
  have hcs := cells_ints ht he hc hn h
  have hlt : g < W.heap.size := by
    unfold World.var? at hv
    rw [hg] at hv
    simp only [Option.bind_some] at hv
    split at hv
    · rename_i hh; exact (Array.getElem?_eq_some_iff.1 hh).1
    · cases hv
  refine .iref (vs := fun i => Value.int k (ns.getD i 0)) hlt rfl (fun i c hi => ?_) (fun i c hi => ?_)
  · simp only [List.getElem?_map, Option.map_eq_some_iff] at hi
    obtain ⟨x, hx, rfl⟩ := hi
    have hl := (List.getElem?_eq_some_iff.1 hx).1
    have h1 := hcs i hl
    rw [hx] at h1
    have h2 := hcell i
    rw [Nat.zero_add, h2, ← Array.getElem?_toList, h1]
    simp [List.getD, hx]
  · simp only [List.getElem?_map, Option.map_eq_some_iff] at hi
    obtain ⟨x, hx, rfl⟩ := hi
    simp only [List.getD, hx, Option.getD_some]
    exact .int

theorem glob_ok {W : World} (h : laidMetH Tryz.prog Rows.boundsOfRow.laid W) : GOk E0 (fun b => b < W.heap.size) W := by
  rw [MakeChecks.laidMetH_plain _ _ _ (by kernel_rfl)] at h
  obtain ⟨ps, ⟨ga, ta, ca, fa, pa, qa, hga, hta, hva, hda, _, _⟩, _, _⟩ := h
  obtain rfl := Option.some.inj (g2.symm.trans hga)
  obtain rfl := Option.some.inj (tg2.symm.trans hta)
  have h2 := glob_ints (ns := [1, -1]) g2 hva Tryz.underlying88 Tryz.underlying3 c3 rfl hda
  intro g cs hg
  have : g = 0 ∧ cs = [.int true .i64 1, .int true .i64 (-1)] := by
    simp only [E0, lookG] at hg
    split at hg
    · rename_i hb; cases hg; exact ⟨(Nat.eq_of_beq_eq_true hb).symm, rfl⟩
    · cases hg
  obtain ⟨rfl, rfl⟩ := this
  exact h2

theorem open_cfg {H : Type} {enc : TypeId × Value → H} {W : World} {base : Nat} {v : Value} {d : DataW H} {ps : List MemPlace} (hval : Value.okWide Tryz.prog W .any base 25 v)
    (hd : DataW.Trod enc Tryz.prog W 0 (fun _ => true) true 25 v d ps) : ∃ c : Cfg, VRel (Zw W) W noG (.agg c.cells) v := by
  obtain ⟨fuel, hf⟩ := hd
  obtain ⟨cs, rfl, hcs⟩ := okWide_struct Tryz.underlying25 hval
  rw [cC] at hcs
  obtain ⟨xs, n, _, _, hlen, hxl, hget⟩ := DataW.trod_struct Tryz.underlying25 hf
  obtain ⟨cs⟩ := cs
  simp only [Value.cells] at hget hlen
  match cs, hcs with
  | [v0, v1, v2, v3, v4, v5, v6, v7, v8], _ =>
  match xs, hxl with
  | [y0, y1, y2, y3, y4, y5, y6, y7, y8], _ =>
    have k0 : DataW.trod enc Tryz.prog W 0 (fun _ => true) true n 3 (([v0, v1, v2, v3, v4, v5, v6, v7, v8].drop 0).take (Tryz.prog.cellsOf 3)) = some y0 := hget 0 _ rfl
    rw [c3] at k0
    have k1 : DataW.trod enc Tryz.prog W 0 (fun _ => true) true n 22 (([v0, v1, v2, v3, v4, v5, v6, v7, v8].drop 1).take (Tryz.prog.cellsOf 22)) = some y1 := hget 1 _ rfl
    rw [cI] at k1
    have k2 : DataW.trod enc Tryz.prog W 0 (fun _ => true) true n 22 (([v0, v1, v2, v3, v4, v5, v6, v7, v8].drop 2).take (Tryz.prog.cellsOf 22)) = some y2 := hget 2 _ rfl
    rw [cI] at k2
    have k3 : DataW.trod enc Tryz.prog W 0 (fun _ => true) true n 3 (([v0, v1, v2, v3, v4, v5, v6, v7, v8].drop 3).take (Tryz.prog.cellsOf 3)) = some y3 := hget 3 _ rfl
    rw [c3] at k3
    have k4 : DataW.trod enc Tryz.prog W 0 (fun _ => true) true n 22 (([v0, v1, v2, v3, v4, v5, v6, v7, v8].drop 4).take (Tryz.prog.cellsOf 22)) = some y4 := hget 4 _ rfl
    rw [cI] at k4
    have k5 : DataW.trod enc Tryz.prog W 0 (fun _ => true) true n 23 (([v0, v1, v2, v3, v4, v5, v6, v7, v8].drop 5).take (Tryz.prog.cellsOf 23)) = some y5 := hget 5 _ rfl
    rw [cS] at k5
    have k6 : DataW.trod enc Tryz.prog W 0 (fun _ => true) true n 3 (([v0, v1, v2, v3, v4, v5, v6, v7, v8].drop 6).take (Tryz.prog.cellsOf 3)) = some y6 := hget 6 _ rfl
    rw [c3] at k6
    have k7 : DataW.trod enc Tryz.prog W 0 (fun _ => true) true n 3 (([v0, v1, v2, v3, v4, v5, v6, v7, v8].drop 7).take (Tryz.prog.cellsOf 3)) = some y7 := hget 7 _ rfl
    rw [c3] at k7
    have k8 : DataW.trod enc Tryz.prog W 0 (fun _ => true) true n 3 (([v0, v1, v2, v3, v4, v5, v6, v7, v8].drop 8).take (Tryz.prog.cellsOf 3)) = some y8 := hget 8 _ rfl
    rw [c3] at k8
    obtain ⟨z0, e0, _, _⟩ := DataW.trod_int Tryz.underlying3 (show DataW.trod enc Tryz.prog W 0 _ true n 3 [v0] = some y0 from k0)
    obtain ⟨z3, e3, _, _⟩ := DataW.trod_int Tryz.underlying3 (show DataW.trod enc Tryz.prog W 0 _ true n 3 [v3] = some y3 from k3)
    obtain ⟨z6, e6, _, _⟩ := DataW.trod_int Tryz.underlying3 (show DataW.trod enc Tryz.prog W 0 _ true n 3 [v6] = some y6 from k6)
    obtain ⟨z7, e7, _, _⟩ := DataW.trod_int Tryz.underlying3 (show DataW.trod enc Tryz.prog W 0 _ true n 3 [v7] = some y7 from k7)
    obtain ⟨z8, e8, _, _⟩ := DataW.trod_int Tryz.underlying3 (show DataW.trod enc Tryz.prog W 0 _ true n 3 [v8] = some y8 from k8)
    obtain ⟨n1, l1, r1⟩ := open_isl Tryz.underlying22 Tryz.underlying3 c3 (show DataW.trod enc Tryz.prog W 0 _ true n 22 [v1] = some y1 from k1)
    obtain ⟨n2, l2, r2⟩ := open_isl Tryz.underlying22 Tryz.underlying3 c3 (show DataW.trod enc Tryz.prog W 0 _ true n 22 [v2] = some y2 from k2)
    obtain ⟨n4, l4, r4⟩ := open_isl Tryz.underlying22 Tryz.underlying3 c3 (show DataW.trod enc Tryz.prog W 0 _ true n 22 [v4] = some y4 from k4)
    obtain ⟨n5, a5, b5, d5, r5⟩ := open_isl3 (t0 := 3) (t1 := 45) (t2 := 3) Tryz.underlying23 Tryz.underlying47 rfl rfl rfl rfl rfl rfl rfl Tryz.underlying3 Tryz.underlying45 Tryz.underlying3 c3 cU c3 cSt (show DataW.trod enc Tryz.prog W 0 _ true n 23 [v5] = some y5 from k5)
    cases e0; cases e3; cases e6; cases e7; cases e8
    refine ⟨⟨z0, n1, l1, n2, l2, z3, n4, l4, n5, a5, b5, d5, z6, z7, z8⟩, .agg rfl fun i c v hc hv => ?_⟩
    rcases i with _ | _ | _ | _ | _ | _ | _ | _ | _ | i
    · simp [Cfg.cells] at hc hv; subst hc; subst hv; exact .int
    · simp [Cfg.cells] at hc hv; subst hc; subst hv; exact r1
    · simp [Cfg.cells] at hc hv; subst hc; subst hv; exact r2
    · simp [Cfg.cells] at hc hv; subst hc; subst hv; exact .int
    · simp [Cfg.cells] at hc hv; subst hc; subst hv; exact r4
    · simp [Cfg.cells] at hc hv; subst hc; subst hv; exact r5
    · simp [Cfg.cells] at hc hv; subst hc; subst hv; exact .int
    · simp [Cfg.cells] at hc hv; subst hc; subst hv; exact .int
    · simp [Cfg.cells] at hc hv; subst hc; subst hv; exact .int
    · simp [Cfg.cells] at hc
end Go.Sx

namespace Go.Sx
open Go.Proofs Go.ChangeShapes Go.WideShapes Go.ChangeAt Go.RowKit
open Go.Proofs.YtkpkfccgbehilaaGreatDoor
set_option maxRecDepth 1000000
theorem laid0 : laidOutB Tryz.prog = true := by kernel_rfl
theorem read0 : Tryz.prog.readableRec 25 = true := by kernel_rfl
theorem lifted (os : Os) (started : os.Started) (H : Type) (enc : TypeId × Value → H) :
    ReturnsInHanded {} Tryz.checked os 3 .any (fun w args => (Rows.boundsOfSpec.pre enc Tryz.prog Tryz.f3 [] false w args ∧ laidMetH Tryz.prog Rows.boundsOfRow.laid w) ∧ sizedMet enc Tryz.prog Tryz.f3 (OpenSpec.ofChange Rows.boundsOfSpec) false w args)
      (Rows.boundsOfSpec.post enc Tryz.prog Tryz.f3 false true false false) := by
  refine returnsInHanded_of_change_and (C := Tryz.checked) (X := fun w _ => laidMetH Tryz.prog Rows.boundsOfRow.laid w) (fun _ _ _ hh h => h.of_heap hh) own0 started (by kernel_rfl) Tryz.func3
    (ChangeSpec.witness_shaped (enc := enc) (C := Tryz.checked) (os := os) (X := fun w _ => laidMetH Tryz.prog Rows.boundsOfRow.laid w) false (World.doorLaid Tryz.prog 400 os) #[.agg #[.int .i64 0, .slice none 0 0, .slice none 0 0, .int .i64 0, .slice none 0 0, .slice none 0 0, .int .i64 0, .int .i64 0, .int .i64 0]] 8 rfl (World.shaped_of_RefB (by kernel_rfl) (by kernel_rfl)) (by kernel_rfl) (by kernel_rfl) (by kernel_rfl) (door_met os _)) ?_
  intro W base args ds gs before hval0 hW _ _ hL _
  have hval : ∀ (j : Nat) t v, Tryz.f3.params[j]? = some t → args[j]? = some v → Value.okWide Tryz.prog W .any base t v := hval0
  have hW' := hW
  obtain ⟨p, q, hA0, hV, rfl, hfz, hnd⟩ := hW
  have hA : DataW.TrodAll enc Tryz.prog W 0 (fun _ => true) true Tryz.f3.params.toList args.toList ds p := hA0
  rw [Tryz.params3] at hA hval
  obtain ⟨v0, d0, rfl, rfl, h0⟩ := trodAll_one hA
  obtain ⟨rfl, rfl⟩ := trodVars_none hV
  obtain ⟨c, hc⟩ := open_cfg (hval 0 25 v0 rfl rfl) h0
  simp only [List.append_nil] at hW'
  have hlt : ∀ x ∈ p, x.block < W.heap.size := fun x hx => hW'.lt x hx
  refine (law_calls c v0 W (glob_ok hL) hc).mono fun e W' ⟨he, hgr⟩ => ?_
  subst he
  refine ⟨_, rfl, post_of_grown hgr (pa := p) (pv := []) hW' (fun _ _ => trodAll_mk1 (shut_bool Tryz.underlying4 _)) (fun _ _ => trodAll_mk1 (shut_bool Tryz.underlying4 _)) (fun sp hsp => ?_) (fun _ _ => rfl) (by simp) (ok_one (by kernel_rfl) rfl (okWide_bool_mk Tryz.underlying4 _))⟩
  exact trodAll_mk1 (Grown.stays laid0 read0 (of_decide_eq_true (by kernel_rfl)) h0 hgr hlt hsp)
end Go.Sx

namespace Go.Sx
open Go.Proofs Go.ChangeShapes Go.WideShapes Go.ChangeAt Go.RowKit
open Go.Proofs.YtkpkfccgbehilaaGreatDoor
set_option maxRecDepth 1000000
theorem inst : Tryz.f3.isInstance Tryz.pinned.checked.prog Rows.boundsOfRow.origin Rows.boundsOfRow.targs := of_decide_eq_true (by kernel_rfl)
theorem wrap : Tryz.f3.isWrapper Tryz.pinned.checked.prog Rows.boundsOfRow.wrapper Rows.boundsOfRow.mainSum := by unfold Func.isWrapper; first | (rw [if_pos (by decide +kernel)]; kernel_rfl) | (rw [if_neg (by decide +kernel)]; exact ⟨rfl, rfl⟩)
theorem named : Tryz.pinned.checked.prog.funcNamed Rows.boundsOfRow.func = some 3 := by kernel_rfl
end Go.Sx
