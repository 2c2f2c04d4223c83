/- Part of an own symbolic executor for the model's code, proved sound, and of the proof of one statement (see the text of the claimed theorem). -/
import Derived.Test.YtkpkfccgbehilaaGreatDoorSxAE
import Derived.RowKitTokens
import Derived.OpenShut
import Derived.ProofKit
import Derived.LaidMore
import Derived.Stop.Joined
import Derived.JoinedOf
namespace Go.Sx

def isT (r : AV) (_ : Heap) (_ : Nat) : Prop :=
  match r with
  | .bool true => True
  | _ => False

/-- A function of a table, gone through from an empty heap. -/
def go (F : Fs) (f : Nat) (args : List AV) (k : AV → Heap → Nat → Prop) : Prop :=
  match F.I f with
  | some sc => sc args .e 0 k
  | none => False

/-- What lay there stays. -/
structure Grown (w w' : World) : Prop where
  size : w.heap.size ≤ w'.heap.size
  old : ∀ b, b < w.heap.size → w'.heap[b]? = w.heap[b]?
  tape : w'.tape = w.tape
  os : w'.os = w.os
  output : w'.output = w.output

theorem go_calls {E : Env} {F : Fs} (hE : FsEnv E F) {f : FuncId} {args : List AV} (h : go F f args isT = True) (w : World) (vs : Array Value) (hg : GOk E (fun b => b < w.heap.size) w) (hsz : vs.size = args.length)
    (hv : ∀ (i : Nat) c v, args[i]? = some c → vs[i]? = some v → VRel (fun b => b < w.heap.size) w noG c v) :
    Calls E.P f vs w fun e w' => e = .returned (.bool true) ∧ Grown w w' := by
  have h := of_eq_true h
  unfold go at h
  split at h
  rotate_left
  · exact h.elim
  rename_i sc hsc
  obtain ⟨r, H', nid', hk, _, hrun⟩ := (hE.inl f sc hsc).run args .e 0 isT (fun i _ => Tr.get_e i) h
  have he : ∀ i, (.e : Heap).get i = none := fun i => Tr.get_e i
  refine (hrun (fun b => b < w.heap.size) noG w vs ⟨fun i ch hi => (by rw [he i] at hi; cases hi), fun i j ci cj b hi => (by rw [he i] at hi; cases hi), fun i b h => (by cases h), fun b hb => hb, fun _ _ => rfl⟩ hg hsz hv).mono ?_
  rintro e w' ⟨v, Z', γ', rfl, hr, _, hrn⟩
  unfold isT at hk
  split at hk
  · cases hr
    exact ⟨rfl, hrn.size, fun b hb => hrn.keep b hb (fun i ⟨ch, hc, _⟩ => by rw [he i] at hc; cases hc), hrn.tape, hrn.os, hrn.output⟩
  · exact hk.elim

end Go.Sx

namespace Go.Sx
open Go.ChangeShapes
variable {H : Type} {enc : TypeId × Value → H} {P : Program}

theorem Grown.keptBut {w w' : World} (h : Grown w w') (may : MemPlace → Prop) : w.keptBut w' may := by
  refine ⟨h.os, h.output, fun i hi => ?_⟩
  rw [h.old i hi]
  split
  · rename_i a b; cases a.symm.trans b; exact ⟨rfl, rfl, rfl, fun _ _ => rfl⟩
  · rename_i a b; cases a.symm.trans b; exact .inr ⟨rfl, rfl⟩
  · rfl

theorem Grown.frozen {w w' : World} (h : Grown w w') {a : Addr} (ha : a.block < w.heap.size) : w'.frozen? a = w.frozen? a := by
  simp only [World.frozen?, h.old _ ha]

/-- As 'post_of_same'', in a world that has grown. -/
theorem post_of_grown {f : Func} {s : ChangeSpec} {apart fresh handsOn again : Bool} {W W' : World} {args : Array Value} {v : Value} {ds gs : List (DataW H)} {before pa pv : List MemPlace} (hgr : Grown W W')
    (hW : DataW.Whole enc P f.params.toList s.vars apart W args.toList ds gs before)
    (hres : ∀ (b : Nat) (sp : Nat → Bool), DataW.TrodAll enc P W' b sp handsOn f.resultTypes.toList (v.resultList f.resultTypes.size) (s.fn H (ds ++ gs)).results [])
    (hres2 : ∀ (b : Nat) (sp : Nat → Bool), DataW.TrodAll enc P W' b sp true f.resultTypes.toList (v.resultList f.resultTypes.size) (s.fn H (ds ++ gs)).results [])
    (hargs : ∀ sp : Nat → Bool, (∀ p ∈ before, sp p.block = true) → DataW.TrodAll enc P W' 0 sp true f.params.toList args.toList (s.fn H (ds ++ gs)).args pa)
    (hvars : ∀ sp : Nat → Bool, (∀ p ∈ before, sp p.block = true) → DataW.TrodVars enc P W' sp s.vars (s.fn H (ds ++ gs)).vars pv)
    (hps : before = pa ++ pv)
    (hok : ∀ (j : Nat) (t : TypeId) (r : Value), f.resultTypes[j]? = some t → (v.resultList f.resultTypes.size)[j]? = some r → Value.okWide P W' .any 0 t r) :
    s.post enc P f apart fresh handsOn again W args v W' := by
  have hold : ∀ p ∈ before, (fun b => decide (b < W.heap.size)) p.block = true := fun p hp => by simpa using hW.lt p hp
  have hlt := hW.lt
  refine ⟨ds, gs, before, [], pa, pv, hW, hres _ _, hargs _ hold, hvars _ hold, World.keptBut_mono (fun p hp => ⟨hp, ?_⟩) (hgr.keptBut (· ∈ before)), fun _ => ?_⟩
  · rw [hps, List.mem_append] at hp
    exact Or.inr hp
  · obtain ⟨_, _, _, _, _, hz, hn⟩ := hW
    refine ⟨hok, _, _, ([] ++ pa) ++ pv, ⟨[] ++ pa, pv, trodAll_append (hargs _ (fun _ _ => rfl)) (hres2 _ _), hvars _ (fun _ _ => rfl), rfl, ?_, ?_⟩, ?_⟩
    · intro b off hp
      have hp' : MemPlace.cell b off ∈ before := by rw [hps]; simpa using hp
      rw [hgr.frozen (hlt _ hp')]
      exact hz b off hp'
    · intro ha
      have := hn ha
      rw [hps] at this
      simpa using this
    · intro p hp _
      rw [hps]
      simpa using hp

/-- An array of numbers, as its cells. -/
theorem cells_ints {w : World} {base : Nat} {spare : Nat → Bool} {held : Bool} {fuel : Nat} {t e : TypeId} {n : Nat} {k : IntKind} {cs : List Value} {ns : List Int} {p : List MemPlace} (ht : P.underlying t = some (.array n e)) (he : P.underlying e = some (.int k))
    (hc : P.cellsOf e = 1) (hn : n = ns.length) (h : DataW.trod enc P w base spare held fuel t cs = some (.agg (ns.map fun x => .lit (.int k x)), p)) : ∀ i, i < ns.length → cs[i]? = (ns[i]?).map (Value.int k) := by
  obtain ⟨xs, m, rfl, hx, hlen, hxl, hel⟩ := DataW.trod_array ht h
  intro i hi
  have h1 := hel i (by omega)
  have hxi : i < xs.length := by omega
  rw [List.getElem?_eq_getElem hxi] at h1
  obtain ⟨q, e1, e2, _⟩ := DataW.trod_int he h1
  rw [hc, Nat.mul_one] at e1
  have e3 : cs[i]? = some (Value.int k q) := by
    have := congrArg (fun l => l[0]?) e1
    simpa [List.getElem?_take, List.getElem?_drop] using this
  have e4 : ns[i]? = some q := by
    simp only [Prod.mk.injEq, DataW.agg.injEq] at hx
    have := congrArg (fun l => l[i]?) hx.1
    simp only [List.getElem?_map, List.getElem?_eq_getElem hxi, List.getElem?_eq_getElem hi, Option.map_some, Option.some.injEq, e2] at this
    rw [List.getElem?_eq_getElem hi]
    injection this with h5
    injection h5 with _ h6
    rw [h6]
  rw [e3, e4]; rfl

end Go.Sx

namespace Go.Sx
open Go.ChangeShapes
theorem andB_mk {a b : Bool} (h : a = true) (k : b = true) : (a && b) = true := by rw [h, k]; rfl
/-- The closed facts of a row, one by one. -/
theorem joinedFacts_of {P : Program} {f : FuncId} {fn : Func} {s : ChangeSpec} {c : OpenClaim} (a1 : c.wf (OpenSpec.ofChange s) = true) (a2 : laidOutB P = true) (a3 : mapsRowed P = true) (a4 : fn.params.all (P.readableRec ·) = true) (a5 : namedTie P c.named s.vars = true) (a6 : (c.stops == []) = true) (a7 : (P.stops == []) = true) (a8 : (c.knobs == []) = true) (a9 : (P.stopKnobs == []) = true) (b1 : (c.inPlace == P.inPlace f) = true) (b2 : (c.unfollowed == P.unfollowed f) = true) (b3 : (c.recurses == P.recurses f) = true) (b4 : (c.named == P.varsNamed f) = true) (b5 : (c.maps == (fn.params.toList ++ s.plain.varTypes P).any (P.mapsRec ·)) = true) (b6 : (c.ifaces == (fn.params.toList ++ s.plain.varTypes P).any (P.ifacesRec ·)) = true) (b7 : (c.mapsOut == P.mapsAmong fn.resultTypes.toList) = true) (b8 : (c.loops == (fn.params.toList ++ s.plain.varTypes P).any (P.loopsFrom ·)) = true) (b9 : (c.wideKeys == (fn.params.toList ++ s.plain.varTypes P ++ fn.resultTypes.toList).any (P.wideKeysFrom ·)) = true) (c1 : s.vars.all (P.varReadable ·) = true) (c2 : fn.resultTypes.all (fun t => P.readableRec t && decide (t < P.types.size)) = true) (c3 : (c.ifacesOut == fn.resultTypes.toList.any (P.ifacesRec ·)) = true) (c4 : (c.loopsOut == fn.resultTypes.toList.any (P.loopsFrom ·)) = true) (c5 : (c.plainKeys == P.plainKeys) = true) (c6 : c.shortTexts.isNone = true) (c7 : P.stopsHeard = true) (c8 : P.mayEnter = true) (c9 : (c.lifted == P.liftsFinal) = true) (d1 : (P.make == some c.make) = true) (d2 : (c.kinds == (if c.domain.isEmpty then [] else fn.params.toList.map fun t => match P.underlying t with | some (.int k) => some k | _ => none)) = true) (d3 : (c.pinned == c.pinnedBy) = true) (d4 : (c.veiled == (fn.params.toList ++ s.plain.varTypes P ++ fn.resultTypes.toList).any (P.veiledRec ·)) = true) (d5 : c.veiledFits P fn.params.toList (fn.params.toList ++ s.plain.varTypes P ++ fn.resultTypes.toList) = true) : joinedFacts P f fn s c = true := by
  unfold joinedFacts
  exact andB_mk (andB_mk (andB_mk (andB_mk (andB_mk (andB_mk (andB_mk (andB_mk (andB_mk (andB_mk (andB_mk (andB_mk (andB_mk (andB_mk (andB_mk (andB_mk (andB_mk (andB_mk (andB_mk (andB_mk (andB_mk (andB_mk (andB_mk (andB_mk (andB_mk (andB_mk (andB_mk (andB_mk (andB_mk (andB_mk (andB_mk (a1) a2) a3) a4) a5) a6) a7) a8) a9) b1) b2) b3) b4) b5) b6) b7) b8) b9) c1) c2) c3) c4) c5) c6) c7) c8) c9) d1) d2) d3) d4) d5
end Go.Sx
