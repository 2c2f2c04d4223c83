/- Part of an own symbolic executor for the model's code, proved sound, and of the proof of one statement (see the text of the claimed theorem). -/
import Derived.Test.YtkpkfccgbehilaaGreatDoorSxY
import Derived.RangeFuncLeaves
import Derived.RangeFuncRecord
namespace Go.Sx

/-! # Functions -/
def initT : Nat → List AV → Tr AV → Tr AV
  | _, [], t => t
  | i, a :: l, t => initT (i + 1) l (t.put i a)

theorem initT_get : ∀ (l : List AV) (i : Nat) (t : Tr AV) (j : Nat), (initT i l t).get j = if i ≤ j ∧ j < i + l.length then l[j - i]? else t.get j
  | [], i, t, j => by simp [initT]; omega
  | a :: l, i, t, j => by
    rw [initT, initT_get l (i + 1) _ j, Tr.get_put]
    simp only [List.length_cons]
    by_cases h1 : i + 1 ≤ j ∧ j < i + 1 + l.length
    · rw [if_pos h1, if_pos (by omega)]
      have : j - i = (j - (i + 1)) + 1 := by omega
      rw [this]; simp
    · rw [if_neg h1]
      by_cases e : j = i
      · subst e; rw [if_pos rfl, if_pos (by omega)]; simp
      · rw [if_neg e, if_neg (by omega)]

def resF1 (E : Env) (st : St) : ResultVar → Option AV
  | .tmp t => st.t.get t
  | .cell a t => match st.t.get a with
    | some x => match loadF E t x st.H with
      | some u => match u.c with
        | none => some u.r
        | some _ => none
      | none => none
    | none => none

def resL (E : Env) (st : St) : List ResultVar → Option (List AV)
  | [] => some []
  | r :: l => match resF1 E st r, resL E st l with
    | some a, some as => some (a :: as)
    | _, _ => none

def resF (E : Env) (st : St) (rs : List ResultVar) : Option AV :=
  match resL E st rs with
  | some [a] => some a
  | some as => some (.tup as)
  | none => none

/-! ## results -/
def rSem (tmps : Array Value) : ResultVar → Sem Value
  | .tmp t => pure (tmps.getD t undef)
  | .cell a t => do loadVar t (← asAddr (tmps.getD a undef))

theorem resF1_ok {E : Env} (ok : E.Ok) {st : St} {r : ResultVar} {x : AV} (h : resF1 E st r = some x) {Z γ a w} (hs : SatSt E Z γ st a w) :
    ∃ v, VRel Z w γ x v ∧ (rSem a.tmps r).run E.P w = .ok v w := by
  cases r with
  | tmp t => exact ⟨_, hs.tmp t x h, rfl⟩
  | cell q t =>
    simp only [resF1] at h
    split at h
    · rename_i y hy
      split at h
      · rename_i u hu
        split at h
        · rename_i hc
          cases h
          obtain ⟨ad, v, h1, h2, h3⟩ := load_run ok hu (by rw [hc]; trivial) hs.sat (hs.tmp q y hy)
          exact ⟨v, h2, by simp only [rSem, h1, asAddr, Sem.run_bind, Sem.run_pure, Result.andThen_ok, h3]⟩
        · cases h
      · cases h
    · cases h

theorem resL_ok {E : Env} (ok : E.Ok) {st : St} {Z γ a w} (hs : SatSt E Z γ st a w) : ∀ (rs : List ResultVar) (xs : List AV), resL E st rs = some xs →
    ∃ vs : List Value, vs.length = xs.length ∧ (∀ (i : Nat) c v, xs[i]? = some c → vs[i]? = some v → VRel Z w γ c v) ∧
      (rs.mapM (rSem a.tmps)).run E.P w = .ok vs w
  | [], xs, h => by simp only [resL] at h; cases h; exact ⟨[], rfl, fun i c v h => by simp at h, rfl⟩
  | r :: rs, xs, h => by
    simp only [resL] at h
    split at h
    · rename_i x as h1 h2
      cases h
      obtain ⟨v, hv, hr⟩ := resF1_ok ok h1 hs
      obtain ⟨vs, g1, g2, g3⟩ := resL_ok ok hs rs as h2
      refine ⟨v :: vs, by simp [g1], fun i c y hc hy => ?_, ?_⟩
      · cases i with
        | zero => simp at hc hy; subst hc; subst hy; exact hv
        | succ i => exact g2 i c y (by simpa using hc) (by simpa using hy)
      · rw [List.mapM_cons, Sem.run_bind, hr, Result.andThen_ok, Sem.run_bind, g3, Result.andThen_ok]; rfl
    · cases h

theorem resF_ok {E : Env} (ok : E.Ok) {st : St} {fn : Func} {x : AV} (h : resF E st fn.results.toList = some x) {Z γ a w} (hs : SatSt E Z γ st a w) : ∃ v, VRel Z w γ x v ∧ (results fn a.tmps).run E.P w = .ok v w := by
  unfold resF at h
  have key : ∀ xs, resL E st fn.results.toList = some xs → ∃ vs : List Value, vs.length = xs.length ∧ (∀ (i : Nat) c v, xs[i]? = some c → vs[i]? = some v → VRel Z w γ c v) ∧
      (results fn a.tmps).run E.P w = .ok (if h : vs.toArray.size = 1 then vs.toArray[0] else .tuple vs.toArray) w := by
    intro xs hx
    obtain ⟨vs, g1, g2, g3⟩ := resL_ok ok hs _ _ hx
    refine ⟨vs, g1, g2, ?_⟩
    have hres : results fn a.tmps = (do
        let vs ← fn.results.mapM (rSem a.tmps)
        pure (if h : vs.size = 1 then vs[0] else .tuple vs) : Sem Value) := by
      rfl
    rw [hres, Sem.run_bind, Array.mapM_eq_mapM_toList, Sem.run_map, g3]
    rfl
  split at h
  · rename_i y hy
    cases h
    obtain ⟨vs, g1, g2, g3⟩ := key _ hy
    match vs, g1 with
    | [v], _ => exact ⟨v, g2 0 _ _ rfl rfl, by simpa using g3⟩
  · rename_i xs hne hx
    cases h
    obtain ⟨vs, g1, g2, g3⟩ := key _ hx
    refine ⟨.tuple vs.toArray, .tup (by simpa using g1) (fun i c v hc hv => g2 i c v hc (by simpa using hv)), ?_⟩
    rw [g3, dif_neg]
    intro h1
    have : xs.length = 1 := by simp at h1; omega
    match xs, this with
    | [y], _ => exact hne y rfl
  · cases h

/-! ## functions, gone through in place -/
def bodyOf (fn : Func) : Code :=
  match fn.body with
  | some c => c
  | none => .skip

def init (fn : Func) (args : List AV) (H : Heap) (nid : Nat) : St := { t := initT 0 args .e, H := H, nid := nid, nt := fn.ntmps }

def noCells (o : Obj) : Prop := ∀ c t f, o ≠ .cells c t f

theorem putObj_shape {w : World} {b : Nat} {o0 o : Obj} (hb : w.heap[b]? = some o0) (h0 : noCells o0) (h1 : noCells o) (k : Nat) : (w.putObj b o).shape? k = w.shape? k := by
  have hlt := (Array.getElem?_eq_some_iff.1 hb).1
  by_cases e : k = b
  · subst e
    simp only [World.shape?, World.putObj_heap_same hlt, hb]
    cases o <;> cases o0 <;> first | rfl | exact absurd rfl (h1 _ _ _) | exact absurd rfl (h0 _ _ _)
  · exact shape_of_block (World.putObj_heap_other e)

theorem Run.turnObj {Z γ} {H H' : Heap} {w : World} {id b : Nat} {o0 o : Obj} {c0 : Chunk} (hid : H.get id = some c0) (hl : c0.live = true) (hg : γ id = some b) (hb : w.heap[b]? = some o0) (h0 : noCells o0) (h1 : noCells o)
    (hH : ∀ i, Live H' i → Live H i) : Run Z γ H w Z γ H' (w.putObj b o) :=
  ⟨fun _ _ h => h, fun _ h => h, by simp [World.putObj], fun k _ hk => World.putObj_heap_other (fun e => hk id ⟨c0, hid, hl⟩ (e ▸ hg)), fun k _ => putObj_shape hb h0 h1 k, fun i x h2 h3 => .inl ⟨i, hH i h2, h3⟩, fun _ h => .inl h, rfl, rfl, rfl⟩

theorem Sat.turnObj {Z γ} {H : Heap} {w : World} (h : Sat Z γ H w) {id b : Nat} {o0 o : Obj} {c0 ch : Chunk} (hid : H.get id = some c0) (hl : c0.live = true) (hg : γ id = some b) (hb : w.heap[b]? = some o0) (h0 : noCells o0) (h1 : noCells o)
    (hc : CRel Z (w.putObj b o) γ b ch) : Sat Z γ (H.put id ch) (w.putObj b o) :=
  h.turn hid hl hg (by simp [World.putObj]) (fun k hk => World.putObj_heap_other hk) (putObj_shape hb h0 h1) hc

def retK (E : Env) (fn : Func) (st : St) (k : AV → Heap → Nat → Prop) : Prop :=
  match st.dm with
  | none => match resF E st fn.results.toList with
    | some r => k r st.H st.nid
    | none => False
  | some id => match st.H.get id with
    | some .defr => match resF E { st with H := st.H.put id .gone } fn.results.toList with
      | some r => k r (st.H.put id .gone) st.nid
      | none => False
    | _ => False

/-- The body, from the arguments on. -/
def sexec (E : Env) (F : Fs) (fn : Func) (ls : List LC) : SC := fun args H nid k =>
  match Nat.ble args.length fn.ntmps with
  | true => exec E F (bodyOf fn) ls (init fn args H nid) (fun e st => match e with
    | .normal => retK E fn st k
    | .ret => retK E fn st k
    | _ => False)
  | false => False

theorem sexec_ok {E : Env} {F : Fs} (hE : FsEnv E F) {f : FuncId} {fn : Func} (hfn : E.P.funcs[f]? = some fn) (hn : (fn.name == "runtime.NumGoroutine") = false) (hb : fn.body.isSome = true) {ls : List LC} (hl : LAll E false (bodyOf fn) ls) :
    SOK E f (sexec E F fn ls) := by
  obtain ⟨c, hc⟩ := Option.isSome_iff_exists.1 hb
  have hbo : bodyOf fn = c := by unfold bodyOf; rw [hc]
  refine ⟨⟨fn, hfn, hn, by rw [hc]; rfl⟩, fun args H nid k hfr h => ?_⟩
  unfold sexec at h
  rw [hbo] at h hl
  split at h
  rotate_left
  · exact h.elim
  rename_i hle
  have hle := Nat.le_of_ble_eq_true hle
  obtain ⟨e, st', hk, hf, hw⟩ := exec_ok hE c ls _ _ hl h hfr
  have key : (e = .normal ∨ e = .ret) → retK E fn st' k → ∃ r H' nid', k r H' nid' ∧ (∀ i, nid' ≤ i → H'.get i = none) ∧ ∀ (Z : Nat → Prop) (γ : Gam) (w : World) (vs : Array Value),
      Sat Z γ H w → GOk E Z w → vs.size = args.length → (∀ (i : Nat) c v, args[i]? = some c → vs[i]? = some v → VRel Z w γ c v) →
      Calls E.P f vs w fun e w' => ∃ v Z' γ', e = .returned v ∧ VRel Z' w' γ' r v ∧ Sat Z' γ' H' w' ∧ Run Z γ H w Z' γ' H' w' := by
    intro he hret
    have start : ∀ (Z : Nat → Prop) (γ : Gam) (w : World) (vs : Array Value), Sat Z γ H w → GOk E Z w → vs.size = args.length → (∀ (i : Nat) c v, args[i]? = some c → vs[i]? = some v → VRel Z w γ c v) →
        SatSt E Z γ (init fn args H nid) { tmps := vs ++ Array.replicate (fn.ntmps - vs.size) undef, defers := [] } w := by
      intro Z γ w vs hs hg hsz hv
      refine ⟨hs, ?_, ?_, rfl, hfr, hg⟩
      · intro i x hi
        simp only [init] at hi
        rw [initT_get] at hi
        split at hi
        · rename_i hin
          have hlt : i < vs.size := by omega
          refine hv i x _ (by simpa using hi) ?_
          rw [Array.getD_eq_getD_getElem?, Array.getElem?_append_left hlt]
          simp [hlt]
        · rw [Tr.get_e] at hi; cases hi
      · simp [init]; omega
    unfold retK at hret
    split at hret
    · rename_i hdm
      split at hret
      rotate_left
      · exact hret.elim
      rename_i r hres
      refine ⟨r, st'.H, st'.nid, hret, hf, fun Z γ w vs hs hg hsz hv => ?_⟩
      refine calls_of_wp hfn hc (wp_mono (wpIn_wide.1 (hw none (fun _ => rfl) Z γ _ w (start Z γ w vs hs hg hsz hv))) ?_)
      intro e' a' w' ⟨e1, Z', γ', hs', hr⟩
      obtain ⟨v, hvr, hrun⟩ := resF_ok hE.base.ok hres hs'
      have hd : a'.defers = [] := by have := hs'.defs; rw [hdm] at this; exact this
      subst e1
      rcases he with he | he <;> subst he <;> exact ⟨hd, v, hrun, v, Z', γ', rfl, hvr, hs'.sat, hr⟩
    · rename_i id hdm
      split at hret
      rotate_left
      · exact hret.elim
      rename_i hid
      split at hret
      rotate_left
      · exact hret.elim
      rename_i r hres
      refine ⟨r, _, st'.nid, hret, fun i hi => ?_, fun Z γ w vs hs hg hsz hv => ?_⟩
      · rw [Tr.get_put]
        split
        · rename_i e1; rw [e1] at hi; rw [hf id hi] at hid; cases hid
        · exact hf i hi
      refine (callsIn_wide (n := 0)).1 (callsIn_of_wp_marks hfn hc trivial (wpIn_mono (hw none (fun _ => rfl) Z γ _ w (start Z γ w vs hs hg hsz hv)) ?_))
      intro e' a' w' ⟨e1, Z', γ', hs', hr⟩
      obtain ⟨b, hb, hds⟩ : ∃ b, γ' id = some b ∧ a'.defers = [{ target := .collected b, args := #[] }] := by have := hs'.defs; rw [hdm] at this; exact this
      obtain ⟨b', hb', hz, hcr⟩ := hs'.sat.own id _ hid rfl
      rw [hb] at hb'; cases hb'
      have hcr : w'.heap[b]? = some (.deferred (some [])) := hcr
      have hn0 : noCells (.deferred (some [])) := fun c t f h => by cases h
      have hn1 : noCells (.deferred none) := fun c t f h => by cases h
      have hsat := hs'.sat.turnObj (o := .deferred none) hid rfl hb hcr hn0 hn1 (ch := .gone) trivial
      have hrun2 : Run Z' γ' st'.H w' Z' γ' (st'.H.put id .gone) (w'.putObj b (.deferred none)) := Run.turnObj hid rfl hb hcr hn0 hn1 (fun i ⟨ch, h1, h2⟩ => by
        rw [Tr.get_put] at h1
        split at h1
        · cases h1; cases h2
        · exact ⟨ch, h1, h2⟩)
      have hs2 : SatSt E Z' γ' { st' with H := st'.H.put id .gone } a' (w'.putObj b (.deferred none)) := ⟨hsat, fun i x hi => (hs'.tmp i x hi).run hs'.sat hrun2, hs'.size, hs'.defs, fun i hi => by
        rw [Tr.get_put]
        split
        · rename_i e1; rw [e1] at hi; rw [hf id hi] at hid; cases hid
        · exact hf i hi, fun g cs hg => (hs'.glob g cs hg).run0 hs'.sat hrun2⟩
      obtain ⟨v, hvr, hrun⟩ := resF_ok hE.base.ok hres hs2
      have fin : LeavesInM Fence.wide 0 E.P fn a'.tmps (fun e w' => ∃ v Z' γ', e = .returned v ∧ VRel Z' w' γ' r v ∧ Sat Z' γ' (st'.H.put id .gone) w' ∧ Run Z γ H w Z' γ' (st'.H.put id .gone) w') a'.defers .returning w' := by
        rw [hds]
        exact ⟨by simp, .inl ⟨b, _, rfl, run_takeDeferred hcr, ⟨v, hrun, v, Z', γ', rfl, hvr, hsat, hr.trans hrun2⟩⟩⟩
      subst e1
      rcases he with he | he <;> subst he <;> exact fin
  cases e with
  | normal => exact key (.inl rfl) hk
  | ret => exact key (.inr rfl) hk
  | _ => exact hk.elim

end Go.Sx

namespace Go.Sx

/-! # A loop over a function -/
theorem VRel.turnObj {Z γ} {w : World} {b : Nat} {o0 o : Obj} (hb : w.heap[b]? = some o0) (h0 : noCells o0) (h1 : noCells o) (hz : ¬ Z b) {a : AV} {v : Value} (h : VRel Z w γ a v) : VRel Z (w.putObj b o) γ a v :=
  h.mono (fun _ hq => ⟨hq, World.putObj_heap_other (fun e => hz (e ▸ hq))⟩) (fun _ _ h => h) (fun _ q _ => putObj_shape hb h0 h1 q)

theorem loop_noCells (r : Loop) : noCells (.loop r) := fun c t f h => by cases h

/-- The record turns. -/
theorem Sat.turnLp {Z γ} {H : Heap} {w : World} (h : Sat Z γ H w) {id b : Nat} {st : LoopState} {pend : Option Code} {ts : Tr AV} {nt : Nat} {ps : List Nat} {as bd : Code} (hid : H.get id = some (.lp st pend ts nt ps as bd)) (hg : γ id = some b)
    {r : Loop} (hb : w.heap[b]? = some (.loop r)) (st' : LoopState) (pend' : Option Code) :
    Sat Z γ (H.put id (.lp st' pend' ts nt ps as bd)) (w.putObj b (.loop { r with state := st', pending := pend' })) := by
  obtain ⟨b', hb', hz, r', h1, h2, h3, h4, h5, h6, h7, h8⟩ := h.own id _ hid rfl
  rw [hg] at hb'; cases hb'
  rw [hb] at h1; cases h1
  refine h.turnObj hid rfl hg hb (loop_noCells _) (loop_noCells _) ⟨_, World.putObj_heap_same (Array.getElem?_eq_some_iff.1 hb).1, rfl, rfl, h4, h5, h6, h7, fun i x hi => ?_⟩
  exact (h8 i x hi).turnObj hb (loop_noCells _) (loop_noCells _) hz

def putsL : Tr AV → List Nat → List AV → Tr AV
  | t, p :: ps, a :: as => putsL (t.put p a) ps as
  | t, _, _ => t

def allLtN (nt : Nat) : List Nat → Bool
  | [] => true
  | p :: l => match Nat.blt p nt with
    | true => allLtN nt l
    | false => false

theorem putsL_rel {Z w γ} {nt : Nat} : ∀ (ps : List Nat) (as : List AV) (vs : List Value) (t : Tr AV) (tmps : Array Value), allLtN nt ps = true → tmps.size = nt → ps.length = as.length → vs.length = as.length →
    (∀ (i : Nat) c v, as[i]? = some c → vs[i]? = some v → VRel Z w γ c v) → (∀ i x, t.get i = some x → VRel Z w γ x (tmps.getD i undef)) →
    ((ps.zip vs).foldl (fun tmps p => tmps.setIfInBounds p.1 p.2) tmps).size = nt ∧ ∀ i x, (putsL t ps as).get i = some x → VRel Z w γ x (((ps.zip vs).foldl (fun tmps p => tmps.setIfInBounds p.1 p.2) tmps).getD i undef)
  | [], as, vs, t, tmps, _, hs, _, _, _, ht => ⟨by simpa using hs, fun i x hi => by simpa using ht i x (by simpa [putsL] using hi)⟩
  | p :: ps, [], vs, t, tmps, _, _, hl, _, _, _ => by simp at hl
  | p :: ps, a :: as, [], t, tmps, _, _, _, hl, _, _ => by simp at hl
  | p :: ps, a :: as, v :: vs, t, tmps, hlt, hs, hl, hv, hr, ht => by
    unfold allLtN at hlt
    split at hlt
    · rename_i hp
      have hp : p < nt := Nat.le_of_ble_eq_true hp
      simp only [List.zip_cons_cons, List.foldl_cons, putsL]
      refine putsL_rel ps as vs (t.put p a) (tmps.setIfInBounds p v) hlt (by simpa using hs) (by simpa using hl) (by simpa using hv) (fun i c u h1 h2 => hr (i + 1) c u (by simpa using h1) (by simpa using h2)) fun i x hi => ?_
      rw [Tr.get_put] at hi
      by_cases e : i = p
      · subst e
        rw [if_pos rfl] at hi; cases hi
        have := hr 0 a v rfl rfl
        simpa [hs, hp] using this
      · rw [if_neg e] at hi
        have := ht i x hi
        simpa [Array.getElem?_setIfInBounds, Ne.symm e] using this
    · cases hlt

/-- One round. -/
def yexec (E : Env) (F : Fs) (au : Code → List LC) (lid : Nat) : SC := fun args H nid k =>
  match H.get lid with
  | some (.lp .ready none ts nt ps assign body) => match Nat.beq ps.length args.length, allLtN nt ps with
    | true, true => exec E F assign (au assign) { t := putsL ts ps args, H := H, nid := nid, nt := nt } (fun e st => match e with
      | .normal => match st.dm, st.H.get lid with
        | none, some (.lp .ready none ts2 nt2 ps2 as2 bd2) => exec E F body (au body) { st with H := st.H.put lid (.lp .busy none ts2 nt2 ps2 as2 bd2) } (fun e st2 => match st2.H.get lid with
          | some (.lp .busy none ts3 nt3 ps3 as3 bd3) => match e with
            | .normal => k (.bool true) (st2.H.put lid (.lp .ready none ts3 nt3 ps3 as3 bd3)) st2.nid
            | .ret => k (.bool false) (st2.H.put lid (.lp .done (some .ret) ts3 nt3 ps3 as3 bd3)) st2.nid
            | .exit i => k (.bool false) (st2.H.put lid (.lp .done (some (.exit i)) ts3 nt3 ps3 as3 bd3)) st2.nid
            | _ => False
          | _ => False)
        | _, _ => False
      | _ => False)
    | _, _ => False
  | _ => False

theorem fresh_put {H : Heap} {nid lid : Nat} {c c' : Chunk} (h : ∀ i, nid ≤ i → H.get i = none) (hl : H.get lid = some c) : ∀ i, nid ≤ i → (H.put lid c').get i = none := fun i hi => by
  rw [Tr.get_put]
  split
  · rename_i e; rw [e] at hi; rw [h lid hi] at hl; cases hl
  · exact h i hi

theorem live_put {H : Heap} {lid : Nat} {c c' : Chunk} (hl : H.get lid = some c) (hc : c.live = true) : ∀ i, Live (H.put lid c') i → Live H i := fun i ⟨ch, h1, h2⟩ => by
  rw [Tr.get_put] at h1
  split at h1
  · rename_i e; subst e; exact ⟨c, hl, hc⟩
  · exact ⟨ch, h1, h2⟩

theorem yexec_ok {E : Env} {F : Fs} (hE : FsEnv E F) {au : Code → List LC} (hau : ∀ c, LAll E true c (au c)) (lid : Nat) : YOK E lid (yexec E F au lid) := by
  intro args H nid k hfr h
  unfold yexec at h
  split at h
  rotate_left
  · exact h.elim
  rename_i ts nt ps assign body hid
  split at h
  rotate_left
  · exact h.elim
  rename_i hlen hlt
  have hlen := Nat.eq_of_beq_eq_true hlen
  obtain ⟨e1, st1, h1, f1, w1⟩ := exec_ok hE assign _ _ _ (hau assign) h hfr
  cases e1 with
  | normal =>
    simp only at h1
    split at h1
    rotate_left
    · exact h1.elim
    rename_i ts2 nt2 ps2 as2 bd2 hdm hid1
    obtain ⟨e2, st2, h2, f2, w2⟩ := exec_ok hE body _ _ _ (hau body) h1 (fresh_put f1 hid1)
    split at h2
    rotate_left
    · exact h2.elim
    rename_i ts3 nt3 ps3 as3 bd3 hid2
    have main : ∀ (jump : Option Code) (r0 : Bool), r0 = jump.isNone →
        k (.bool r0) (st2.H.put lid (.lp (if jump.isNone then .ready else .done) jump ts3 nt3 ps3 as3 bd3)) st2.nid →
        (∀ (b : Nat) (R : Ending → World → Prop) a w, (∃ v w', (Instr.endRound b jump).run E.P w = .ok v w' ∧ R (.returned v) w') → roundPost E.P b R e2 a w) →
        ∃ r H' nid', k r H' nid' ∧ (∀ i, nid' ≤ i → H'.get i = none) ∧ ∀ (Z : Nat → Prop) (γ : Gam) (w : World) (vs : Array Value) (b : Nat),
          Sat Z γ H w → GOk E Z w → vs.size = args.length → (∀ (i : Nat) c v, args[i]? = some c → vs[i]? = some v → VRel Z w γ c v) → γ lid = some b →
          ∃ fn tmps assign body, (Instr.yield b vs).run E.P w = .ok (.round b fn tmps assign body) w ∧
            RoundIn Fence.wide 0 E.P b fn tmps assign body w fun e w' => ∃ v Z' γ', e = .returned v ∧ VRel Z' w' γ' r v ∧ Sat Z' γ' H' w' ∧ Run Z γ H w Z' γ' H' w' := by
      intro jump r0 hr0 hk hpost
      refine ⟨_, _, _, hk, fresh_put f2 hid2, fun Z γ w vs b hs hg hsz hv hb => ?_⟩
      obtain ⟨b', hb', hz, r, q1, q2, q3, q4, q5, q6, q7, q8⟩ := hs.own lid _ hid rfl
      rw [hb] at hb'; cases hb'
      have hpsz : vs.size = r.params.size := by
        have h9 : r.params.size = ps.length := by rw [← q5]; simp
        omega
      refine ⟨_, _, _, _, run_yield q1 hpsz, roundIn_of_wpIn (F := Fence.wide) (n := 0) trivial ?_⟩
      obtain ⟨p1, p2⟩ := putsL_rel (Z := Z) (w := w) (γ := γ) ps args vs.toList ts r.tmps hlt q4 hlen (by simpa using hsz) (fun i c v h1 h2 => hv i c v h1 (by simpa using h2)) q8
      have hfold : (r.params.zip vs).foldl (fun tmps (t, a) => tmps.setIfInBounds t a) r.tmps = (ps.zip vs.toList).foldl (fun tmps p => tmps.setIfInBounds p.1 p.2) r.tmps := by
        rw [← Array.foldl_toList, Array.toList_zip, q5]
      have hst0 : SatSt E Z γ { t := putsL ts ps args, H := H, nid := nid, nt := nt } { tmps := (r.params.zip vs).foldl (fun tmps (t, a) => tmps.setIfInBounds t a) r.tmps, defers := [] } w :=
        ⟨hs, by rw [hfold]; exact p2, by rw [hfold]; exact p1, rfl, hfr, hg⟩
      rw [q6, q7]
      refine wpIn_mono (w1 (some b) (fun h => by cases h) Z γ _ w hst0) ?_
      rintro e a1 wa ⟨rfl, Z1, γ1, s1, r1⟩
      have hb1 := r1.gam _ _ hb
      obtain ⟨b1, hb1', hz1, rr, t1, t2, t3, t4, t5, t6, t7, t8⟩ := s1.sat.own lid _ hid1 rfl
      rw [hb1] at hb1'; cases hb1'
      have hbr := run_beginRound (P := E.P) t1 t2
      have e0 : ({ rr with state := .busy } : Loop) = { rr with state := .busy, pending := none } := by rw [← t3]
      rw [e0] at hbr
      have sat2 := s1.sat.turnLp hid1 hb1 t1 .busy none
      have run2 : Run Z1 γ1 st1.H wa Z1 γ1 (st1.H.put lid (.lp .busy none ts2 nt2 ps2 as2 bd2)) (wa.putObj b (.loop { rr with state := .busy, pending := none })) := Run.turnObj hid1 rfl hb1 t1 (loop_noCells _) (loop_noCells _) (live_put hid1 rfl)
      have hst2 : SatSt E Z1 γ1 { st1 with H := st1.H.put lid (.lp .busy none ts2 nt2 ps2 as2 bd2) } a1 (wa.putObj b (.loop { rr with state := .busy, pending := none })) :=
        ⟨sat2, fun i x hi => (s1.tmp i x hi).run s1.sat run2, s1.size, s1.defs, fresh_put f1 hid1, fun g cs hg => (s1.glob g cs hg).run0 s1.sat run2⟩
      refine ⟨_, hbr, wpIn_mono (w2 (some b) (fun h => by cases h) Z1 γ1 a1 _ hst2) ?_⟩
      rintro e a2 wb ⟨rfl, Z2, γ2, s2, r2⟩
      have hb2 := r2.gam _ _ hb1
      obtain ⟨b2, hb2', hz2, rr2, u1, u2, u3, u4, u5, u6, u7, u8⟩ := s2.sat.own lid _ hid2 rfl
      rw [hb2] at hb2'; cases hb2'
      refine hpost b _ a2 wb ⟨_, _, run_endRound (P := E.P) jump u1, _, Z2, γ2, rfl, ?_, s2.sat.turnLp hid2 hb2 u1 _ _, ?_⟩
      · rw [hr0]; exact .bool
      · exact ((r1.trans run2).trans r2).trans (Run.turnObj hid2 rfl hb2 u1 (loop_noCells _) (loop_noCells _) (live_put hid2 rfl))
    cases e2 with
    | normal => exact main none true rfl h2 (fun b R a w h => h)
    | ret => exact main (some .ret) false rfl h2 (fun b R a w h => h)
    | exit i => exact main (some (.exit i)) false rfl h2 (fun b R a w h => h)
    | _ => exact h2.elim
  | _ => exact h1.elim

theorem Run.alloc {Z γ} {H : Heap} {w : World} {i : Nat} (hi : γ i = none) (o : Obj) (ch : Chunk) : Run Z γ H w Z (upd γ i w.heap.size) (H.put i ch) (w.alloc o) :=
  ⟨fun j b h => by unfold upd; split <;> simp_all, fun _ h => h, by simp, fun b hb _ => heap_alloc_old w o b hb, fun b hb => shape_alloc_old w o b hb, fun j b hl hb => by
    unfold upd at hb
    split at hb
    · cases hb; exact .inr (Nat.le_refl _)
    · rename_i hne
      obtain ⟨c, h1, h2⟩ := hl
      rw [Tr.get_put, if_neg hne] at h1
      exact .inl ⟨j, ⟨c, h1, h2⟩, hb⟩, fun _ h => .inl h, rfl, rfl, rfl⟩

def jumpsTo (P : Program) (pend : Option Code) (Q : Exit → Act → World → Prop) (a : Act) (w : World) : Prop :=
  match pend with
  | none => Q .normal a w
  | some c => c.wpIn Fence.wide 0 P Q a w

/-- The jump that a round has left. -/
def pendK (k : Exit → St → Prop) (st : St) : Option Code → Prop
  | none => k .normal st
  | some .ret => k .ret st
  | some (.exit i) => k (.exit i) st
  | _ => False

/-- 'for .. := range g { .. }', outermost. -/
def rangeLC (E : Env) (F : Fs) (g : Operand) (ps : Array Tmp) (assign body : Code) : LC := fun st k =>
  match st.dm, ev E.G st.t g with
  | none, .fn (.func fid) first caps => match F.I fid with
    | some sc => sc (first ++ ([.yld (st.nid + 1)] ++ caps)) (Tr.put (Tr.put st.H st.nid .defr) (st.nid + 1) (.lp .ready none st.t st.nt ps.toList assign body)) (st.nid + room) (fun _ H2 nid2 => match H2.get (st.nid + 1) with
      | some (.lp stt pend _ _ _ _ _) => match stt with
        | .busy => False
        | _ => pendK k { st with H := H2.put (st.nid + 1) .gone, nid := nid2, dm := some st.nid } pend
      | _ => False)
    | none => False
  | _, _ => False

theorem rangeLC_ok {E : Env} {F : Fs} (hE : FsEnv E F) {g : Operand} {ps : Array Tmp} {assign body : Code} (st : St) (k : Exit → St → Prop) (h : rangeLC E F g ps assign body st k) : COK E false (.rangeFunc g ps assign body) st k := by
  intro hfr
  unfold rangeLC at h
  split at h
  rotate_left
  · exact h.elim
  rename_i fid first caps hdm hg
  split at h
  rotate_left
  · exact h.elim
  rename_i sc hsc
  have hso := hE.inl fid sc hsc
  have hfr1 : ∀ i, st.nid + room ≤ i → (Tr.put (Tr.put st.H st.nid .defr) (st.nid + 1) (.lp .ready none st.t st.nt ps.toList assign body)).get i = none := fun i hi => by
    have hr : room = 64 ∨ room ≥ 2 := .inr (by unfold room; omega)
    have h2 : room ≥ 2 := by unfold room; omega
    rw [Tr.get_put, if_neg (by omega), Tr.get_put, if_neg (by omega)]
    exact hfr i (by omega)
  obtain ⟨r, H2, nid2, h1, f1, hrun⟩ := hso.run _ _ _ _ hfr1 h
  split at h1
  rotate_left
  · exact h1.elim
  rename_i stt pend ts2 nt2 ps2 as2 bd2 hid2
  have main : stt ≠ .busy → ∀ (e : Exit), (∀ (Q : Exit → Act → World → Prop) a w, Q e a w → jumpsTo E.P pend Q a w) → k e { st with H := H2.put (st.nid + 1) .gone, nid := nid2, dm := some st.nid } →
      ∃ e st', k e st' ∧ (∀ i, st'.nid ≤ i → st'.H.get i = none) ∧ ∀ R, (false = false → R = none) → ∀ Z γ a w, SatSt E Z γ st a w →
        (Code.rangeFunc g ps assign body).wpIn (FR R) 0 E.P (fun e' a' w' => e' = e ∧ ∃ Z' γ', SatSt E Z' γ' st' a' w' ∧ Run Z γ st.H w Z' γ' st'.H w') a w := by
    intro hnb e hjump hk
    refine ⟨e, _, hk, fresh_put f1 hid2, fun R hR Z γ a w hs => ?_⟩
    have hR := hR rfl
    subst hR
    show (Code.rangeFunc g ps assign body).wpIn Fence.wide 0 E.P _ a w
    have hnid : st.H.get st.nid = none := hfr _ (Nat.le_refl _)
    have hnid1 : st.H.get (st.nid + 1) = none := hfr _ (by omega)
    -- the two blocks
    have hs1 : Sat Z (upd γ st.nid w.heap.size) (st.H.put st.nid .defr) (w.alloc (.deferred (some []))) := hs.sat.new hnid _ _ (heap_alloc_new _ _)
    have r1 : Run Z γ st.H w Z (upd γ st.nid w.heap.size) (st.H.put st.nid .defr) (w.alloc (.deferred (some []))) := Run.alloc (hs.sat.dom _ hnid) _ _
    refine wpIn_rangeFunc fun fn _ => ?_
    have hlp : (st.H.put st.nid .defr).get (st.nid + 1) = none := by rw [Tr.get_put, if_neg (by omega)]; exact hnid1
    have hg1 : upd γ st.nid w.heap.size (st.nid + 1) = none := hs1.dom _ hlp
    let rec0 : Loop := { state := .ready, pending := none, fn, tmps := a.tmps, params := ps, assign, body, defers := w.heap.size }
    have r2 : Run Z (upd γ st.nid w.heap.size) (st.H.put st.nid .defr) (w.alloc (.deferred (some []))) Z (upd (upd γ st.nid w.heap.size) (st.nid + 1) (w.alloc (.deferred (some []))).heap.size)
        ((st.H.put st.nid .defr).put (st.nid + 1) (.lp .ready none st.t st.nt ps.toList assign body)) ((w.alloc (.deferred (some []))).alloc (.loop rec0)) := Run.alloc hg1 _ _
    have hs2 := hs1.new hlp (.loop rec0) (.lp .ready none st.t st.nt ps.toList assign body) ⟨rec0, heap_alloc_new _ _, rfl, rfl, hs.size, rfl, rfl, rfl, fun i x hi => ((hs.tmp i x hi).run hs.sat r1).run hs1 r2⟩
    have r12 := r1.trans r2
    have hgv := hs.ev g
    rw [hg] at hgv
    generalize hav : a.eval g = gv at hgv
    obtain ⟨fs, cs, rfl, c1, c2, c3, c4⟩ : ∃ fs cs, gv = .func (.func fid) fs cs ∧ fs.size = first.length ∧ cs.size = caps.length ∧ (∀ (i : Nat) c v, first[i]? = some c → fs[i]? = some v → VRel Z w γ c v) ∧
        (∀ (i : Nat) c v, caps[i]? = some c → cs[i]? = some v → VRel Z w γ c v) := by
      cases hgv with
      | fn a b c d => exact ⟨_, _, rfl, a, b, c, d⟩
    obtain ⟨fnn, hfn, hnm, hb⟩ := hso.fn
    have hsz : (w.alloc (.deferred (some []))).heap.size = w.heap.size + 1 := by simp
    refine ⟨w.heap.size + 1, _, (w.alloc (.deferred (some []))).alloc (.loop rec0), { target := .fn (.func fid) cs, args := fs ++ #[.func (.yield (w.heap.size + 1)) #[] #[]] }, (w.alloc (.deferred (some []))).alloc (.loop rec0), fid, fs ++ #[.func (.yield (w.heap.size + 1)) #[] #[]] ++ cs, (w.alloc (.deferred (some []))).alloc (.loop rec0), run_enterLoop_outer (P := E.P) fn a.tmps ps assign body, ?_, fun _ _ => trivial, ?_, fun h => by simp [Fence.wide] at h, ?_⟩
    · exact (by
        simp only [resolve, hav, Deferred.ofValue, Sem.run_pure]
        simp [Act.eval])
    · simp only [invoke, callFunc, Sem.run_bind, run_program, Result.andThen_ok, hfn, hnm, hb]
      simp
    · refine callsR (R := none) ((hrun Z _ _ _ hs2 (fun gi cs hgl => (hs.glob gi cs hgl).run0 hs.sat r12) (by simp [c1, c2]; omega) (fun i c v hc hv => ?_)).mono ?_) 0
      · have up : ∀ {c v}, VRel Z w γ c v → VRel Z _ _ c v := fun h => h.run hs.sat r12
        simp only [Array.append_assoc, Array.getElem?_append, List.getElem?_append] at hc hv
        rw [c1] at hv
        by_cases q1 : i < first.length
        · rw [if_pos q1] at hc hv; exact up (c3 i c v hc hv)
        · rw [if_neg q1] at hc hv
          by_cases q2 : i - first.length < 1
          · have e0 : i - first.length = 0 := by omega
            simp [e0] at hc hv
            subst hc; subst hv
            exact .yld (by simp [upd])
          · rw [if_neg (by simpa using q2)] at hc hv
            exact up (c4 _ c v (by simpa using hc) (by simpa using hv))
      · rintro e' w3 ⟨v, Z3, γ3, rfl, _, s3, r3⟩
        have hb3 : γ3 (st.nid + 1) = some (w.heap.size + 1) := r3.gam _ _ (by simp [upd])
        have hd3 : γ3 st.nid = some w.heap.size := r3.gam _ _ (by simp [upd])
        obtain ⟨b3, hb3', hz3, rr, t1, t2, t3, _⟩ := s3.own _ _ hid2 rfl
        rw [hb3] at hb3'; cases hb3'
        have hend : (Instr.endLoop (w.heap.size + 1)).run E.P w3 = .ok pend (w3.putObj (w.heap.size + 1) (.loop { rr with state := .exhausted })) := by
          have := run_endLoop (P := E.P) t1 (by rw [t2]; exact hnb)
          rw [this, t3]
        have hrunE : Run Z3 γ3 H2 w3 Z3 γ3 (H2.put (st.nid + 1) .gone) (w3.putObj (w.heap.size + 1) (.loop { rr with state := .exhausted })) := Run.turnObj hid2 rfl hb3 t1 (loop_noCells _) (loop_noCells _) (live_put hid2 rfl)
        refine ⟨pend, _, hend, ?_⟩
        refine hjump (fun e' a' w' => e' = e ∧ ∃ Z' γ', SatSt E Z' γ' { st with H := H2.put (st.nid + 1) .gone, nid := nid2, dm := some st.nid } a' w' ∧ Run Z γ st.H w Z' γ' (H2.put (st.nid + 1) .gone) w') _ _ ⟨rfl, Z3, γ3, ⟨s3.turnObj hid2 rfl hb3 t1 (loop_noCells _) (loop_noCells _) trivial, fun i x hi => ?_, hs.size, ?_, fresh_put f1 hid2, fun gi cs hgl => ?_⟩, (r12.trans r3).trans hrunE⟩
        · exact (hs.tmp i x hi).run hs.sat ((r12.trans r3).trans hrunE)
        · have : a.defers = [] := by have := hs.defs; rw [hdm] at this; exact this
          exact ⟨w.heap.size, hd3, by simp [this]⟩
        · exact (hs.glob gi cs hgl).run0 hs.sat ((r12.trans r3).trans hrunE)
  have step : stt ≠ .busy → pendK k { st with H := H2.put (st.nid + 1) .gone, nid := nid2, dm := some st.nid } pend → ∃ e st', k e st' ∧ (∀ i, st'.nid ≤ i → st'.H.get i = none) ∧ ∀ R, (false = false → R = none) → ∀ Z γ a w, SatSt E Z γ st a w →
        (Code.rangeFunc g ps assign body).wpIn (FR R) 0 E.P (fun e' a' w' => e' = e ∧ ∃ Z' γ', SatSt E Z' γ' st' a' w' ∧ Run Z γ st.H w Z' γ' st'.H w') a w := by
    intro hnb hk
    unfold pendK at hk
    split at hk
    · exact main hnb .normal (fun Q a w h => h) hk
    · exact main hnb .ret (fun Q a w h => wpIn_ret h) hk
    · exact main hnb (.exit _) (fun Q a w h => wpIn_exit h) hk
    · exact hk.elim
  cases stt with
  | busy => exact h1.elim
  | ready => exact step (by simp) h1
  | done => exact step (by simp) h1
  | exhausted => exact step (by simp) h1

end Go.Sx
