/- Part of an own symbolic executor for the model's code, proved sound, and of the proof of one statement (see the text of the claimed theorem). -/
import Derived.Test.YtkpkfccgbehilaaGreatDoorSxPA
namespace Go.Sx

def Live (H : Heap) (i : Nat) : Prop := ∃ ch, H.get i = some ch ∧ ch.live = true

/-- From a state to a later one: what is in nobody's hands stays. -/
structure Run (Z : Nat → Prop) (γ : Gam) (H : Heap) (w : World) (Z' : Nat → Prop) (γ' : Gam) (H' : Heap) (w' : World) : Prop where
  gam : ∀ i b, γ i = some b → γ' i = some b
  zed : ∀ b, Z b → Z' b
  size : w.heap.size ≤ w'.heap.size
  keep : ∀ b, b < w.heap.size → (∀ i, Live H i → γ i ≠ some b) → w'.heap[b]? = w.heap[b]?
  shape : ∀ b, b < w.heap.size → w'.shape? b = w.shape? b
  gnew : ∀ i b, Live H' i → γ' i = some b → (∃ j, Live H j ∧ γ j = some b) ∨ w.heap.size ≤ b
  znew : ∀ b, Z' b → Z b ∨ w.heap.size ≤ b ∨ ∃ i, Live H i ∧ γ i = some b
  tape : w'.tape = w.tape
  os : w'.os = w.os
  output : w'.output = w.output

theorem Run.refl (Z γ H w) : Run Z γ H w Z γ H w :=
  ⟨fun _ _ h => h, fun _ h => h, Nat.le_refl _, fun _ _ _ => rfl, fun _ _ => rfl, fun i _ h1 h2 => .inl ⟨i, h1, h2⟩, fun _ h => .inl h, rfl, rfl, rfl⟩

theorem Run.trans {Z γ H w Z1 γ1 H1 w1 Z2 γ2 H2 w2} (h : Run Z γ H w Z1 γ1 H1 w1) (k : Run Z1 γ1 H1 w1 Z2 γ2 H2 w2) : Run Z γ H w Z2 γ2 H2 w2 where
  gam i b hb := k.gam i b (h.gam i b hb)
  zed b hb := k.zed b (h.zed b hb)
  size := Nat.le_trans h.size k.size
  keep b hb hn := by
    rw [k.keep b (Nat.lt_of_lt_of_le hb h.size) (fun i hl hi => ?_), h.keep b hb hn]
    rcases h.gnew i b hl hi with ⟨j, hj, hj'⟩ | hj
    · exact hn j hj hj'
    · omega
  shape b hb := by rw [k.shape b (Nat.lt_of_lt_of_le hb h.size), h.shape b hb]
  gnew i b hl hb := by
    rcases k.gnew i b hl hb with ⟨j, hj, hj'⟩ | hj
    · exact h.gnew j b hj hj'
    · exact .inr (Nat.le_trans h.size hj)
  znew b hb := by
    rcases k.znew b hb with hz | hz | ⟨i, hl, hi⟩
    · exact h.znew b hz
    · exact .inr (.inl (Nat.le_trans h.size hz))
    · rcases h.gnew i b hl hi with ⟨j, hj⟩ | hj
      · exact .inr (.inr ⟨j, hj⟩)
      · exact .inr (.inl hj)
  tape := k.tape.trans h.tape
  os := k.os.trans h.os
  output := k.output.trans h.output

/-- A value stays related. -/
theorem VRel.run {Z γ H w Z1 γ1 H1 w1 a v} (h : VRel Z w γ a v) (hs : Sat Z γ H w) (hr : Run Z γ H w Z1 γ1 H1 w1) : VRel Z1 w1 γ1 a v :=
  h.mono (fun b hb => ⟨hr.zed b hb, hr.keep b (hs.zrng b hb) (fun i ⟨ch, hi, hl⟩ he => by
    obtain ⟨b', hb', hz, _⟩ := hs.own i ch hi hl
    rw [he] at hb'; cases hb'; exact hz hb)⟩) hr.gam (fun i b hb => hr.shape b (hs.rng i b hb))

theorem VRel.run0 {Z γ H w Z1 γ1 H1 w1 a v} (h : VRel Z w noG a v) (hs : Sat Z γ H w) (hr : Run Z γ H w Z1 γ1 H1 w1) : VRel Z1 w1 noG a v :=
  h.mono (fun b hb => ⟨hr.zed b hb, hr.keep b (hs.zrng b hb) (fun i ⟨ch, hi, hl⟩ he => by
    obtain ⟨b', hb', hz, _⟩ := hs.own i ch hi hl
    rw [he] at hb'; cases hb'; exact hz hb)⟩) (fun _ _ h => h) (fun i b hb => by cases hb)

def putsGet (wr : List (Nat × Chunk)) (H : Heap) (i : Nat) : Option Chunk :=
  match wr with
  | [] => H.get i
  | (j, c) :: l => putsGet l (H.put j c) i

theorem puts_get_not : ∀ (wr : List (Nat × Chunk)) (H : Heap) (i : Nat), (∀ p, p ∈ wr → p.1 ≠ i) → (H.puts wr).get i = H.get i
  | [], _, _, _ => rfl
  | (j, c) :: l, H, i, h => by
    simp only [Tr.puts]
    rw [puts_get_not l _ _ (fun p hp => h p (List.mem_cons_of_mem _ hp)), Tr.get_put, if_neg (fun e => h _ List.mem_cons_self e.symm)]

/-- What is asked of an operation's effect besides: it writes what it names, or new ids. -/
structure Out.Wf (u : Out) (H : Heap) (nid : Nat) : Prop where
  wr : ∀ p, p ∈ u.wr → p.1 ∈ u.nd ∨ (nid ≤ p.1 ∧ p.1 < nid + room)
  nd : ∀ i, i ∈ u.nd → Live H i

theorem Stp.toRun {Z γ H w Z' γ' w' nid} {u : Out} (hs : Sat Z γ H w) (hw : u.Wf H nid) (hf : ∀ i, nid ≤ i → i < nid + room → H.get i = none)
    (h : Stp Z γ w (· ∈ u.nd) Z' γ' w') : Run Z γ H w Z' γ' (H.puts u.wr) w' where
  gam := h.gam
  zed := h.zed
  size := h.size
  keep b hb hn := h.keep b hb (fun i hi => hn i (hw.nd i hi))
  shape := h.shape
  gnew i b hl hb := by
    rcases h.gnew i b hb with h1 | h1 | ⟨j, hj, hj'⟩
    · left
      by_cases hp : ∀ p, p ∈ u.wr → p.1 ≠ i
      · obtain ⟨ch, hc, hcl⟩ := hl
        rw [puts_get_not _ _ _ hp] at hc
        exact ⟨i, ⟨ch, hc, hcl⟩, h1⟩
      · have ⟨p, hp1, hp2⟩ : ∃ p, p ∈ u.wr ∧ p.1 = i := by
          apply Classical.byContradiction; intro hne; exact hp fun p hp e => hne ⟨p, hp, e⟩
        rcases hw.wr p hp1 with hnd | ⟨h2, h3⟩
        · rw [hp2] at hnd; exact ⟨i, hw.nd i hnd, h1⟩
        · have := hs.dom i (hf i (hp2 ▸ h2) (hp2 ▸ h3)); rw [this] at h1; cases h1
    · exact .inr h1
    · exact .inl ⟨j, hw.nd j hj, hj'⟩
  znew b hb := by
    rcases h.znew b hb with h1 | h1 | ⟨j, hj, hj'⟩
    · exact .inl h1
    · exact .inr (.inl h1)
    · exact .inr (.inr ⟨j, hw.nd j hj, hj'⟩)
  tape := h.tape
  os := h.os
  output := h.output

/-! ## states -/
structure St where
  t : Tr AV
  H : Heap
  nid : Nat
  nt : Nat
  /-- the block for the rounds' deferred calls, once a loop over a function has been gone through -/
  dm : Option Nat := none

def DefsOk (γ : Gam) (mk : Option Nat) (ds : List Deferred) : Prop :=
  match mk with
  | none => ds = []
  | some id => ∃ b, γ id = some b ∧ ds = [{ target := .collected b, args := #[] }]

theorem DefsOk.mono {γ γ' : Gam} {mk : Option Nat} {ds : List Deferred} (h : DefsOk γ mk ds) (hg : ∀ i b, γ i = some b → γ' i = some b) : DefsOk γ' mk ds := by
  cases mk with
  | none => exact h
  | some id => obtain ⟨b, h1, h2⟩ := h; exact ⟨b, hg _ _ h1, h2⟩

def GOk (E : Env) (Z : Nat → Prop) (w : World) : Prop := ∀ g cs, lookG E.G g = some cs → VRel Z w noG (.iref cs) (.pointer (some ⟨g, 0, none⟩))

structure SatSt (E : Env) (Z : Nat → Prop) (γ : Gam) (st : St) (a : Act) (w : World) : Prop where
  sat : Sat Z γ st.H w
  tmp : ∀ i x, st.t.get i = some x → VRel Z w γ x (a.tmps.getD i undef)
  size : a.tmps.size = st.nt
  defs : DefsOk γ st.dm a.defers
  fresh : ∀ i, st.nid ≤ i → st.H.get i = none
  glob : GOk E Z w

theorem SatSt.ev {E Z γ st a w} (h : SatSt E Z γ st a w) (x : Operand) : VRel Z w γ (ev E.G st.t x) (a.eval x) := by
  cases x with
  | tmp i =>
    simp only [Sx.ev, Act.eval]
    cases hg : st.t.get i with
    | none => exact .any
    | some x => exact h.tmp i x hg
  | const v => exact ofVal_ok ..
  | global g =>
    simp only [Sx.ev, Act.eval]
    cases hg : lookG E.G g with
    | none => exact .raw
    | some cs => exact noG_le (h.glob g cs hg)
  | func f => exact .fn rfl rfl (fun i c v h => by simp at h) (fun i c v h => by simp at h)

/-- An operation's value is laid into its slot. -/
def St.set (st : St) (dst : Option Tmp) (r : AV) : St :=
  match dst with
  | none => st
  | some d => { st with t := st.t.put d r }

def St.eff (st : St) (u : Out) : St :=
  match u.wr with
  | [] => st
  | _ :: _ => { st with H := st.H.puts u.wr, nid := st.nid + room }

def dstOk (nt : Nat) : Option Tmp → Bool
  | none => true
  | some d => Nat.blt d nt

theorem SatSt.set {E Z γ st a w} (h : SatSt E Z γ st a w) {dst : Option Tmp} (hd : dstOk st.nt dst = true) {r : AV} {v : Value} (hv : VRel Z w γ r v) : SatSt E Z γ (st.set dst r) (a.put dst v) w := by
  cases dst with
  | none => exact h
  | some d =>
    have hlt : d < a.tmps.size := by rw [h.size]; exact Nat.le_of_ble_eq_true hd
    refine ⟨h.sat, fun i x hi => ?_, by simpa [Act.put, St.set] using h.size, by simpa [Act.put, St.set] using h.defs, h.fresh, h.glob⟩
    simp only [St.set, Tr.get_put] at hi
    simp only [Act.put]
    by_cases e : i = d
    · subst e
      rw [if_pos rfl] at hi; cases hi
      simpa [hlt] using hv
    · rw [if_neg e] at hi
      have := h.tmp i x hi
      simpa [Array.getElem?_setIfInBounds, Ne.symm e] using this

theorem puts_fresh {u : Out} {H : Heap} {nid : Nat} (hw : u.Wf H nid) (hf : ∀ i, nid ≤ i → H.get i = none) : ∀ i, nid + room ≤ i → (H.puts u.wr).get i = none := by
  intro i hi
  rw [puts_get_not _ _ _ (fun p hp e => ?_)]
  · exact hf i (by omega)
  · rcases hw.wr p hp with h | ⟨h1, h2⟩
    · obtain ⟨ch, hc, _⟩ := hw.nd _ h
      rw [hf p.1 (by omega)] at hc; cases hc
    · omega

theorem SatSt.eff {E Z γ st a w} (h : SatSt E Z γ st a w) {u : Out} (hw : u.Wf st.H st.nid) {Z' γ' w'} (hs : Sat Z' γ' (st.H.puts u.wr) w') (hr : Run Z γ st.H w Z' γ' (st.H.puts u.wr) w') : SatSt E Z' γ' (st.eff u) a w' := by
  have hg : GOk E Z' w' := fun g cs hg => (h.glob g cs hg).run0 h.sat hr
  have ht : ∀ i x, st.t.get i = some x → VRel Z' w' γ' x (a.tmps.getD i undef) := fun i x hi => (h.tmp i x hi).run h.sat hr
  cases hwr : u.wr with
  | nil => simp only [St.eff, hwr]; rw [hwr] at hs; exact ⟨hs, ht, h.size, h.defs.mono hr.gam, h.fresh, hg⟩
  | cons p l =>
    have hf := puts_fresh hw h.fresh
    rw [hwr] at hs hf
    simp only [St.eff, hwr]; exact ⟨hs, ht, h.size, h.defs.mono hr.gam, hf, hg⟩

/-- The semantics of a piece of code from an abstract state. -/
def COK (E : Env) (rd : Bool) (c : Code) (st : St) (K : Exit → St → Prop) : Prop :=
  (∀ i, st.nid ≤ i → st.H.get i = none) → ∃ e st', K e st' ∧ (∀ i, st'.nid ≤ i → st'.H.get i = none) ∧
    ∀ R, (rd = false → R = none) → ∀ Z γ a w, SatSt E Z γ st a w → c.wpIn (FR R) 0 E.P (fun e' a' w' => e' = e ∧ ∃ Z' γ', SatSt E Z' γ' st' a' w' ∧ Run Z γ st.H w Z' γ' st'.H w') a w

end Go.Sx

namespace Go.Sx
section
variable {E : Env} (ok : E.Ok)

theorem Wf_nil {H nid c r} : Out.Wf ⟨c, [], r, []⟩ H nid := ⟨fun _ h => (by cases h), fun _ h => (by cases h)⟩
theorem Wf_new {H nid c r ch} : Out.Wf ⟨c, [], r, [(nid, ch)]⟩ H nid := ⟨fun p h => by
  simp at h; subst h; exact .inr ⟨Nat.le_refl _, by unfold room; omega⟩, fun _ h => by cases h⟩
theorem Wf_id {H nid c r id ch} (h : H.get id = some ch) (hl : ch.live = true) : Out.Wf ⟨c, [id], r, []⟩ H nid := ⟨fun _ h => (by cases h), fun i hi => (by simp at hi; subst hi; exact ⟨ch, h, hl⟩)⟩
theorem Wf_turn {H nid c r id ch ch'} (h : H.get id = some ch) (hl : ch.live = true) : Out.Wf ⟨c, [id], r, [(id, ch')]⟩ H nid :=
  ⟨fun p h => by simp at h; subst h; exact .inl (by simp), fun i hi => by simp at hi; subst hi; exact ⟨ch, h, hl⟩⟩

def lift (r : Option AV) : Option Out :=
  match r with
  | some r => some (out r)
  | none => none

def liftc (r : Option (Option Bool × AV)) : Option Out :=
  match r with
  | some (c, r) => some (outc c r)
  | none => none

/-- Is what is appended a row whose length is not written out? -/
def rowSrc (E : Env) (y : AV) (H : Heap) : Bool :=
  match y with
  | .isl _ _ _ _ => !E.lit
  | .sl id _ _ _ _ _ => match H.get id with
    | some (.row _ _ _ _) => true
    | _ => false
  | _ => false

def builtinF (E : Env) (b : Builtin) (args : List AV) (ats : List TypeId) (H : Heap) (nid : Nat) : Option Out :=
  match b with
  | .append => match args, ats with
    | [x, y], [t, tx] => match rowSrc E y H with
      | true => appendR E t tx x y H nid
      | false => appendF E t tx x y H nid
    | _, _ => none
  | .copy => match args, ats with
    | [x, y], [t, _] => copyF E t x y H
    | _, _ => none
  | .len => match args, ats with
    | [x], t :: _ => lift (lenF E t x H)
    | _, _ => none
  | .cap => match args, ats with
    | [x], t :: _ => lift (capF E t x)
    | _, _ => none
  | .min => lift (minF false args)
  | .max => lift (minF true args)
  | _ => none

def opF (E : Env) (nid : Nat) (ρ : Operand → AV) (H : Heap) (o : Op) : Option Out :=
  match o with
  | .move x => some (out (ρ x))
  | .assign x => some (out (ρ x))
  | .pick c x y => lift (pickF (ρ c) (ρ x) (ρ y))
  | .alloc t => allocF E t nid
  | .box t x => boxF t (ρ x) nid
  | .build t ps => lift (buildF E t (partsOf ρ ps.toList))
  | .buildSlice t n ps => bsliceF E t n (partsOf ρ ps.toList) nid
  | .load t x => loadF E t (ρ x) H
  | .store t x y => storeF E t (ρ x) (ρ y) H
  | .nilCheck x => lift (nilF (ρ x))
  | .binOp op t x y _ => liftc (binF E op t y (ρ x) (ρ y))
  | .unOp op _ x => lift (unF op (ρ x))
  | .convert s d x => lift (convF E s d (ρ x))
  | .makeInterface t x => lift (ifaceF E t (ρ x))
  | .makeFunc f fs cs => some (out (.fn f (fs.toList.map ρ) (cs.toList.map ρ)))
  | .fieldAddr s x f => lift (fieldF E s (ρ x) f)
  | .field s x f => lift (fldF E s (ρ x) f)
  | .indexAddr t x y => indexF E t (ρ x) (ρ y) H
  | .index t x y => liftc (idxF E t (ρ x) (ρ y))
  | .extract x i => lift (extractF (ρ x) i)
  | .slice t x lo hi mx => sliceF E t (ρ x) (optAV ρ lo) (optAV ρ hi) (optAV ρ mx) H
  | .makeSlice t x y => makeF E t (ρ x) (ρ y) nid
  | .makeMap t x => mmapF E t (optAV ρ x) nid
  | .call { callee := .builtin b, args, argTypes } => builtinF E b (args.toList.map ρ) argTypes.toList H nid
  | _ => none

theorem head_get {α : Type} {xs : Array α} {t : α} {l : List α} (h : xs.toList = t :: l) : xs[0]? = some t := by
  have : xs.toList[0]? = some t := by rw [h]; rfl
  simpa using this

theorem lift_spec {r : Option AV} {u : Out} (h : lift r = some u) : ∃ x, r = some x ∧ u = out x := by
  unfold lift at h; split at h
  · cases h; exact ⟨_, rfl, rfl⟩
  · cases h
theorem liftc_spec {r : Option (Option Bool × AV)} {u : Out} (h : liftc r = some u) : ∃ c x, r = some (c, x) ∧ u = outc c x := by
  unfold liftc at h; split at h
  · cases h; exact ⟨_, _, rfl, rfl⟩
  · cases h

theorem Wf_load {E : Env} {t x H u nid} (h : loadF E t x H = some u) : u.Wf H nid := by
  unfold loadF at h
  repeat' (split at h)
  all_goals first | (cases h; done) | (cases h; exact Wf_nil) | (cases h; exact Wf_id (by assumption) rfl)

theorem Wf_store {E : Env} {t x y H u nid} (h : storeF E t x y H = some u) : u.Wf H nid := by
  unfold storeF at h
  repeat' (split at h)
  all_goals first | (cases h; done) | (cases h; exact Wf_turn (by assumption) rfl)

theorem Wf_index {E : Env} {t x y H u nid} (h : indexF E t x y H = some u) : u.Wf H nid := by
  unfold indexF at h
  repeat' (split at h)
  all_goals first | (cases h; done) | (cases h; exact Wf_nil)

theorem Wf_bslice {E : Env} {t n ps u H nid} (h : bsliceF E t n ps nid = some u) : u.Wf H nid := by
  unfold bsliceF at h
  repeat' (split at h)
  all_goals first | (cases h; done) | (cases h; exact Wf_new)

theorem Wf_alloc {E : Env} {t u H nid} (h : allocF E t nid = some u) : u.Wf H nid := by
  unfold allocF at h
  repeat' (split at h)
  all_goals first | (cases h; done) | (cases h; exact Wf_new)

theorem Wf_box {t x u H nid} (h : boxF t x nid = some u) : u.Wf H nid := by
  unfold boxF at h
  repeat' (split at h)
  all_goals first | (cases h; done) | (cases h; exact Wf_new)

theorem map_two {α β : Type} {f : α → β} {l : List α} {x y : β} (h : l.map f = [x, y]) : ∃ p q, l = [p, q] ∧ f p = x ∧ f q = y := by
  match l, h with
  | [p, q], h => simp at h; exact ⟨p, q, rfl, h.1, h.2⟩

include ok in
theorem opF_ok {o : Oper} {ρ : Operand → AV} {H : Heap} {nid : Nat} {u : Out} (h : opF E nid ρ H o.op = some u) (hc : Asked u.c) : Valid E.P o ρ H nid u ∧ u.Wf H nid := by
  unfold opF at h
  split at h
  · rename_i x ho; cases h; exact ⟨valid_move (.inl ho) _ _ _, Wf_nil⟩
  · rename_i x ho; cases h; exact ⟨valid_move (.inr ho) _ _ _, Wf_nil⟩
  · rename_i ho; obtain ⟨r, hr, rfl⟩ := lift_spec h; exact ⟨valid_pick ho _ _ _ hr, Wf_nil⟩
  · rename_i ho; exact ⟨valid_alloc ok ho _ _ _ h, Wf_alloc h⟩
  · rename_i ho; exact ⟨valid_box ho _ _ _ h, Wf_box h⟩
  · rename_i ho; obtain ⟨r, hr, rfl⟩ := lift_spec h; exact ⟨valid_build ok ho _ _ _ hr, Wf_nil⟩
  · rename_i ho; exact ⟨valid_bslice ok ho _ _ _ h, Wf_bslice h⟩
  · rename_i ho; exact ⟨valid_load ok ho _ _ _ h hc, Wf_load h⟩
  · rename_i ho; exact ⟨valid_store ok ho _ _ _ h hc, Wf_store h⟩
  · rename_i ho; obtain ⟨r, hr, rfl⟩ := lift_spec h; exact ⟨valid_nil ho _ _ _ hr, Wf_nil⟩
  · rename_i ho; obtain ⟨c, r, hr, rfl⟩ := liftc_spec h; exact ⟨valid_bin ok ho _ _ _ hr hc, Wf_nil⟩
  · rename_i ho; obtain ⟨r, hr, rfl⟩ := lift_spec h; exact ⟨valid_un ho _ _ _ hr, Wf_nil⟩
  · rename_i ho; obtain ⟨r, hr, rfl⟩ := lift_spec h; exact ⟨valid_conv ok ho _ _ _ hr, Wf_nil⟩
  · rename_i ho; obtain ⟨r, hr, rfl⟩ := lift_spec h; exact ⟨valid_iface ok ho _ _ _ hr, Wf_nil⟩
  · rename_i ho; cases h; exact ⟨valid_func ho _ _ _, Wf_nil⟩
  · rename_i ho; obtain ⟨r, hr, rfl⟩ := lift_spec h; exact ⟨valid_field ok ho _ _ _ hr, Wf_nil⟩
  · rename_i ho; obtain ⟨r, hr, rfl⟩ := lift_spec h; exact ⟨valid_fld ok ho _ _ _ hr, Wf_nil⟩
  · rename_i ho; exact ⟨valid_index ok ho _ _ _ h hc, Wf_index h⟩
  · rename_i ho; obtain ⟨c, r, hr, rfl⟩ := liftc_spec h; exact ⟨valid_idx ok ho _ _ _ hr hc, Wf_nil⟩
  · rename_i ho; obtain ⟨r, hr, rfl⟩ := lift_spec h; exact ⟨valid_extract ho _ _ _ hr, Wf_nil⟩
  · rename_i ho
    obtain ⟨h1, h2, h3⟩ := valid_slice ok ho ρ H nid h hc
    exact ⟨h1, ⟨(fun p hp => by rw [h2] at hp; cases hp), h3⟩⟩
  · rename_i ho
    obtain ⟨h1, h2, h3⟩ := valid_make ok ho ρ H nid h hc
    exact ⟨h1, ⟨fun p hp => .inr (by rw [h2 p hp]; exact ⟨Nat.le_refl _, by unfold room; omega⟩), fun i hi => by rw [h3] at hi; cases hi⟩⟩
  · rename_i ho
    obtain ⟨h1, h2, h3⟩ := valid_mmap ok ho ρ H nid h
    exact ⟨h1, ⟨fun p hp => .inr (by rw [h2 p hp]; exact ⟨Nat.le_refl _, by unfold room; omega⟩), fun i hi => by rw [h3] at hi; cases hi⟩⟩
  · rename_i b args ats ho
    unfold builtinF at h
    split at h
    · split at h
      · rename_i x y t tx h1 h2
        obtain ⟨p, q, hpq, hp, hq⟩ := map_two h1
        subst hp; subst hq
        split at h
        · obtain ⟨g1, g2, g3⟩ := valid_appendR ok ho hpq h2 ρ H nid h hc
          exact ⟨g1, ⟨fun p hp => .inr (by rw [g2 p hp]; exact ⟨Nat.le_refl _, by unfold room; omega⟩), g3⟩⟩
        · obtain ⟨g1, g2, g3⟩ := valid_append ok ho hpq h2 ρ H nid h
          exact ⟨g1, ⟨fun p hp => by
            rcases g2 p hp with h | h
            · exact .inl h
            · exact .inr (by rw [h]; exact ⟨Nat.le_refl _, by unfold room; omega⟩), g3⟩⟩
      · cases h
    · split at h
      · rename_i x y t tx h1 h2
        obtain ⟨p, q, hpq, hp, hq⟩ := map_two h1
        subst hp; subst hq
        obtain ⟨g1, g2, g3⟩ := valid_copy ok ho hpq h2 ρ H nid h
        exact ⟨g1, ⟨fun p hp => .inl (g2 p hp), g3⟩⟩
      · cases h
    · split at h
      · rename_i x t l h1 h2
        obtain ⟨r, hr, rfl⟩ := lift_spec h
        obtain ⟨p, hp, hp'⟩ : ∃ p, args[0]? = some p ∧ ρ p = x := by
          have : (args.toList.map ρ)[0]? = some x := by rw [h1]; rfl
          simp only [List.getElem?_map, Option.map_eq_some_iff, Array.getElem?_toList] at this
          exact this
        subst hp'
        exact ⟨valid_len ok ho hp (head_get h2) _ _ _ hr, Wf_nil⟩
      · cases h
    · split at h
      · rename_i x t l h1 h2
        obtain ⟨r, hr, rfl⟩ := lift_spec h
        obtain ⟨p, hp, hp'⟩ : ∃ p, args[0]? = some p ∧ ρ p = x := by
          have : (args.toList.map ρ)[0]? = some x := by rw [h1]; rfl
          simp only [List.getElem?_map, Option.map_eq_some_iff, Array.getElem?_toList] at this
          exact this
        subst hp'
        exact ⟨valid_cap ok ho hp (head_get h2) _ _ _ hr, Wf_nil⟩
      · cases h
    · obtain ⟨r, hr, rfl⟩ := lift_spec h
      exact ⟨valid_min (mx := false) (by simpa using ho) _ _ _ hr, Wf_nil⟩
    · obtain ⟨r, hr, rfl⟩ := lift_spec h
      exact ⟨valid_min (mx := true) (by simpa using ho) _ _ _ hr, Wf_nil⟩
    · cases h
  · cases h

end
end Go.Sx

namespace Go.Sx

/-- A function's contract, as the executor uses it: what is asked, and what comes of it. -/
abbrev FC := List AV → Heap → Nat → (Out → Prop) → Prop

def FValid (E : Env) (f : FuncId) (args : List AV) (H : Heap) (nid : Nat) (u : Out) : Prop :=
  ∀ (Z : Nat → Prop) (γ : Gam) (H' : Heap) (w : World) (vs : Array Value),
    Sat Z γ H' w → GOk E Z w → vs.size = args.length → (∀ (i : Nat) c v, args[i]? = some c → vs[i]? = some v → VRel Z w γ c v) →
    (∀ i, i ∈ u.nd → H'.get i = H.get i) → (∀ i, nid ≤ i → i < nid + room → H'.get i = none) →
    Calls E.P f vs w fun e w' => ∃ v Z' γ', e = .returned v ∧ VRel Z' w' γ' u.r v ∧ Sat Z' γ' (H'.puts u.wr) w' ∧ Stp Z γ w (· ∈ u.nd) Z' γ' w' ∧
      (∀ i, γ i = none → γ' i ≠ none → nid ≤ i ∧ i < nid + room)

structure FOK (E : Env) (f : FuncId) (fc : FC) : Prop where
  fn : ∃ fn, E.P.funcs[f]? = some fn ∧ (fn.name == "runtime.NumGoroutine") = false ∧ fn.body.isNone = false
  run : ∀ args H nid k, fc args H nid k → ∃ u, k u ∧ u.Wf H nid ∧ FValid E f args H nid u

def ValidG (E : Env) (o : Oper) (ρ : Operand → AV) (H : Heap) (nid : Nat) (u : Out) : Prop :=
  ∀ (R : Option Nat) (Z : Nat → Prop) (γ : Gam) (H' : Heap) (w : World) (a : Act) (next : Act → World → Prop) (Q : Exit → Act → World → Prop),
    Sat Z γ H' w → GOk E Z w → (∀ x, VRel Z w γ (ρ x) (a.eval x)) → (∀ i, i ∈ u.nd → H'.get i = H.get i) → (∀ i, nid ≤ i → i < nid + room → H'.get i = none) →
    (∀ v w' Z' γ', VRel Z' w' γ' u.r v → Sat Z' γ' (H'.puts u.wr) w' → Stp Z γ w (· ∈ u.nd) Z' γ' w' →
      (∀ i, γ i = none → γ' i ≠ none → nid ≤ i ∧ i < nid + room) → next (a.put o.dst v) w') →
    o.wpIn (FR R) 0 E.P a w next Q

theorem Valid.toG {E : Env} {o ρ H nid u} (h : Valid E.P o ρ H nid u) : ValidG E o ρ H nid u := fun R Z γ H' w a next Q hs _ hx hn hf hk => h R Z γ H' w a next Q hs hx hn hf hk

/-- Contracts of functions; what is told of an operation that is not known. -/
structure FT where
  f : Nat → Option FC
  st : Op → List AV → Prop

instance : CoeFun FT (fun _ => Nat → Option FC) := ⟨FT.f⟩

/-- One operation. -/
def stepF (E : Env) (F : FT) (nid : Nat) (ρ : Operand → AV) (H : Heap) (o : Op) (k : Out → Prop) : Prop :=
  match o with
  | .call { callee := .value f, args, argTypes := q } => match ρ f with
    | .fn (.func fid) first caps => match F fid with
      | some fc => fc (first ++ (args.toList.map ρ ++ caps)) H nid k
      | none => F.st (.call { callee := .value f, args := args, argTypes := q }) [ρ f]
    | x => F.st (.call { callee := .value f, args := args, argTypes := q }) [x]
  | o => match opF E nid ρ H o with
    | some u => match u.c with
      | none => k u
      | some c => bcase c (k u) False
    | none => F.st o (o.operands.toList.map ρ)

structure FEnv (E : Env) (F : FT) : Prop where
  ok : E.Ok
  no : ∀ o l, ¬ F.st o l
  fns : ∀ f fc, F f = some fc → FOK E f fc

theorem valid_call {E : Env} {o : Oper} {x : Operand} {args : Array Operand} {ats : Array TypeId} (h : o.op = .call { callee := .value x, args := args, argTypes := ats }) {ρ : Operand → AV} {H : Heap} {nid : Nat}
    {fid : FuncId} {first caps : List AV} (hx : ρ x = .fn (.func fid) first caps) {fc : FC} (hf : FOK E fid fc) {u : Out} (hu : FValid E fid (first ++ (args.toList.map ρ ++ caps)) H nid u) : ValidG E o ρ H nid u := by
  intro R Z γ H' w a next Q hs hg hr hn hfr hk
  have h1 := hr x
  rw [hx] at h1
  generalize hav : a.eval x = v at h1
  obtain ⟨fn, hfn, hnm, hb⟩ := hf.fn
  have ⟨fs, cs, hv, h2, h3, h4, h5⟩ : ∃ fs cs, v = .func (.func fid) fs cs ∧ fs.size = first.length ∧ cs.size = caps.length ∧ (∀ (i : Nat) c v, first[i]? = some c → fs[i]? = some v → VRel Z w γ c v) ∧
      (∀ (i : Nat) c v, caps[i]? = some c → cs[i]? = some v → VRel Z w γ c v) := by
    cases h1 with
    | fn a b c d => exact ⟨_, _, rfl, a, b, c, d⟩
  subst hv
  have hrun : (execOp a.eval o).run E.P w = .ok (.enter fid (fs ++ args.map a.eval ++ cs)) w := by
    simp only [execOp, h, Sem.run_bind, resolve, hav, Deferred.ofValue, Sem.run_pure, Result.andThen_ok, invoke, callFunc, run_program, hfn, hnm, hb]
    simp
  refine owp_enter hrun ?_ R
  refine (hu Z γ H' w _ hs hg (by simp [h2, h3]; try omega) (fun i c v hc hv => ?_) hn hfr).mono fun e w' ⟨v, Z', γ', he, hv, hs', hst, hfg⟩ => by
    exact ⟨v, he, hk v w' Z' γ' hv hs' hst hfg⟩
  simp only [Array.append_assoc, Array.getElem?_append, List.getElem?_append, Array.size_map, List.length_map, Array.length_toList] at hc hv
  rw [h2] at hv
  by_cases c1 : i < first.length
  · rw [if_pos c1] at hc hv; exact h4 i c v hc hv
  · rw [if_neg c1] at hc hv
    by_cases c2 : i - first.length < args.size
    · rw [if_pos c2] at hc hv
      simp only [List.getElem?_map, Array.getElem?_map, Option.map_eq_some_iff, Array.getElem?_toList] at hc hv
      obtain ⟨p, hp, rfl⟩ := hc
      obtain ⟨q, hq, rfl⟩ := hv
      rw [hp] at hq; cases hq; exact hr _
    · rw [if_neg c2] at hc hv; exact h5 _ c v hc hv

theorem stepF_ok {E : Env} {F : FT} (hE : FEnv E F) {o : Oper} {ρ : Operand → AV} {H : Heap} {nid : Nat} {k : Out → Prop} (h : stepF E F nid ρ H o.op k) :
    ∃ u, k u ∧ u.Wf H nid ∧ ValidG E o ρ H nid u := by
  unfold stepF at h
  split at h
  · rename_i f args ats ho
    split at h
    · rename_i fid first caps hx
      split at h
      · rename_i fc hfc
        have hf := hE.fns fid fc hfc
        obtain ⟨u, hk, hw, hv⟩ := hf.run _ _ _ _ h
        exact ⟨u, hk, hw, valid_call ho hx hf hv⟩
      · exact (hE.no _ _ h).elim
    · exact (hE.no _ _ h).elim
  · split at h
    · rename_i u hu
      split at h
      · rename_i hc
        obtain ⟨h1, h2⟩ := opF_ok hE.ok hu (by rw [hc]; trivial)
        exact ⟨u, h, h2, h1.toG⟩
      · rename_i c hc
        rw [bcase_iff] at h
        cases c with
        | false => exact (h.2 rfl).elim
        | true =>
          obtain ⟨h1, h2⟩ := opF_ok hE.ok hu (by rw [hc])
          exact ⟨u, h.1 rfl, h2, h1.toG⟩
    · exact (hE.no _ _ h).elim

/-! ## calls that are gone through in place -/
/-- A function's meaning from a heap on. -/
abbrev SC := List AV → Heap → Nat → (AV → Heap → Nat → Prop) → Prop

structure Fs where
  F : FT
  I : Nat → Option SC
  /-- a round of a loop over a function -/
  Y : Nat → SC

structure SOK (E : Env) (f : FuncId) (sc : SC) : Prop where
  fn : ∃ fn, E.P.funcs[f]? = some fn ∧ (fn.name == "runtime.NumGoroutine") = false ∧ fn.body.isNone = false
  run : ∀ args H nid k, (∀ i, nid ≤ i → H.get i = none) → sc args H nid k → ∃ r H' nid', k r H' nid' ∧ (∀ i, nid' ≤ i → H'.get i = none) ∧ ∀ (Z : Nat → Prop) (γ : Gam) (w : World) (vs : Array Value),
    Sat Z γ H w → GOk E Z w → vs.size = args.length → (∀ (i : Nat) c v, args[i]? = some c → vs[i]? = some v → VRel Z w γ c v) →
    Calls E.P f vs w fun e w' => ∃ v Z' γ', e = .returned v ∧ VRel Z' w' γ' r v ∧ Sat Z' γ' H' w' ∧ Run Z γ H w Z' γ' H' w'

def YOK (E : Env) (lid : Nat) (sc : SC) : Prop :=
  ∀ args H nid k, (∀ i, nid ≤ i → H.get i = none) → sc args H nid k → ∃ r H' nid', k r H' nid' ∧ (∀ i, nid' ≤ i → H'.get i = none) ∧ ∀ (Z : Nat → Prop) (γ : Gam) (w : World) (vs : Array Value) (b : Nat),
    Sat Z γ H w → GOk E Z w → vs.size = args.length → (∀ (i : Nat) c v, args[i]? = some c → vs[i]? = some v → VRel Z w γ c v) → γ lid = some b →
    ∃ fn tmps assign body, (Instr.yield b vs).run E.P w = .ok (.round b fn tmps assign body) w ∧
      RoundIn Fence.wide 0 E.P b fn tmps assign body w fun e w' => ∃ v Z' γ', e = .returned v ∧ VRel Z' w' γ' r v ∧ Sat Z' γ' H' w' ∧ Run Z γ H w Z' γ' H' w'

structure FsEnv (E : Env) (F : Fs) : Prop where
  base : FEnv E F.F
  yld : ∀ lid, YOK E lid (F.Y lid)
  inl : ∀ f sc, F.I f = some sc → SOK E f sc

/-- The function that an operation calls in place, and its arguments. -/
def inlF (F : Fs) (ρ : Operand → AV) (o : Op) : Option (SC × List AV) :=
  match o with
  | .call { callee := .value f, args, argTypes := _ } => match ρ f with
    | .fn (.func fid) first caps => match F.I fid with
      | some sc => some (sc, first ++ (args.toList.map ρ ++ caps))
      | none => none
    | _ => none
  | _ => none

theorem call_run {E : Env} {o : Oper} {x : Operand} {args : Array Operand} {ats : Array TypeId} (h : o.op = .call { callee := .value x, args := args, argTypes := ats }) {ρ : Operand → AV}
    {fid : FuncId} {first caps : List AV} (hx : ρ x = .fn (.func fid) first caps) (hf : ∃ fn, E.P.funcs[fid]? = some fn ∧ (fn.name == "runtime.NumGoroutine") = false ∧ fn.body.isNone = false)
    {Z : Nat → Prop} {γ : Gam} {w : World} {a : Act} (hr : ∀ x, VRel Z w γ (ρ x) (a.eval x)) :
    ∃ vs : Array Value, vs.size = (first ++ (args.toList.map ρ ++ caps)).length ∧ (∀ (i : Nat) c v, (first ++ (args.toList.map ρ ++ caps))[i]? = some c → vs[i]? = some v → VRel Z w γ c v) ∧
      (execOp a.eval o).run E.P w = .ok (.enter fid vs) w := by
  have h1 := hr x
  rw [hx] at h1
  generalize hav : a.eval x = v at h1
  obtain ⟨fn, hfn, hnm, hb⟩ := hf
  have ⟨fs, cs, hv, h2, h3, h4, h5⟩ : ∃ fs cs, v = .func (.func fid) fs cs ∧ fs.size = first.length ∧ cs.size = caps.length ∧ (∀ (i : Nat) c v, first[i]? = some c → fs[i]? = some v → VRel Z w γ c v) ∧
      (∀ (i : Nat) c v, caps[i]? = some c → cs[i]? = some v → VRel Z w γ c v) := by
    cases h1 with
    | fn a b c d => exact ⟨_, _, rfl, a, b, c, d⟩
  subst hv
  refine ⟨fs ++ args.map a.eval ++ cs, by simp [h2, h3]; try omega, fun i c v hc hv => ?_, ?_⟩
  rotate_left
  · simp only [execOp, h, Sem.run_bind, resolve, hav, Deferred.ofValue, Sem.run_pure, Result.andThen_ok, invoke, callFunc, run_program, hfn, hnm, hb]
    simp
  simp only [Array.append_assoc, Array.getElem?_append, List.getElem?_append, Array.size_map, List.length_map, Array.length_toList] at hc hv
  rw [h2] at hv
  by_cases c1 : i < first.length
  · rw [if_pos c1] at hc hv; exact h4 i c v hc hv
  · rw [if_neg c1] at hc hv
    by_cases c2 : i - first.length < args.size
    · rw [if_pos c2] at hc hv
      simp only [List.getElem?_map, Array.getElem?_map, Option.map_eq_some_iff, Array.getElem?_toList] at hc hv
      obtain ⟨p, hp, rfl⟩ := hc
      obtain ⟨q, hq, rfl⟩ := hv
      rw [hp] at hq; cases hq; exact hr _
    · rw [if_neg c2] at hc hv; exact h5 _ c v hc hv

theorem inlF_ok {E : Env} {F : Fs} (hE : FsEnv E F) {o : Oper} {ρ : Operand → AV} {sc : SC} {args : List AV} (h : inlF F ρ o.op = some (sc, args)) {H : Heap} {nid : Nat} {k : AV → Heap → Nat → Prop} (hk : sc args H nid k)
    (hfr : ∀ i, nid ≤ i → H.get i = none) : ∃ r H' nid', k r H' nid' ∧ (∀ i, nid' ≤ i → H'.get i = none) ∧
    ∀ {Z : Nat → Prop} {γ : Gam} {w : World} {a : Act} (_ : Sat Z γ H w) (_ : GOk E Z w) (_ : ∀ x, VRel Z w γ (ρ x) (a.eval x)) (next : Act → World → Prop) (Q : Exit → Act → World → Prop)
      (_ : ∀ v w' Z' γ', VRel Z' w' γ' r v → Sat Z' γ' H' w' → Run Z γ H w Z' γ' H' w' → next (a.put o.dst v) w') (R : Option Nat), o.wpIn (FR R) 0 E.P a w next Q := by
  unfold inlF at h
  split at h
  · rename_i f as ats ho
    split at h
    · rename_i fid first caps hx
      split at h
      · rename_i sc' hsc
        cases h
        have hso := hE.inl fid _ hsc
        obtain ⟨r, H', nid', g1, g2, g3⟩ := hso.run _ _ _ _ hfr hk
        refine ⟨r, H', nid', g1, g2, fun hs hg hr next Q hn R => ?_⟩
        obtain ⟨vs, h1, h2, h3⟩ := call_run ho hx hso.fn hr
        refine owp_enter h3 ?_ R
        exact (g3 _ _ _ vs hs hg h1 h2).mono fun e w' ⟨v, Z', γ', e2, e3, e4, e5⟩ => by
          exact ⟨v, e2, hn v w' Z' γ' e3 e4 e5⟩
      · cases h
    · cases h
  · cases h

/-- The loop whose round an operation begins, and the arguments. -/
def yldF (ρ : Operand → AV) (o : Op) : Option (Nat × List AV) :=
  match o with
  | .call { callee := .value f, args, argTypes := _ } => match ρ f with
    | .yld lid => some (lid, args.toList.map ρ)
    | _ => none
  | _ => none

theorem owp_round {P : Program} {o : Oper} {a : Act} {w w' : World} {l : Nat} {fn : FuncId} {tmps : Array Value} {assign body : Code} {next : Act → World → Prop} {Q : Exit → Act → World → Prop}
    (h : (execOp a.eval o).run P w = .ok (.round l fn tmps assign body) w') (hk : RoundIn Fence.wide 0 P l fn tmps assign body w' fun e w2 => ∃ v, e = .returned v ∧ next (a.put o.dst v) w2) (R : Option Nat) :
    o.wpIn (FR R) 0 P a w next Q := ⟨fun _ _ => trivial, by
  show o.uponIn _ _ _ _ _ _ ((o.semAt R a.eval).run P w)
  rw [semAt_run h (fun d hd => by cases hd), Oper.uponIn_round]
  refine ⟨fun h => by simp [Fence.wide] at h, RoundIn.mono (F := FR R) (show RoundIn (FR R) 0 P l fn tmps assign body w' _ from hk) ?_⟩
  rintro e w2 ⟨v, rfl, h⟩
  exact h⟩

theorem yldF_ok {E : Env} {F : Fs} (hE : FsEnv E F) {o : Oper} {ρ : Operand → AV} {lid : Nat} {args : List AV} (h : yldF ρ o.op = some (lid, args)) {H : Heap} {nid : Nat} {k : AV → Heap → Nat → Prop} (hk : F.Y lid args H nid k)
    (hfr : ∀ i, nid ≤ i → H.get i = none) : ∃ r H' nid', k r H' nid' ∧ (∀ i, nid' ≤ i → H'.get i = none) ∧
    ∀ {Z : Nat → Prop} {γ : Gam} {w : World} {a : Act} (_ : Sat Z γ H w) (_ : GOk E Z w) (_ : ∀ x, VRel Z w γ (ρ x) (a.eval x)) (next : Act → World → Prop) (Q : Exit → Act → World → Prop)
      (_ : ∀ v w' Z' γ', VRel Z' w' γ' r v → Sat Z' γ' H' w' → Run Z γ H w Z' γ' H' w' → next (a.put o.dst v) w') (R : Option Nat), o.wpIn (FR R) 0 E.P a w next Q := by
  unfold yldF at h
  split at h
  · rename_i f as ats ho
    split at h
    · rename_i lid' hx
      cases h
      obtain ⟨r, H', nid', g1, g2, g3⟩ := hE.yld _ _ _ _ _ hfr hk
      refine ⟨r, H', nid', g1, g2, fun {Z γ w a} hs hg hr next Q hn R => ?_⟩
      have h1 := hr f
      rw [hx] at h1
      generalize hav : a.eval f = v at h1
      cases h1
      rename_i b hb
      obtain ⟨fn, tmps, assign, body, y1, y2⟩ := g3 Z γ w (as.map a.eval) b hs hg (by simp) (fun i c v hc hv => by
        simp only [List.getElem?_map, Array.getElem?_map, Option.map_eq_some_iff, Array.getElem?_toList] at hc hv
        obtain ⟨p, hp, rfl⟩ := hc
        obtain ⟨q, hq, rfl⟩ := hv
        rw [hp] at hq; cases hq; exact hr _) hb
      have hrun : (execOp a.eval o).run E.P w = .ok (.round b fn tmps assign body) w := by
        simp only [execOp, ho, Sem.run_bind, resolve, hav, Deferred.ofValue, Sem.run_pure, Result.andThen_ok, invoke, callFunc]
        simpa using y1
      refine owp_round hrun (RoundIn.mono y2 ?_) R
      rintro e w' ⟨v, Z', γ', e2, e3, e4, e5⟩
      exact ⟨v, e2, hn v w' Z' γ' e3 e4 e5⟩
    · cases h
  · cases h

/-! ## regions in the text's order -/

def dstAt (ops : List Oper) (j : Nat) : Option Tmp :=
  match ops[j]? with
  | some o => o.dst
  | none => none

/-- The step of an operation in a plain region: the effect is laid into the state. -/
def opStep (E : Env) (F : Fs) (o : Oper) (st : St) (k : St → Prop) : Prop :=
  match dstOk st.nt o.dst with
  | true => match inlF F (ev E.G st.t) o.op with
    | some p => p.1 p.2 st.H st.nid (fun r H' nid' => k (St.set { st with H := H', nid := nid' } o.dst r))
    | none => match yldF (ev E.G st.t) o.op with
      | some p => F.Y p.1 p.2 st.H st.nid (fun r H' nid' => k (St.set { st with H := H', nid := nid' } o.dst r))
      | none => stepF E F.F st.nid (ev E.G st.t) st.H o.op (fun u => k ((st.eff u).set o.dst u.r))
  | false => False

def skipStep (o : Oper) (st : St) (k : St → Prop) : Prop :=
  match dstOk st.nt o.dst with
  | true => k (st.set o.dst (.tup []))
  | false => False

def runOps (E : Env) (F : Fs) (all : List Oper) : List Oper → St → (St → Prop) → Prop
  | [], st, k => k st
  | o :: rest, st, k => match o.guard with
    | none => opStep E F o st (fun st' => runOps E F all rest st' k)
    | some (j, want) => match dstAt all j with
      | none => False
      | some d => match st.t.get d with
        | some (.bool b) => bcase b
            (match want with
              | true => opStep E F o { st with t := st.t.put d (.bool true) } (fun st' => runOps E F all rest st' k)
              | false => skipStep o { st with t := st.t.put d (.bool true) } (fun st' => runOps E F all rest st' k))
            (match want with
              | true => skipStep o { st with t := st.t.put d (.bool false) } (fun st' => runOps E F all rest st' k)
              | false => opStep E F o { st with t := st.t.put d (.bool false) } (fun st' => runOps E F all rest st' k))
        | some (.tup []) => skipStep o st (fun st' => runOps E F all rest st' k)
        | _ => False

theorem SatSt.tmpAs {E Z γ st a w} (h : SatSt E Z γ st a w) {d : Nat} {x x' : AV} (hx : st.t.get d = some x) (hr : ∀ v, VRel Z w γ x v → VRel Z w γ x' v) : SatSt E Z γ { st with t := st.t.put d x' } a w :=
  ⟨h.sat, fun i y hi => by
    rw [Tr.get_put] at hi
    by_cases e : i = d
    · subst e; rw [if_pos rfl] at hi; cases hi; exact hr _ (h.tmp _ x hx)
    · rw [if_neg e] at hi; exact h.tmp i y hi, h.size, h.defs, h.fresh, h.glob⟩

/-- From a state to a later one. -/
def Goes (E : Env) (st st' : St) (go : (Act → World → Prop) → Act → World → Prop) : Prop :=
  ∀ Z γ a w, SatSt E Z γ st a w → ∀ next : Act → World → Prop, (∀ Z' γ' a' w', SatSt E Z' γ' st' a' w' → Run Z γ st.H w Z' γ' st'.H w' → next a' w') → go next a w

theorem opStep_ok {E : Env} {F : Fs} (hE : FsEnv E F) {o : Oper} {st : St} {k : St → Prop} (hfr : ∀ i, st.nid ≤ i → st.H.get i = none) (h : opStep E F o st k) :
    ∃ st', k st' ∧ (∀ i, st'.nid ≤ i → st'.H.get i = none) ∧ ∀ Q R, Goes E st st' (fun next a w => o.wpIn (FR R) 0 E.P a w next Q) := by
  unfold opStep at h
  split at h
  · rename_i hd
    split at h
    · rename_i p hp
      obtain ⟨r, H', nid', hk', hfr', hrun'⟩ := inlF_ok hE hp h hfr
      have hH2 : (St.set { st with H := H', nid := nid' } o.dst r).H = H' := by unfold St.set; split <;> rfl
      have hn2 : (St.set { st with H := H', nid := nid' } o.dst r).nid = nid' := by unfold St.set; split <;> rfl
      refine ⟨_, hk', by rw [hH2, hn2]; exact hfr', fun Q R Z γ a w hs next hk => hrun' hs.sat hs.glob hs.ev next Q (fun v w' Z' γ' hr' hs' hrun => ?_) R⟩
      have hs2 : SatSt E Z' γ' { st with H := H', nid := nid' } a w' := ⟨hs', fun i x hi => (hs.tmp i x hi).run hs.sat hrun, hs.size, hs.defs.mono hrun.gam, hfr', fun g cs hg => (hs.glob g cs hg).run0 hs.sat hrun⟩
      exact hk Z' γ' _ w' (hs2.set hd hr') (by rw [hH2]; exact hrun)
    split at h
    · rename_i p hp
      obtain ⟨r, H', nid', hk', hfr', hrun'⟩ := yldF_ok hE hp h hfr
      have hH2 : (St.set { st with H := H', nid := nid' } o.dst r).H = H' := by unfold St.set; split <;> rfl
      have hn2 : (St.set { st with H := H', nid := nid' } o.dst r).nid = nid' := by unfold St.set; split <;> rfl
      refine ⟨_, hk', by rw [hH2, hn2]; exact hfr', fun Q R Z γ a w hs next hk => hrun' hs.sat hs.glob hs.ev next Q (fun v w' Z' γ' hr' hs' hrun => ?_) R⟩
      have hs2 : SatSt E Z' γ' { st with H := H', nid := nid' } a w' := ⟨hs', fun i x hi => (hs.tmp i x hi).run hs.sat hrun, hs.size, hs.defs.mono hrun.gam, hfr', fun g cs hg => (hs.glob g cs hg).run0 hs.sat hrun⟩
      exact hk Z' γ' _ w' (hs2.set hd hr') (by rw [hH2]; exact hrun)
    obtain ⟨u, hku, hw, hv⟩ := stepF_ok hE.base h
    have hH : (st.eff u).H = st.H.puts u.wr := by
      unfold St.eff; split
      · rename_i h; rw [h]; rfl
      · rfl
    have hH2 : ((st.eff u).set o.dst u.r).H = st.H.puts u.wr := by unfold St.set; split <;> exact hH
    have hn2 : ((st.eff u).set o.dst u.r).nid = (st.eff u).nid := by unfold St.set; split <;> rfl
    refine ⟨_, hku, ?_, fun Q R Z γ a w hs next hk => hv R Z γ st.H w a next Q hs.sat hs.glob hs.ev (fun _ _ => rfl) (fun i h1 _ => hs.fresh i h1) fun v w' Z' γ' hr hs' hst hfg => ?_⟩
    · rw [hH2, hn2]
      have hf := puts_fresh hw hfr
      unfold St.eff
      split
      · rename_i hwr; rw [hwr]; exact hfr
      · exact hf
    have hrun := Stp.toRun hs.sat hw (fun i h1 _ => hs.fresh i h1) hst
    have hs2 := hs.eff hw hs' hrun
    have hd2 : dstOk (st.eff u).nt o.dst = true := by
      have : (st.eff u).nt = st.nt := by unfold St.eff; split <;> rfl
      rw [this]; exact hd
    exact hk Z' γ' _ w' (hs2.set hd2 hr) (by rw [hH2]; exact hrun)
  · exact h.elim

theorem skipStep_ok {E : Env} {o : Oper} {st : St} {k : St → Prop} (h : skipStep o st k) :
    ∃ st', k st' ∧ st'.H = st.H ∧ st'.nid = st.nid ∧ ∀ Z γ a w, SatSt E Z γ st a w → SatSt E Z γ st' (a.put o.dst undef) w := by
  unfold skipStep at h
  split at h
  · rename_i hd
    exact ⟨_, h, by unfold St.set; split <;> rfl, by unfold St.set; split <;> rfl, fun Z γ a w hs => hs.set hd (.tup rfl (fun i c v h => by simp at h))⟩
  · exact h.elim

theorem yielded_bool {ops : Array Oper} {j : Nat} {d : Tmp} (hd : dstAt ops.toList j = some d) {tmps : Array Value} (hsz : d < tmps.size) {b : Bool} (hv : tmps.getD d undef = .bool b) : yielded ops tmps j = some b := by
  unfold dstAt at hd
  split at hd
  · rename_i o ho
    have ho' : ops[j]? = some o := by simpa using ho
    have : tmps[d]? = some (.bool b) := by simpa [hsz] using hv
    simp [yielded, ho', hd, this]
  · cases hd

theorem yielded_none {ops : Array Oper} {j : Nat} {d : Tmp} (hd : dstAt ops.toList j = some d) {tmps : Array Value} (hv : tmps.getD d undef = .tuple #[]) : yielded ops tmps j = none := by
  unfold dstAt at hd
  split at hd
  · rename_i o ho
    have ho' : ops[j]? = some o := by simpa using ho
    cases ht : tmps[d]? with
    | none => simp [yielded, ho', hd, ht]
    | some v =>
      have : v = .tuple #[] := by
        have : tmps.getD d undef = v := by simp [ht]
        rw [← this]; exact hv
      subst this
      simp [yielded, ho', hd, ht]
  · cases hd

theorem runOps_ok {E : Env} {F : Fs} (hE : FsEnv E F) (ops : Array Oper) (k : St → Prop) : ∀ (rest : List Oper) (n : Nat) (st : St), (∀ j, rest[j]? = ops[n + j]?) → (∀ i, st.nid ≤ i → st.H.get i = none) →
    runOps E F ops.toList rest st k → ∃ st', k st' ∧ (∀ i, st'.nid ≤ i → st'.H.get i = none) ∧ ∀ (R : Option Nat) (Q : Exit → Act → World → Prop), ∀ Z γ a w, SatSt E Z γ st a w → (∀ Z' γ' a' w', SatSt E Z' γ' st' a' w' → Run Z γ st.H w Z' γ' st'.H w' → Q .normal a' w') →
      wpOpsIn (FR R) 0 E.P ops Q (List.range' n rest.length) a w
  | [], n, st, _, hfr, h => ⟨st, h, hfr, fun R Q Z γ a w hs hk => hk Z γ a w hs (Run.refl ..)⟩
  | o :: rest, n, st, hl, hfr, h => by
    have ho : ops[n]? = some o := by simpa using (hl 0).symm
    have hl' : ∀ j, rest[j]? = ops[n + 1 + j]? := fun j => by have := hl (j + 1); simpa [Nat.add_assoc, Nat.add_comm 1 j] using this
    simp only [List.length_cons, List.range'_succ]
    have run : ∀ st0, opStep E F o st0 (fun st' => runOps E F ops.toList rest st' k) → (∀ Z γ a w, SatSt E Z γ st a w → SatSt E Z γ st0 a w ∧ Region.wanted o (yielded ops a.tmps) = true) → st0.H = st.H → st0.nid = st.nid →
        ∃ st', k st' ∧ (∀ i, st'.nid ≤ i → st'.H.get i = none) ∧ ∀ (R : Option Nat) (Q : Exit → Act → World → Prop), ∀ Z γ a w, SatSt E Z γ st a w → (∀ Z' γ' a' w', SatSt E Z' γ' st' a' w' → Run Z γ st.H w Z' γ' st'.H w' → Q .normal a' w') →
          wpOpsIn (FR R) 0 E.P ops Q (n :: List.range' (n + 1) rest.length) a w := by
      intro st0 h0 hs0 hH hN
      obtain ⟨st1, h1, hf1, g1⟩ := opStep_ok hE (by rw [hH, hN]; exact hfr) h0
      obtain ⟨st', h2, hf2, g2⟩ := runOps_ok hE ops k rest (n + 1) st1 hl' hf1 h1
      refine ⟨st', h2, hf2, fun R Q Z γ a w hs hk => ?_⟩
      obtain ⟨hs0, hw⟩ := hs0 Z γ a w hs
      rw [wpOpsIn]
      simp only [ho]
      rw [if_pos hw]
      refine (g1 Q R Z γ a w hs0 _ fun Z' γ' a' w' e1 e2 => g2 R Q Z' γ' a' w' e1 fun Z2 γ2 a2 w2 e3 e4 => hk Z2 γ2 a2 w2 e3 ?_)
      rw [hH] at e2
      exact e2.trans e4
    have skip : ∀ st0, skipStep o st0 (fun st' => runOps E F ops.toList rest st' k) → (∀ Z γ a w, SatSt E Z γ st a w → SatSt E Z γ st0 a w ∧ Region.wanted o (yielded ops a.tmps) = false) → st0.H = st.H → st0.nid = st.nid →
        ∃ st', k st' ∧ (∀ i, st'.nid ≤ i → st'.H.get i = none) ∧ ∀ (R : Option Nat) (Q : Exit → Act → World → Prop), ∀ Z γ a w, SatSt E Z γ st a w → (∀ Z' γ' a' w', SatSt E Z' γ' st' a' w' → Run Z γ st.H w Z' γ' st'.H w' → Q .normal a' w') →
          wpOpsIn (FR R) 0 E.P ops Q (n :: List.range' (n + 1) rest.length) a w := by
      intro st0 h0 hs0 hH hN
      obtain ⟨st1, h1, hH1, hN1, g1⟩ := skipStep_ok (E := E) h0
      obtain ⟨st', h2, hf2, g2⟩ := runOps_ok hE ops k rest (n + 1) st1 hl' (by rw [hH1, hN1, hH, hN]; exact hfr) h1
      refine ⟨st', h2, hf2, fun R Q Z γ a w hs hk => ?_⟩
      obtain ⟨hs0, hw⟩ := hs0 Z γ a w hs
      rw [wpOpsIn]
      simp only [ho]
      rw [if_neg (by rw [hw]; exact Bool.false_ne_true)]
      refine ⟨fun _ _ => trivial, g2 R Q Z γ _ w (g1 Z γ a w hs0) fun Z2 γ2 a2 w2 e3 e4 => hk Z2 γ2 a2 w2 e3 ?_⟩
      rw [hH1, hH] at e4
      exact e4
    unfold runOps at h
    split at h
    · rename_i hg
      exact run st h (fun Z γ a w hs => ⟨hs, by simp [Region.wanted, hg]⟩) rfl rfl
    · rename_i j want hg
      split at h
      · exact h.elim
      · rename_i d hd
        split at h
        · rename_i b hb
          have hy : ∀ Z γ a w, SatSt E Z γ st a w → yielded ops a.tmps j = some b := fun Z γ a w hs => by
            have hv := hs.tmp d _ hb
            have hbv : a.tmps.getD d undef = .bool b := by generalize a.tmps.getD d undef = v at hv; cases hv; rfl
            have hsz : d < a.tmps.size := by
              apply Classical.byContradiction; intro hn
              have : a.tmps.getD d undef = undef := by
                rw [Array.getD_eq_getD_getElem?, Array.getElem?_eq_none (Nat.le_of_not_lt hn)]; rfl
              rw [this] at hbv; cases hbv
            exact yielded_bool hd hsz hbv
          rw [bcase_iff] at h
          cases b with
          | true =>
            have h := h.1 rfl
            have hs1 := fun Z γ a w (hs : SatSt E Z γ st a w) => hs.tmpAs (x' := .bool true) hb (fun _ h => h)
            cases want with
            | true => exact run _ h (fun Z γ a w hs => ⟨hs1 Z γ a w hs, by simp [Region.wanted, hg, hy Z γ a w hs]⟩) rfl rfl
            | false => exact skip _ h (fun Z γ a w hs => ⟨hs1 Z γ a w hs, by simp [Region.wanted, hg, hy Z γ a w hs]⟩) rfl rfl
          | false =>
            have h := h.2 rfl
            have hs1 := fun Z γ a w (hs : SatSt E Z γ st a w) => hs.tmpAs (x' := .bool false) hb (fun _ h => h)
            cases want with
            | true => exact skip _ h (fun Z γ a w hs => ⟨hs1 Z γ a w hs, by simp [Region.wanted, hg, hy Z γ a w hs]⟩) rfl rfl
            | false => exact run _ h (fun Z γ a w hs => ⟨hs1 Z γ a w hs, by simp [Region.wanted, hg, hy Z γ a w hs]⟩) rfl rfl
        · rename_i hb
          refine skip st h (fun Z γ a w hs => ⟨hs, ?_⟩) rfl rfl
          have hv := hs.tmp d _ hb
          have hbv : a.tmps.getD d undef = .tuple #[] := by
            obtain ⟨arr, h1, h2, _⟩ := tup_inv hv
            rw [h1]; congr 1; exact Array.size_eq_zero_iff.1 h2
          simp [Region.wanted, hg, yielded_none hd hbv]
        · exact h.elim

end Go.Sx
