/- Part of an own symbolic executor for the model's code, proved sound, and of the proof of one statement (see the text of the claimed theorem). -/
import Derived.Test.YtkpkfccgbehilaaGreatDoorSxAM
import Derived.Test.YtkpkfccgbehilaaGreatDoorSxAH
import Derived.Carry
import Derived.Deep.Slices
import Derived.ChangeSame
namespace Go.Sx

/-! # A chunk said in weaker words -/
def WkC (c c' : Chunk) : Prop := (c.live = true ∧ c'.live = true) ∧ ∀ Z w γ b, CRel Z w γ b c → CRel Z w γ b c'

theorem WkC.row {ty n : Nat} {cs : List AV} {f : Nat → List AV} (hl : n ≤ cs.length) (h : ∀ i, i < n → ∃ a a', cs[i]? = some a ∧ f i = [a'] ∧ Wk a a') : WkC (.cells ty cs) (.row ty 1 n f) :=
  ⟨⟨rfl, rfl⟩, fun Z w γ b ⟨arr, h1, h2, h3⟩ => ⟨arr, h1, by omega, fun i j x v hi hj hx hv => by
    obtain ⟨a, a', e1, e2, e3⟩ := h i hi
    have hj0 : j = 0 := by omega
    subst hj0
    rw [e2] at hx
    simp at hx
    subst hx
    rw [Nat.mul_one, Nat.add_zero] at hv
    exact e3 _ _ _ _ (h3 i a v e1 hv)⟩⟩

theorem SOK.chunk {E : Env} {f : FuncId} {sc sc' : SC} (h : SOK E f sc') (imp : ∀ args H nid k, (∀ i, nid ≤ i → H.get i = none) → sc args H nid k → sc' args H nid (fun r H' n => ∃ id c c' r', H'.get id = some c ∧ WkC c c' ∧ Wk r r' ∧ k r' (H'.put id c') n)) : SOK E f sc :=
  ⟨h.fn, fun args H nid k hfr hk => by
    obtain ⟨r, H', nid', ⟨id, c, c', r', e1, ⟨⟨e2, e3⟩, e4⟩, e5, e6⟩, h2, h3⟩ := h.run args H nid _ hfr (imp args H nid k hfr hk)
    refine ⟨r', _, nid', e6, fun i hi => ?_, fun Z γ w vs hs hg hsz hv => (h3 Z γ w vs hs hg hsz hv).mono fun e w' ⟨v, Z', γ', g1, g2, g3, g4⟩ => ?_⟩
    · rw [Tr.get_put]
      have : i ≠ id := fun e => by rw [e] at hi; rw [h2 id hi] at e1; cases e1
      rw [if_neg this]; exact h2 i hi
    · obtain ⟨b, hb, hz, hc⟩ := g3.own id c e1 e2
      refine ⟨v, Z', γ', g1, e5 _ _ _ _ g2, g3.turn e1 e2 hb rfl (fun _ _ => rfl) (fun _ => rfl) (e4 _ _ _ _ hc), ⟨g4.gam, g4.zed, g4.size, g4.keep, g4.shape, fun i b2 hl hb2 => ?_, g4.znew, g4.tape, g4.os, g4.output⟩⟩
      obtain ⟨ch, q1, q2⟩ := hl
      rw [Tr.get_put] at q1
      by_cases e : i = id
      · subst e; exact g4.gnew i b2 ⟨c, e1, e2⟩ hb2
      · rw [if_neg e] at q1; exact g4.gnew i b2 ⟨ch, q1, q2⟩ hb2⟩

/-- A contract from an empty heap, a chunk of what comes back in weaker words. -/
theorem SOK.spec0C {E : Env} {f : FuncId} {sp : SCP} {sc' : SC} (h : SOK E f sc') (imp : ∀ args L k, sp args L k → L = [] ∧ ∃ args', WkL args args' ∧ sc' args' .e 0 (fun r H' n => ∃ id c c' r', H'.get id = some c ∧ WkC c c' ∧ Wk r r' ∧ k r' (H'.put id c') n)) : SOK E f (scN 0 sp) :=
  ((h.wk (sc := fun args H nid k => ∃ args', WkL args args' ∧ sc' args' H nid k) fun _ _ _ _ _ h => h).chunk
    (sc := fun args H nid k => ∃ args', WkL args args' ∧ sc' args' H nid (fun r H' n => ∃ id c c' r', H'.get id = some c ∧ WkC c c' ∧ Wk r r' ∧ k r' (H'.put id c') n)) fun _ _ _ _ _ h => h).heap fun args L k _ hk => by
    obtain ⟨rfl, h⟩ := imp args L k hk
    exact h

theorem puts_put0 (c c' : Chunk) : (Tr.puts (.e : Heap) [(0, c)]).put 0 c' = Tr.puts .e [(0, c')] := rfl
theorem puts_get0 (c : Chunk) : (Tr.puts (.e : Heap) [(0, c)]).get 0 = some c := rfl

/-- Of another environment over the same program. -/
theorem SOK.env {E E' : Env} (hP : E'.P = E.P) (hG : E'.G = E.G) {f : FuncId} {sc : SC} (h : SOK E' f sc) : SOK E f sc :=
  ⟨by rw [← hP]; exact h.fn, fun args H nid k hfr hk => by
    obtain ⟨r, H', nid', h1, h2, h3⟩ := h.run args H nid k hfr hk
    refine ⟨r, H', nid', h1, h2, fun Z γ w vs hs hg hsz hv => ?_⟩
    rw [← hP]
    exact h3 Z γ w vs hs (by unfold GOk; rw [hG]; exact hg) hsz hv⟩

end Go.Sx

namespace Go.Sx
open Go.Proofs
set_option maxRecDepth 1000000

/-! # Loops that lay nothing that stays; heaps by their names -/
def noneL (H : Heap) : List Nat → Bool
  | [] => true
  | i :: l => match H.get i with
    | none => noneL H l
    | some _ => false

theorem noneL_spec {H : Heap} : ∀ {l : List Nat}, noneL H l = true → ∀ i ∈ l, H.get i = none
  | [], _, i, h => by cases h
  | a :: l, h, i, hi => by
    unfold noneL at h
    split at h
    · rename_i hg
      rcases List.mem_cons.1 hi with rfl | hi
      · exact hg
      · exact noneL_spec h i hi
    · cases h

/-- Of the slots those of 'keep'; the heap as it is; new names are free again. -/
def gcN (nid : Nat) (keep : List Nat) (st : St) : Option St :=
  match gcT keep st with
  | some st2 => match noneL st2.H (count nid (st2.nid - nid)) with
    | true => some { st2 with nid := nid }
    | false => none
  | none => none

theorem gcN_ok {E : Env} (nid0 nid : Nat) (keep : List Nat) : GcOk E nid0 (gcN nid keep) := fun st st2 h hfr => by
  unfold gcN at h
  split at h
  rotate_left
  · cases h
  rename_i st1 h1
  split at h
  rotate_left
  · cases h
  rename_i hn
  cases h
  obtain ⟨g1, g2⟩ := gcT_ok (E := E) nid0 keep st st1 h1 hfr
  have hfr2 : ∀ i, nid ≤ i → st1.H.get i = none := fun i hi => by
    by_cases hlt : i < st1.nid
    · exact noneL_spec hn i ((mem_count _ _ _).2 ⟨hi, by omega⟩)
    · exact g1 i (by omega)
  refine ⟨hfr2, fun {Z γ H w Z1 γ1 w1 a} hs hr hlt => ?_⟩
  obtain ⟨γ2, q1, q2⟩ := g2 hs hr hlt
  exact ⟨γ2, ⟨q1.sat, q1.tmp, q1.size, q1.defs, hfr2, q1.glob⟩, q2⟩

theorem loop_N {E : Env} {rd : Bool} {F : Fs} (hE : FsEnv E F) {c : Code} {ls : List LC} (hl : LItems E rd (items c) ls) (nid : Nat) (keep : List Nat) {k : Exit → St → Prop} (S : Nat → St) (D : Nat → Prop) (n : Nat)
    (hstep : ∀ i, i < n → D i → ∀ next : St → Prop, (D (i + 1) → next (S (i + 1))) → roundG E F c ls (gcN nid keep) next k (S i)) (hend : D n → ∀ next : St → Prop, roundG E F c ls (gcN nid keep) next k (S n)) (h0 : D 0) : COK E rd (.loop c) (S 0) k :=
  loopG_ok hE (LAll_items _ _ hl) (g := fun _ => gcN nid keep) (fun _ => gcN_ok _ _ _) _ _ (loop_ind S D n hstep hend h0)

def eqKeys : List Nat → List Nat → Bool
  | [], [] => true
  | a :: l, b :: m => match Nat.beq a b with
    | true => eqKeys l m
    | false => false
  | _, _ => false

theorem eqKeys_eq : ∀ {l m : List Nat}, eqKeys l m = true → l = m
  | [], [], _ => rfl
  | a :: l, b :: m, h => by
    unfold eqKeys at h
    split at h
    · rename_i hb; rw [Nat.eq_of_beq_eq_true hb, eqKeys_eq h]
    · cases h
  | [], _ :: _, h => by cases h
  | _ :: _, [], h => by cases h

def fsts : List (Nat × Chunk) → List Nat
  | [] => []
  | (i, _) :: l => i :: fsts l
def snds : List (Nat × Chunk) → List Chunk
  | [] => []
  | (_, c) :: l => c :: snds l
def zipL : List Nat → List Chunk → List (Nat × Chunk)
  | i :: l, c :: m => (i, c) :: zipL l m
  | _, _ => []
theorem zip_fs : ∀ (l : List (Nat × Chunk)), zipL (fsts l) (snds l) = l
  | [] => rfl
  | (i, c) :: l => by simp [fsts, snds, zipL, zip_fs l]

/-- what a loop comes to at a heap of known names, by what lies there -/
abbrev LKP := List AV → List Chunk → (Exit → List AV → Heap → Nat → Prop) → Prop

def atK (N : Nat) (keys : List Nat) (sp : LKP) : LSC := atN N (fun args L K => match eqKeys (fsts L) keys with
  | true => sp args (snds L) K
  | false => False)

theorem LSOK_K {E : Env} {rd : Bool} {c : Code} {ins outs : List Nat} {N : Nat} {keys : List Nat} {sp : LKP} {nt : Nat} (h : ∀ args cs K, (∀ i, N ≤ i → (Tr.puts (.e : Heap) (zipL keys cs)).get i = none) → sp args cs K → COK E rd c ⟨putT ins args .e, Tr.puts .e (zipL keys cs), N, nt, none⟩ (endK outs nt K)) : LSOK E rd c nt ins outs (atK N keys sp) :=
  LSOK_at fun args L K hf hs => by
    split at hs
    rotate_left
    · exact hs.elim
    rename_i hb
    have e := eqKeys_eq hb
    rw [← zip_fs L, e] at hf ⊢
    exact h args _ K hf hs
end Go.Sx

namespace Go.Sx
open Go.Proofs

theorem WkL.iref {l m : List AV} (h : WkL l m) : Wk (.iref l) (.iref m) := fun Z w γ v hv => by
  cases hv
  rename_i a vs h1 h2 h3 h4
  refine .iref (vs := vs) h1 h2 (fun i c hc => ?_) fun i c hc => ?_
  · obtain ⟨a, e1, _⟩ := h.get.2 i c hc
    first | exact h3 i a e1 | exact h4 i a e1
  · obtain ⟨a, e1, e2⟩ := h.get.2 i c hc
    exact e2 _ _ _ _ (by first | exact h4 i a e1 | exact h3 i a e1)

theorem WkL.app {l m l' m' : List AV} (h : WkL l m) (h' : WkL l' m') : WkL (l ++ l') (m ++ m') := by
  induction h with
  | nil => exact h'
  | cons h1 _ ih => exact .cons h1 ih

/-! # Some of a table's functions -/
inductive InT (T : Tr Func) : List (Nat × Func) → Prop
  | nil : InT T []
  | cons {f : Nat} {fn : Func} {l} : T.get f = some fn → InT T l → InT T ((f, fn) :: l)

theorem tab_puts {P : Program} {T : Tr Func} (hT : TabOk P T) : ∀ (l : List (Nat × Func)) (t : Tr Func), InT T l → TabOk P t → TabOk P (Tr.puts t l)
  | [], _, _, h => h
  | (f, fn) :: l, t, hi, h => by
    cases hi with
    | cons h1 h2 =>
      exact tab_puts hT l _ h2 ⟨fun g gn hg => by
        rw [Tr.get_put] at hg
        split at hg
        · rename_i e; cases hg; subst e; exact hT.get _ _ h1
        · exact h.get g gn hg⟩
theorem tab_sub {P : Program} {T : Tr Func} (hT : TabOk P T) {l : List (Nat × Func)} (h : InT T l) : TabOk P (Tr.puts .e l) :=
  tab_puts hT _ _ h ⟨fun g gn hg => by rw [Tr.get_e] at hg; cases hg⟩
end Go.Sx

namespace Go.Sx
open Go.Proofs Go.ChangeShapes Go.RowKit
variable {H : Type} {enc : TypeId × Value → H} {P : Program} {W : World} {held : Bool}

/-! # Data that came in, as frozen values -/
/-- what may be relied on: all that was there ahead -/
abbrev Zw (W : World) : Nat → Prop := fun b => b < W.heap.size

theorem open_sl {t e sz fuel : Nat} {v : Value} {x : DataW H × List MemPlace} {Q : List AV → Prop} (ht : P.underlying t = some (.slice e)) (hc : P.cellsOf e = sz) (hs : 0 < sz)
    (h : DataW.trod enc P W 0 (fun _ => true) held fuel t [v] = some x)
    (he : ∀ n cs y, DataW.trod enc P W 0 (fun _ => true) held n e cs = some y → cs.length = sz → ∃ xs : List AV, Q xs ∧ ∀ (j : Nat) c, xs[j]? = some c → ∃ u, cs[j]? = some u ∧ VRel (Zw W) W noG c u) :
    ∃ (n : Nat) (f : Nat → List AV), (∀ i, i < n → Q (f i)) ∧ VRel (Zw W) W noG (.isl sz n none f) v := by
  rcases Go.Deep.open_slice ht h with ⟨h1, _⟩ | ⟨a, len, cap, m, n, D, Pl, h1, _, hl, hm, hmm, _, hel⟩
  · cases h1
    exact ⟨0, fun _ => [], fun i hi => by omega, .isl0 rfl (fun _ h => by cases h)⟩
  · cases h1
    simp only [if_true] at hmm
    subst hmm
    by_cases h0 : len = 0
    · subst h0
      exact ⟨0, fun _ => [], fun i hi => by omega, .isl0 rfl (fun _ h => by cases h)⟩
    have hz : a.block < W.heap.size ∧ a.spot = none := by
      obtain ⟨cs, hcs, htr⟩ := hel 0 (by omega)
      rw [hc] at hcs
      simp only [Nat.zero_mul] at hcs
      obtain ⟨_, hlen, hget⟩ := World.cells?_some hcs
      have hb := World.cells?_block hcs hs
      have h0 := hget 0 hs
      rw [List.getElem?_eq_getElem (by omega)] at h0
      have hspot := World.cell?_spot h0
      simp [Addr.add] at hspot hb
      exact ⟨hb, hspot⟩
    obtain ⟨b, o, sp⟩ := a
    obtain ⟨hzb, hzs⟩ := hz
    simp only at hzs hzb
    subst hzs
    have key : ∀ i, ∃ xs : List AV, i < len → Q xs ∧ ∀ (j : Nat) c, xs[j]? = some c → ∃ u, W.cell? ⟨b, o + i * sz + j, none⟩ = some u ∧ VRel (Zw W) W noG c u := by
      intro i
      by_cases hi : i < len
      · obtain ⟨cs, hcs, htr⟩ := hel i (by omega)
        rw [hc, Go.WideShapes.add_plain] at hcs
        obtain ⟨_, hlen, hget⟩ := World.cells?_some hcs
        obtain ⟨xs, hq, hx⟩ := he _ _ _ htr hlen
        refine ⟨xs, fun _ => ⟨hq, fun j c hj => ?_⟩⟩
        obtain ⟨u, hu, hv⟩ := hx j c hj
        have hjl : j < sz := by have := (List.getElem?_eq_some_iff.1 hu).1; omega
        refine ⟨u, ?_, hv⟩
        have := hget j hjl
        rw [hu, Go.WideShapes.add_plain] at this
        exact this
      · exact ⟨[], fun h => absurd h hi⟩
    obtain ⟨f, hf⟩ := Classical.skolem.1 key
    refine ⟨len, f, fun i hi => (hf i hi).1, ?_⟩
    refine .isl (vs := fun i j => (W.cell? ⟨b, o + i * sz + j, none⟩).getD undef) hzb rfl hl (fun _ h => by cases h) (fun i j x hi hx => ?_) (fun i j x hi hx => ?_)
    · obtain ⟨u, h1, _⟩ := (hf i hi).2 j x hx
      show W.cell? ⟨b, o + i * sz + j, none⟩ = _
      rw [h1]; rfl
    · obtain ⟨u, h1, h2⟩ := (hf i hi).2 j x hx
      rw [h1]; exact h2

/-- Numbers. -/
theorem open_isl {t e fuel : Nat} {k : IntKind} {v : Value} {x : DataW H × List MemPlace} (ht : P.underlying t = some (.slice e)) (hk : P.underlying e = some (.int k)) (hc : P.cellsOf e = 1)
    (h : DataW.trod enc P W 0 (fun _ => true) held fuel t [v] = some x) : ∃ (n : Nat) (l : Nat → Int), VRel (Zw W) W noG (.isl 1 n none (fun j => [.int false k (l j)])) v := by
  obtain ⟨n, f, hq, hv⟩ := open_sl (Q := fun xs => ∃ y, xs = [.int false k y]) ht hc (by decide) h fun m cs y hy _ => by
    obtain ⟨z, e1, _, _⟩ := DataW.trod_int hk hy
    exact ⟨[.int false k z], ⟨z, rfl⟩, fun j c hj => by
      rcases j with _ | j
      · simp at hj; subst hj; exact ⟨.int k z, by rw [e1]; rfl, .int⟩
      · simp at hj⟩
  refine ⟨n, geti f, Wk.isl (fun j hj => ?_) _ _ _ _ hv⟩
  obtain ⟨y, hy⟩ := hq j hj
  rw [hy]; unfold geti; rw [hy]

/-- Records of three numbers. -/
theorem open_isl3 {t e fuel t0 t1 t2 : Nat} {k0 k1 k2 : IntKind} {fs : Array Field} {f0 f1 f2 : Field} {v : Value} {x : DataW H × List MemPlace} (ht : P.underlying t = some (.slice e)) (hk : P.underlying e = some (.struct fs)) (hfs : fs = #[f0, f1, f2])
    (ht0 : f0.type = t0) (ht1 : f1.type = t1) (ht2 : f2.type = t2) (ho0 : f0.offset = 0) (ho1 : f1.offset = 1) (ho2 : f2.offset = 2)
    (h0 : P.underlying t0 = some (.int k0)) (h1 : P.underlying t1 = some (.int k1)) (h2 : P.underlying t2 = some (.int k2)) (c0 : P.cellsOf t0 = 1) (c1 : P.cellsOf t1 = 1) (c2 : P.cellsOf t2 = 1) (hc : P.cellsOf e = 3)
    (h : DataW.trod enc P W 0 (fun _ => true) held fuel t [v] = some x) : ∃ (n : Nat) (a b c : Nat → Int), VRel (Zw W) W noG (.isl 3 n none (fun j => [.int false k0 (a j), .int false k1 (b j), .int false k2 (c j)])) v := by
  subst hfs
  obtain ⟨n, f, hq, hv⟩ := open_sl (Q := fun xs => ∃ p q r, xs = [.int false k0 p, .int false k1 q, .int false k2 r]) ht hc (by decide) h fun m cs y hy hlen => by
    obtain ⟨xs, m', _, _, _, hxl, hget⟩ := DataW.trod_struct hk hy
    match cs, hlen with
    | [p, q, r], _ =>
      have g0 := hget 0 f0 rfl
      have g1 := hget 1 f1 rfl
      have g2 := hget 2 f2 rfl
      rw [ht0, c0, ho0] at g0
      rw [ht1, c1, ho1] at g1
      rw [ht2, c2, ho2] at g2
      match xs, hxl with
      | [y0, y1, y2], _ =>
        obtain ⟨z0, e0, _, _⟩ := DataW.trod_int h0 (show DataW.trod enc P W 0 _ held m' t0 [p] = some y0 from g0)
        obtain ⟨z1, e1, _, _⟩ := DataW.trod_int h1 (show DataW.trod enc P W 0 _ held m' t1 [q] = some y1 from g1)
        obtain ⟨z2, e2, _, _⟩ := DataW.trod_int h2 (show DataW.trod enc P W 0 _ held m' t2 [r] = some y2 from g2)
        cases e0; cases e1; cases e2
        refine ⟨[.int false k0 z0, .int false k1 z1, .int false k2 z2], ⟨_, _, _, rfl⟩, fun j c hj => ?_⟩
        rcases j with _ | _ | _ | j
        · simp at hj; subst hj; exact ⟨_, rfl, .int⟩
        · simp at hj; subst hj; exact ⟨_, rfl, .int⟩
        · simp at hj; subst hj; exact ⟨_, rfl, .int⟩
        · simp at hj
  refine ⟨n, getk f 0, getk f 1, getk f 2, Wk.isl (fun j hj => ?_) _ _ _ _ hv⟩
  obtain ⟨p, q, r, hy⟩ := hq j hj
  unfold getk; rw [hy]; rfl

/-- An argument reads as it did. -/
theorem Grown.stays {t : TypeId} (hl : laidOutB P = true) (hr : P.readableRec t = true) (hrow : t < P.types.size) {W' : World} {v : Value} {d : DataW H} {ps : List MemPlace} {sp : Nat → Bool}
    (h : DataW.Trod enc P W 0 (fun _ => true) true t v d ps) (hg : Grown W W') (hlt : ∀ x ∈ ps, x.block < W.heap.size) (hs : ∀ p ∈ ps, sp p.block = true) : DataW.Trod enc P W' 0 sp true t v d ps :=
  WideElems.Trod_stays hl hr hrow h (fun x hx => (RowKit.Below.same (W := W) (w' := W') ⟨hg.os, hg.tape, hg.output, hg.size, hg.old⟩ (hlt x hx))) hs
end Go.Sx
