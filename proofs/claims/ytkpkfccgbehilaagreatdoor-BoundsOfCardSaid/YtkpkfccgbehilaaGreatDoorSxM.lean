/- Part of an own symbolic executor for the model's code, proved sound, and of the proof of one statement (see the text of the claimed theorem). -/
import Derived.Test.YtkpkfccgbehilaaGreatDoorSxK
import Derived.Laws.Tables
import Derived.Deep.AppendSrc
namespace Go.Sx
section
variable {E : Env} (ok : E.Ok)

theorem agg_inv {Z w γ cs v} (h : VRel Z w γ (.agg cs) v) : ∃ arr, v = .agg arr ∧ arr.size = cs.length ∧ ∀ (i : Nat) c v, cs[i]? = some c → arr[i]? = some v → VRel Z w γ c v := by
  cases h with
  | agg h1 h2 => exact ⟨_, rfl, h1, h2⟩

theorem tup_inv {Z w γ cs v} (h : VRel Z w γ (.tup cs) v) : ∃ arr, v = .tuple arr ∧ arr.size = cs.length ∧ ∀ (i : Nat) c v, cs[i]? = some c → arr[i]? = some v → VRel Z w γ c v := by
  cases h with
  | tup h1 h2 => exact ⟨_, rfl, h1, h2⟩

/-! #### unary, convert, interface, func, extract -/
def unF (op : UnOp) (x : AV) : Option AV :=
  match op with
  | .not => match x with
    | .bool b => some (.bool (!b))
    | _ => none
  | .neg => match x with
    | .int l k n => some (.int l k (k.wrap (0 - n)))
    | _ => none
  | .xor => match x with
    | .int l k n => some (.int l k (k.wrap (BitVec.ofInt k.bits (if k.signed then -1 else k.max) ^^^ BitVec.ofInt k.bits n).toNat))
    | _ => none
  | _ => none

theorem valid_un {o : Oper} {op : UnOp} {t : TypeId} {x : Operand} (h : o.op = .unOp op t x) (ρ : Operand → AV) (H : Heap) (nid : Nat) {r : AV} (hr : unF op (ρ x) = some r) : Valid E.P o ρ H nid (out r) := by
  refine valid_pure rfl fun Z γ H' w a hs hx hn => ?_
  have h1 := hx x
  unfold unF at hr
  split at hr
  · split at hr
    · rename_i heq; cases hr; rw [heq] at h1; generalize hav : a.eval x = v at h1; cases h1
      exact ⟨_, .bool, by simp [execOp, h, hav, Op.unary]⟩
    · cases hr
  · split at hr
    · rename_i heq; cases hr; rw [heq] at h1; generalize hav : a.eval x = v at h1; cases h1
      exact ⟨_, .int, by simp [execOp, h, hav, Op.unary, Op.intArith]⟩
    · cases hr
  · split at hr
    · rename_i heq; cases hr; rw [heq] at h1; generalize hav : a.eval x = v at h1; cases h1
      exact ⟨_, .int, by simp [execOp, h, hav, Op.unary, Op.intBits]⟩
    · cases hr
  · cases hr

def convF (E : Env) (src dst : TypeId) (x : AV) : Option AV :=
  match E.und src, E.und dst, x with
  | some (.int _), some (.int k), .int l _ n => some (.int l k (k.wrap n))
  | _, _, _ => none

include ok in
theorem valid_conv {o : Oper} {s d : TypeId} {x : Operand} (h : o.op = .convert s d x) (ρ : Operand → AV) (H : Heap) (nid : Nat) {r : AV} (hr : convF E s d (ρ x) = some r) : Valid E.P o ρ H nid (out r) := by
  refine valid_pure rfl fun Z γ H' w a hs hx hn => ?_
  have h1 := hx x
  unfold convF at hr
  split at hr
  · rename_i k0 k l k1 n hu1 hu2 heq
    cases hr; rw [heq] at h1; generalize hav : a.eval x = v at h1; cases h1
    exact ⟨_, .int, by simp [execOp, h, hav, convert, run_und ok hu1, run_und ok hu2, Conv.intToInt]⟩
  · cases hr

def ifaceF (E : Env) (t : TypeId) (x : AV) : Option AV :=
  match E.und t with
  | some (.interface _) => none
  | some _ => some (.iface t x)
  | none => none

include ok in
theorem valid_iface {o : Oper} {t : TypeId} {x : Operand} (h : o.op = .makeInterface t x) (ρ : Operand → AV) (H : Heap) (nid : Nat) {r : AV} (hr : ifaceF E t (ρ x) = some r) : Valid E.P o ρ H nid (out r) := by
  refine valid_pure rfl fun Z γ H' w a hs hx hn => ?_
  unfold ifaceF at hr
  split at hr
  · cases hr
  · rename_i d hd hu
    cases hr
    refine ⟨_, .iface (hx x), ?_⟩
    simp only [execOp, h, Instr.makeInterface, Sem.run_bind, run_und ok hu, Result.andThen_ok]
    rfl
  · cases hr

theorem valid_func {o : Oper} {f : Fn} {fs cs : Array Operand} (h : o.op = .makeFunc f fs cs) (ρ : Operand → AV) (H : Heap) (nid : Nat) : Valid E.P o ρ H nid (out (.fn f (fs.toList.map ρ) (cs.toList.map ρ))) := by
  refine valid_pure rfl fun Z γ H' w a hs hx hn => ⟨.func f (fs.map a.eval) (cs.map a.eval), .fn (by simp) (by simp) (fun i c v h1 h2 => ?_) (fun i c v h1 h2 => ?_), by simp [execOp, h, Instr.makeFunc]⟩ <;>
  · simp only [List.getElem?_map, Option.map_eq_some_iff, Array.getElem?_toList, Array.getElem?_map] at h1 h2
    obtain ⟨x, hx1, rfl⟩ := h1
    obtain ⟨y, hy1, rfl⟩ := h2
    rw [hx1] at hy1; cases hy1; exact hx _

def extractF (x : AV) (i : Nat) : Option AV :=
  match x with
  | .tup cs => cs[i]?
  | _ => none

theorem valid_extract {o : Oper} {x : Operand} {i : Nat} (h : o.op = .extract x i) (ρ : Operand → AV) (H : Heap) (nid : Nat) {r : AV} (hr : extractF (ρ x) i = some r) : Valid E.P o ρ H nid (out r) := by
  refine valid_pure rfl fun Z γ H' w a hs hx hn => ?_
  have h1 := hx x
  unfold extractF at hr
  split at hr
  · rename_i heq
    rw [heq] at h1; generalize hav : a.eval x = v at h1; obtain ⟨vs, rfl, hsz, hrel⟩ := tup_inv h1
    have hlt : i < vs.size := by have := (List.getElem?_eq_some_iff.1 hr).1; omega
    exact ⟨vs[i], hrel i r _ hr (by simp [hlt]), by simp [execOp, h, hav, Instr.extract, hlt]⟩
  · cases hr

/-! #### fields and elements of values -/
def fldF (E : Env) (t : TypeId) (x : AV) (f : Nat) : Option AV :=
  match E.und t with
  | some (.struct fs) => match fs[f]?, x with
    | some fd, .agg cs => partF E fd.type cs fd.offset
    | _, _ => none
  | _ => none

include ok in
theorem valid_fld {o : Oper} {t : TypeId} {x : Operand} {f : Nat} (h : o.op = .field t x f) (ρ : Operand → AV) (H : Heap) (nid : Nat) {r : AV} (hr : fldF E t (ρ x) f = some r) : Valid E.P o ρ H nid (out r) := by
  refine valid_pure rfl fun Z γ H' w a hs hx hn => ?_
  have h1 := hx x
  unfold fldF at hr
  split at hr
  · rename_i fs hu
    split at hr
    · rename_i fd cs hfd heq
      rw [heq] at h1; generalize hav : a.eval x = v at h1; obtain ⟨arr, rfl, hsz, hrel⟩ := agg_inv h1
      obtain ⟨v, hv, hrun⟩ := part_ok ok hr hsz hrel
      exact ⟨v, hv, by simp [execOp, h, hav, Instr.field, run_und ok hu, hfd, asAgg, hrun]⟩
    · cases hr
  · cases hr

/-- cells 'i' of columns: all of one kind -/
def allInts : List AV → Option (IntKind × List Int)
  | [] => none
  | [.int _ k n] => some (k, [n])
  | .int _ k n :: l => match allInts l with
    | some (k', ns) => match decide (k = k') with
      | true => some (k, n :: ns)
      | false => none
    | none => none
  | _ => none

def allBools : List AV → Option (List Bool)
  | [] => some []
  | .bool b :: l => match allBools l with
    | some bs => some (b :: bs)
    | none => none
  | _ => none

/-- the 'i'-th of some cells, 'i' not written out -/
def selF (l : List AV) (i : Nat) : Option AV :=
  match allInts l with
  | some (k, ns) => some (.int false k (ns.getD i 0))
  | none => match allBools l with
    | some bs => some (.bool (bs.getD i false))
    | none => none

theorem allInts_spec {l : List AV} {k ns} (h : allInts l = some (k, ns)) : ns.length = l.length ∧ ∀ (i : Nat) c, l[i]? = some c → ∃ lt, c = .int lt k (ns.getD i 0) := by
  induction l generalizing k ns with
  | nil => simp [allInts] at h
  | cons x l ih =>
    unfold allInts at h
    split at h
    · simp at *
    · rename_i heq; simp at heq; obtain ⟨rfl, rfl⟩ := heq; cases h
      refine ⟨rfl, fun i c hc => ?_⟩
      cases i with
      | zero => simp at hc; subst hc; exact ⟨_, rfl⟩
      | succ i => simp at hc
    · rename_i lt k0 n l0 hnil heq
      simp at heq; obtain ⟨rfl, rfl⟩ := heq
      split at h
      · rename_i k' ns' hl
        split at h
        · rename_i hk; have := of_decide_eq_true hk; subst this; cases h
          obtain ⟨h1, h2⟩ := ih hl
          refine ⟨by simp [h1], fun i c hc => ?_⟩
          cases i with
          | zero => simp at hc; subst hc; exact ⟨lt, rfl⟩
          | succ i => simp at hc; obtain ⟨lt', h⟩ := h2 i c hc; exact ⟨lt', by simpa using h⟩
        · cases h
      · cases h
    · cases h

theorem allBools_spec {l : List AV} {bs} (h : allBools l = some bs) : bs.length = l.length ∧ ∀ (i : Nat) c, l[i]? = some c → c = .bool (bs.getD i false) := by
  induction l generalizing bs with
  | nil => simp [allBools] at h; subst h; simp
  | cons x l ih =>
    unfold allBools at h
    split at h
    · simp at *
    · rename_i b l0 heq
      simp at heq; obtain ⟨rfl, rfl⟩ := heq
      split at h
      · rename_i bs' hl
        cases h
        obtain ⟨h1, h2⟩ := ih hl
        refine ⟨by simp [h1], fun i c hc => ?_⟩
        cases i with
        | zero => simp at hc; subst hc; rfl
        | succ i => simp at hc; simpa using h2 i c hc
      · cases h
    · cases h

theorem selF_ok {l : List AV} {i : Nat} {r : AV} (h : selF l i = some r) {c : AV} (hc : l[i]? = some c) {Z w γ v} (hv : VRel Z w γ c v) : VRel Z w γ r v := by
  unfold selF at h
  split at h
  · rename_i hl; cases h
    obtain ⟨lt, rfl⟩ := (allInts_spec hl).2 i c hc
    cases hv; exact .int
  · split at h
    · rename_i hl; cases h
      have := (allBools_spec hl).2 i c hc
      subst this; exact hv
    · cases h

def idxF (E : Env) (t : TypeId) (x ix : AV) : Option (Option Bool × AV) :=
  match ix with
  | .int lit _ i => match E.und t, x with
    | some (.array n e), .agg cs => match E.tt.get e with
      | some ei => match lit with
        | true => match partF E e cs (i.toNat * ei.size) with
          | some r => some (some (decide (0 ≤ i ∧ i < n)), r)
          | none => none
        | false => match E.agg e, ei.size, Nat.beq cs.length n with
          | some false, 1, true => match selF cs i.toNat with
            | some r => some (some (decide (0 ≤ i ∧ i < n)), r)
            | none => none
          | _, _, _ => none
      | none => none
    | some .string, .str s => match lit, s.data.toList[i.toNat]? with
      | true, some b => some (some (decide (0 ≤ i)), .int true .u8 b.toNat)
      | _, _ => none
    | _, _ => none
  | _ => none

include ok in
theorem valid_idx {o : Oper} {t : TypeId} {x y : Operand} (h : o.op = .index t x y) (ρ : Operand → AV) (H : Heap) (nid : Nat) {c : Option Bool} {r : AV} (hr : idxF E t (ρ x) (ρ y) = some (c, r)) (hc : Asked c) : Valid E.P o ρ H nid (outc c r) := by
  refine valid_pure rfl fun Z γ H' w a hs hx hn => ?_
  have h1 := hx x; have h2 := hx y
  unfold idxF at hr
  split at hr
  · rename_i lit k i hy
    rw [hy] at h2; generalize hau : a.eval y = u at h2; cases h2
    split at hr
    · rename_i n e cs hu hxe
      rw [hxe] at h1; generalize hav : a.eval x = v at h1; obtain ⟨arr, rfl, hsz, hrel⟩ := agg_inv h1
      split at hr
      · rename_i ei hei
        split at hr
        · split at hr
          · rename_i r' hp
            cases hr
            obtain ⟨v, hv, hrun⟩ := part_ok ok hp hsz hrel
            exact ⟨v, hv, by simp [execOp, h, hav, hau, Instr.index, asIntOf, run_und ok hu, of_decide_eq_true hc, run_size ok hei, hrun]⟩
          · cases hr
        · split at hr
          · rename_i hag h1s hlen
            have hlen := Nat.eq_of_beq_eq_true hlen
            split at hr
            · rename_i r' hsel
              cases hr
              have hc' := of_decide_eq_true hc
              have hlt : i.toNat < arr.size := by omega
              have hlt' : i.toNat < cs.length := by omega
              refine ⟨arr[i.toNat], selF_ok hsel (List.getElem?_eq_getElem hlt') (hrel _ _ _ (List.getElem?_eq_getElem hlt') (by simp [hlt])), ?_⟩
              simp [execOp, h, hav, hau, Instr.index, asIntOf, run_und ok hu, of_decide_eq_true hc, run_size ok hei, h1s, part, run_agg ok hag, hlt]
            · cases hr
          · cases hr
      · cases hr
    · rename_i s hu hxe
      rw [hxe] at h1; generalize hav : a.eval x = v at h1; cases h1
      split at hr
      · rename_i b hb
        cases hr
        have hc' := of_decide_eq_true hc
        have hb' : s[i.toNat]? = some b := by
          have h9 : s.data[i.toNat]? = some b := by simpa using hb
          obtain ⟨hlt, h10⟩ := Array.getElem?_eq_some_iff.1 h9
          rw [getElem?_pos s i.toNat (show i.toNat < s.size from hlt)]
          rw [← h10]; rfl
        exact ⟨_, .int, by simp only [execOp, h, Sem.run_bind, hav, hau, Instr.index, asIntOf, Sem.run_pure, Result.andThen_ok, run_und ok hu, if_pos hc', hb']⟩
      · cases hr
    · cases hr
  · cases hr

/-! #### build -/
def fillF (place : Nat → Option (Nat × Nat)) : List AV → List (Nat × AV) → Option (List AV)
  | cells, [] => some cells
  | cells, (i, v) :: rest => match place i with
    | none => none
    | some (off, size) => match v.flat with
      | none => none
      | some l => match Nat.beq l.length size, Nat.ble (off + l.length) cells.length with
        | true, true => fillF place (splice off l cells) rest
        | _, _ => none

theorem fold_set (l : List Value) (off : Nat) : ∀ (arr : Array Value) (k : Nat), (l.zipIdx k).foldl (fun cs (p : Value × Nat) => cs.setIfInBounds (off + p.2) p.1) arr =
    (l.zipIdx k).foldl (fun cs (p : Value × Nat) => cs.setIfInBounds (off + p.2) p.1) arr := fun _ _ => rfl

theorem fold_set_get (off : Nat) : ∀ (l : List Value) (arr : Array Value) (k j : Nat), off + k + l.length ≤ arr.size →
    ((l.zipIdx k).foldl (fun cs (p : Value × Nat) => cs.setIfInBounds (off + p.2) p.1) arr).size = arr.size ∧
    ((l.zipIdx k).foldl (fun cs (p : Value × Nat) => cs.setIfInBounds (off + p.2) p.1) arr)[j]? = if off + k ≤ j ∧ j < off + k + l.length then l[j - (off + k)]? else arr[j]?
  | [], arr, k, j, h => by simp; omega
  | v :: l, arr, k, j, h => by
    simp only [List.zipIdx_cons, List.foldl_cons]
    obtain ⟨h1, h2⟩ := fold_set_get off l (arr.setIfInBounds (off + k) v) (k + 1) j (by simp at h ⊢; omega)
    refine ⟨by simpa using h1, ?_⟩
    rw [h2]
    simp only [List.length_cons] at h ⊢
    by_cases e : j = off + k
    · subst e; rw [if_neg (by omega), if_pos (by omega)]; simp [show off + k < arr.size by omega]
    · have hne : (arr.setIfInBounds (off + k) v)[j]? = arr[j]? := by simp [Array.getElem?_setIfInBounds]; intro h; omega
      rw [hne]
      by_cases c : off + (k + 1) ≤ j ∧ j < off + (k + 1) + l.length
      · rw [if_pos c, if_pos (by omega)]
        have : j - (off + k) = (j - (off + (k + 1))) + 1 := by omega
        rw [this]; simp
      · rw [if_neg c, if_neg (by omega)]

theorem fill_ok (place : Nat → Option (Nat × Nat)) {Z w γ} : ∀ (parts : List (Nat × AV)) (vparts : List (Nat × Value)) (cells r : List AV) (arr : Array Value), fillF place cells parts = some r →
    arr.size = cells.length → (∀ (j : Nat) c v, cells[j]? = some c → arr[j]? = some v → VRel Z w γ c v) → vparts.length = parts.length →
    (∀ (j : Nat) p q, parts[j]? = some p → vparts[j]? = some q → p.1 = q.1 ∧ VRel Z w γ p.2 q.2) →
    ∃ arr', Instr.fill place arr vparts = some arr' ∧ arr'.size = r.length ∧ ∀ (j : Nat) c v, r[j]? = some c → arr'[j]? = some v → VRel Z w γ c v
  | [], [], cells, r, arr, h, hs, hr, _, _ => by simp only [fillF] at h; cases h; exact ⟨arr, rfl, hs, hr⟩
  | (i, x) :: parts, (i', v) :: vparts, cells, r, arr, h, hs, hr, hl, hp => by
    obtain ⟨hi, hx⟩ := hp 0 _ _ rfl rfl
    simp only at hi hx; subst hi
    simp only [fillF] at h
    split at h
    · cases h
    · rename_i off size hpl
      split at h
      · cases h
      · rename_i l hfl
        split at h
        · rename_i e1 e2
          have e1 := Nat.eq_of_beq_eq_true e1
          have e2 := Nat.le_of_ble_eq_true e2
          obtain ⟨f1, f2⟩ := flat_rel hx hfl
          have hsz : v.cells.size = size := by omega
          have hbnd : off + 0 + v.cells.toList.length ≤ arr.size := by simp; omega
          have hfold : ∀ j, _ := fun j => fold_set_get off v.cells.toList arr 0 j hbnd
          obtain ⟨arr', g1, g2, g3⟩ := fill_ok place parts vparts (splice off l cells) r (v.cells.zipIdx.foldl (fun cs (p : Value × Nat) => cs.setIfInBounds (off + p.2) p.1) arr) h
            (by rw [splice_length e2, ← Array.foldl_toList, Array.toList_zipIdx]; rw [(hfold 0).1]; exact hs)
            (fun j c u hj hu => by
              rw [← Array.foldl_toList, Array.toList_zipIdx, (hfold j).2] at hu
              rw [splice_get e2] at hj
              simp only [Nat.add_zero, Array.length_toList, f1] at hu
              by_cases hin : off ≤ j ∧ j < off + l.length
              · rw [if_pos hin] at hj hu; exact f2 _ _ _ hj (by simpa using hu)
              · rw [if_neg hin] at hj hu; exact hr _ _ _ hj hu)
            (by simpa using hl) (fun j p q h1 h2 => hp (j + 1) p q (by simpa using h1) (by simpa using h2))
          refine ⟨arr', ?_, g2, g3⟩
          simp only [Instr.fill, hpl]
          rw [if_neg (by simp; omega)]
          exact g1
        · cases h

end
end Go.Sx

namespace Go.Sx
section
variable {E : Env} (ok : E.Ok)

def placesF (E : Env) : List Field → Option (List (Nat × Nat))
  | [] => some []
  | f :: fs => match E.tt.get f.type, placesF E fs with
    | some i, some l => some ((f.offset, i.size) :: l)
    | _, _ => none

include ok in
theorem placesF_ok : ∀ (fs : List Field) (l : List (Nat × Nat)), placesF E fs = some l → fs.mapM (fun f => (E.P.info? f.type).map fun i => (f.offset, i.size)) = some l
  | [], l, h => by simp [placesF] at h; subst h; rfl
  | f :: fs, l, h => by
    unfold placesF at h
    split at h
    · rename_i i l' hi hl
      cases h
      simp [List.mapM_cons, ok.info _ _ hi, placesF_ok fs l' hl]
    · cases h

def partsOf (ρ : Operand → AV) : List (Nat × Operand) → List (Nat × AV)
  | [] => []
  | (i, x) :: l => (i, ρ x) :: partsOf ρ l

theorem partsOf_map (ρ : Operand → AV) (l : List (Nat × Operand)) : partsOf ρ l = l.map fun p => (p.1, ρ p.2) := by
  induction l with
  | nil => rfl
  | cons p l ih => obtain ⟨i, x⟩ := p; simp [partsOf, ih]

def buildF (E : Env) (t : TypeId) (parts : List (Nat × AV)) : Option AV :=
  match E.tt.get t with
  | none => none
  | some i => match zeros i with
    | none => none
    | some z => match E.und t with
      | some (.struct fs) => match placesF E fs.toList with
        | some pl => match fillF (fun i => pl[i]?) z parts with
          | some r => some (.agg r)
          | none => none
        | none => none
      | some (.array _ e) => match E.tt.get e with
        | some ei => match fillF (fun i => some (i * ei.size, ei.size)) z parts with
          | some r => some (.agg r)
          | none => none
        | none => none
      | _ => none

theorem parts_rel {ρ : Operand → AV} {parts : Array (Nat × Operand)} {Z w γ} {a : Act} (hx : ∀ x, VRel Z w γ (ρ x) (a.eval x)) :
    (parts.map fun (i, x) => (i, a.eval x)).toList.length = (partsOf ρ parts.toList).length ∧
    ∀ (j : Nat) p q, (partsOf ρ parts.toList)[j]? = some p → (parts.map fun (i, x) => (i, a.eval x)).toList[j]? = some q → p.1 = q.1 ∧ VRel Z w γ p.2 q.2 := by
  rw [partsOf_map]
  refine ⟨by simp, fun j p q h1 h2 => ?_⟩
  simp only [List.getElem?_map, Option.map_eq_some_iff, Array.toList_map] at h1 h2
  obtain ⟨x, hx1, rfl⟩ := h1
  obtain ⟨y, hy1, rfl⟩ := h2
  rw [hx1] at hy1; cases hy1
  exact ⟨rfl, hx _⟩

include ok in
theorem valid_build {o : Oper} {t : TypeId} {parts : Array (Nat × Operand)} (h : o.op = .build t parts) (ρ : Operand → AV) (H : Heap) (nid : Nat) {r : AV} (hr : buildF E t (partsOf ρ parts.toList) = some r) : Valid E.P o ρ H nid (out r) := by
  refine valid_pure rfl fun Z γ H' w a hs hx hn => ?_
  unfold buildF at hr
  obtain ⟨p1, p2⟩ := parts_rel (parts := parts) hx
  split at hr
  · cases hr
  · rename_i i hi
    split at hr
    · cases hr
    · rename_i z hz
      obtain ⟨zv, hz1, hz2, hz3⟩ := zeros_rel hz
      split at hr
      · rename_i fs hu
        split at hr
        · rename_i pl hpl
          split at hr
          · rename_i r' hf
            cases hr
            obtain ⟨arr, h1, h2, h3⟩ := fill_ok _ _ _ _ _ _ hf hz2 (hz3 Z w γ) p1 p2
            refine ⟨.agg arr, .agg h2 h3, ?_⟩
            have := run_build (P := E.P) w t (parts.map fun (i, x) => (i, a.eval x)) arr (by
              unfold Program.built
              simp only [ok.info _ _ hi, E.und_ok ok hu, hz1, placesF_ok ok _ _ hpl]
              simpa using h1)
            simp only [execOp, h, Sem.run_bind, this]; rfl
          · cases hr
        · cases hr
      · rename_i n e hu
        split at hr
        · rename_i ei hei
          split at hr
          · rename_i r' hf
            cases hr
            obtain ⟨arr, h1, h2, h3⟩ := fill_ok _ _ _ _ _ _ hf hz2 (hz3 Z w γ) p1 p2
            refine ⟨.agg arr, .agg h2 h3, ?_⟩
            have := run_build (P := E.P) w t (parts.map fun (i, x) => (i, a.eval x)) arr (by
              unfold Program.built
              simp only [ok.info _ _ hi, E.und_ok ok hu, hz1, ok.info _ _ hei]
              exact h1)
            simp only [execOp, h, Sem.run_bind, this]; rfl
          · cases hr
        · cases hr
      · cases hr

/-- a list, so many times -/
def times (z : List AV) : Nat → List AV
  | 0 => []
  | n + 1 => z ++ times z n

theorem times_length (z : List AV) : ∀ n, (times z n).length = n * z.length
  | 0 => by simp [times]
  | n + 1 => by simp [times, times_length z n, Nat.succ_mul]; omega

theorem times_get (z : List AV) : ∀ n j, j < n * z.length → (times z n)[j]? = z[j % z.length]?
  | 0, j, h => by simp at h
  | n + 1, j, h => by
    unfold times
    by_cases hj : j < z.length
    · rw [List.getElem?_append_left hj, Nat.mod_eq_of_lt hj]
    · rw [List.getElem?_append_right (by omega), times_get z n _ (by rw [Nat.succ_mul] at h; omega)]
      rw [Nat.mod_eq_sub_mod (by omega : z.length ≤ j)]

theorem range_mod_rel {z : List AV} {zc : Array Value} (hs : zc.size = z.length) {n : Nat} {Z w γ} (hz : ∀ (j : Nat) c x, z[j]? = some c → zc[j]? = some x → VRel Z w γ c x) :
    ((Array.range (n * z.length)).map (fun k => zc[k % zc.size]!)).size = (times z n).length ∧
    ∀ (j : Nat) c v, (times z n)[j]? = some c → ((Array.range (n * z.length)).map (fun k => zc[k % zc.size]!))[j]? = some v → VRel Z w γ c v := by
  refine ⟨by simp [times_length], fun j c v h1 h2 => ?_⟩
  have hj : j < n * z.length := by have := (List.getElem?_eq_some_iff.1 h1).1; rwa [times_length] at this
  rw [times_get z n j hj] at h1
  have hz0 : 0 < z.length := Nat.pos_of_ne_zero fun h => by rw [h] at hj; omega
  have hm : j % zc.size < zc.size := Nat.mod_lt _ (by omega)
  simp only [Array.getElem?_map, Option.map_eq_some_iff] at h2
  obtain ⟨k, hk, rfl⟩ := h2
  have : k = j := by rw [Array.getElem?_range] at hk; split at hk <;> simp_all
  subst this
  rw [getElem!_pos zc _ hm]
  refine hz (k % z.length) c _ h1 ?_
  rw [← hs]; simp [hm]

def bsliceF (E : Env) (t : TypeId) (len : Nat) (parts : List (Nat × AV)) (nid : Nat) : Option Out :=
  match E.und t with
  | some (.slice e) => match E.tt.get e with
    | some ei => match zeros ei with
      | some z => match Nat.beq z.length ei.size, Nat.ble (len * ei.size) 16777216, Nat.blt 0 ei.size with
        | true, true, true => match fillF (fun i => some (i * ei.size, ei.size)) (times z len) parts with
          | some r => some ⟨none, [], .sl nid 0 0 ei.size len (some len), [(nid, .cells e r)]⟩
          | none => none
        | _, _, _ => none
      | none => none
    | none => none
  | _ => none

include ok in
theorem valid_bslice {o : Oper} {t : TypeId} {len : Nat} {parts : Array (Nat × Operand)} (h : o.op = .buildSlice t len parts) (ρ : Operand → AV) (H : Heap) (nid : Nat) {u : Out} (hr : bsliceF E t len (partsOf ρ parts.toList) nid = some u) :
    Valid E.P o ρ H nid u := by
  unfold bsliceF at hr
  split at hr
  · rename_i e hu
    split at hr
    · rename_i ei hei
      split at hr
      · rename_i z hz
        obtain ⟨zv, hz1, hz2, hz3⟩ := zeros_rel hz
        split at hr
        · rename_i e1 e2 e3
          have e1 := Nat.eq_of_beq_eq_true e1
          have e2 := Nat.le_of_ble_eq_true e2
          have e3 : 0 < ei.size := Nat.le_of_ble_eq_true e3
          split at hr
          · rename_i r hf
            cases hr
            refine valid_new rfl fun Z γ H' w a hs hx hn hg => ?_
            obtain ⟨p1, p2⟩ := parts_rel (parts := parts) hx
            obtain ⟨q1, q2⟩ := range_mod_rel (z := z) (zc := zv.cells) hz2 (n := len) (hz3 Z w γ)
            obtain ⟨arr, h1, h2, h3⟩ := fill_ok _ _ _ _ _ _ hf q1 q2 p1 p2
            have hrl : r.length = len * ei.size := by
              have : ∀ (parts : List (Nat × AV)) (c r : List AV), fillF (fun i => some (i * ei.size, ei.size)) c parts = some r → r.length = c.length := by
                intro parts
                induction parts with
                | nil => intro c r h; simp only [fillF] at h; cases h; rfl
                | cons p l ih =>
                  intro c r h
                  obtain ⟨i, v⟩ := p
                  simp only [fillF] at h
                  split at h
                  · cases h
                  · split at h
                    · rename_i b1 b2
                      rw [ih _ _ h, splice_length (Nat.le_of_ble_eq_true b2)]
                    · cases h
              rw [this _ _ _ hf, times_length, e1]
            refine ⟨.slice (some ⟨w.heap.size, 0, none⟩) len len, .cells arr e, cells_new h2 (fun j c y hc hy => (h3 j c y hc hy).alloc hs.rng hs.zrng _ hg), ?_, ?_⟩
            · have := VRel.sl (Z := Z) (w := w.alloc (.cells arr e)) (γ := upd γ nid w.heap.size) (id := nid) (base := 0) (start := 0) (sz := ei.size) (n := len) (cap := some len) (b := w.heap.size) (c := len)
                (by simp [upd]) (Nat.le_refl _) (fun c0 h => by cases h; rfl) (fun ty m hm => by
                  simp only [World.shape?, heap_alloc_new] at hm
                  cases hm; rw [h2, hrl, Nat.zero_add, Nat.zero_add]; exact Nat.le_refl _)
              simpa using this
            · have hne : len * ei.size = 0 → len = 0 := fun h => by rcases Nat.mul_eq_zero.1 h with h | h <;> omega
              have hrun : (Instr.buildSlice t len (parts.map fun (i, x) => (i, a.eval x))).run E.P w = .ok (.slice (some ⟨w.heap.size, 0, none⟩) len len) (w.alloc (.cells arr e)) := by
                simp only [Instr.buildSlice, Sem.run_bind, run_und ok hu, Result.andThen_ok, run_size ok hei]
                rw [if_neg (by omega)]
                by_cases h0 : len * ei.size = 0
                · have := hne h0; subst this
                  simp only [Nat.zero_mul] at h1
                  have hr0 : Array.range 0 = #[] := rfl
                  rw [hr0] at h1
                  simp only [Array.map_empty] at h1
                  simp only [Nat.zero_mul, if_true, hr0, Array.map_empty, h1]
                  simp [newRow]
                · rw [if_neg h0]
                  rw [e1] at h1
                  simp only [Sem.run_bind, zeroValue, run_info ok hei, Result.andThen_ok, hz1, Sem.run_pure, h1]
                  simp [newRow]
              simp only [execOp, h, Sem.run_bind, hrun]; rfl
          · cases hr
        · cases hr
      · cases hr
    · cases hr
  · cases hr

end
end Go.Sx

namespace Go.Sx
section
variable {E : Env} (ok : E.Ok)

/-! #### builtins that only look -/
theorem ex_builtin {o : Oper} {b : Builtin} {args : Array Operand} {ats : Array TypeId} (h : o.op = .call { callee := .builtin b, args := args, argTypes := ats }) {ρ : Operand → Value} {w w' : World} {x : Next}
    (hr : (builtin b ats o.type (args.map fun | .const _ => true | _ => false) (args.map ρ)).run E.P w = .ok x w') : (execOp ρ o).run E.P w = .ok x w' := by
  simp only [execOp, h, Sem.run_bind, resolve, Sem.run_pure, Result.andThen_ok, invoke]
  exact hr

def lenF (E : Env) (t : TypeId) (x : AV) (H : Heap) : Option AV :=
  match E.und t with
  | some (.slice _) => match x with
    | .sl id _ _ _ n _ => match H.get id with
      | some (.cells _ _) => some (.int true .i64 n)
      | _ => some (.int false .i64 n)
    | .isl _ n _ _ => some (.int E.lit .i64 n)
    | .nils => some (.int true .i64 0)
    | _ => none
  | some (.array n _) => some (.int true .i64 n)
  | some .string => match x with
    | .str s => some (.int false .i64 s.size)
    | _ => none
  | _ => none

def capF (E : Env) (t : TypeId) (x : AV) : Option AV :=
  match E.und t with
  | some (.slice _) => match x with
    | .sl _ _ _ _ n (some c) => match n with
      | 0 => none
      | _ + 1 => some (.int false .i64 c)
    | .isl _ _ (some c) _ => some (.int false .i64 c)
    | .nils => some (.int true .i64 0)
    | _ => none
  | _ => none

theorem sl_len {Z w γ id base start sz n cap v} (h : VRel Z w γ (.sl id base start sz n cap) v) : ∃ a c, v = .slice a n c ∧ n ≤ c ∧ (0 < n → ∀ c0, cap = some c0 → c = c0) := by
  cases h with
  | sl h1 h2 h3 h4 => exact ⟨_, _, rfl, h2, fun _ => h3⟩
  | sl0 h1 h2 => subst h1; exact ⟨_, _, rfl, Nat.le_refl _, fun h => absurd h (Nat.lt_irrefl _)⟩

theorem isl_len {Z w γ sz n cap f v} (h : VRel Z w γ (.isl sz n cap f) v) : ∃ a c, v = .slice a n c ∧ n ≤ c ∧ ∀ c0, cap = some c0 → c = c0 := by
  cases h with
  | isl h1 h2 h3 h4 h5 h6 => exact ⟨_, _, rfl, by assumption, by assumption⟩
  | isl0 h1 h2 => subst h1; exact ⟨_, _, rfl, Nat.zero_le _, h2⟩

include ok in
theorem valid_len {o : Oper} {t : TypeId} {x : Operand} {args : Array Operand} {ats : Array TypeId} (h : o.op = .call { callee := .builtin .len, args := args, argTypes := ats }) (ha : args[0]? = some x) (ht : ats[0]? = some t)
    (ρ : Operand → AV) (H : Heap) (nid : Nat) {r : AV} (hr : lenF E t (ρ x) H = some r) : Valid E.P o ρ H nid (out r) := by
  refine valid_pure rfl fun Z γ H' w a hs hx hn => ?_
  have h1 := hx x
  have ha' : (args.map a.eval)[0]? = some (a.eval x) := by simp [ha]
  have key : ∀ v, (Builtin.len_ ats o.type (args.map a.eval)).run E.P w = .ok v w → (execOp a.eval o).run E.P w = .ok (.value v) w := fun v hv => ex_builtin h (by simp only [builtin, Sem.run_bind, hv]; rfl)
  unfold lenF at hr
  split at hr
  · rename_i e hu
    have hsl : ∀ ad n c, a.eval x = .slice ad n c → (Builtin.len_ ats o.type (args.map a.eval)).run E.P w = .ok (.int .i64 n) w := fun ad n c hav => by
      simp only [Builtin.len_, ht, ha', hav, Sem.run_bind, run_und ok hu, Result.andThen_ok]; rfl
    split at hr
    · rename_i heq
      rw [heq] at h1
      obtain ⟨ad, c, hav, _⟩ := sl_len h1
      split at hr <;> cases hr <;> exact ⟨_, .int, key _ (hsl _ _ _ hav)⟩
    · rename_i heq; rw [heq] at h1; cases hr
      obtain ⟨ad, c, hav, _⟩ := isl_len h1
      exact ⟨_, .int, key _ (hsl _ _ _ hav)⟩
    · rename_i heq; rw [heq] at h1; cases hr; generalize hav : a.eval x = v at h1; cases h1
      exact ⟨_, .int, key _ (hsl _ _ _ hav)⟩
    · cases hr
  · rename_i n e hu
    cases hr
    exact ⟨_, .int, key _ (by simp only [Builtin.len_, ht, ha', Sem.run_bind, run_und ok hu, Result.andThen_ok]; rfl)⟩
  · rename_i hu
    split at hr
    · rename_i heq; rw [heq] at h1; cases hr; generalize hav : a.eval x = v at h1; cases h1
      exact ⟨_, .int, key _ (by simp only [Builtin.len_, ht, ha', hav, Sem.run_bind, run_und ok hu, Result.andThen_ok]; rfl)⟩
    · cases hr
  · cases hr

include ok in
theorem valid_cap {o : Oper} {t : TypeId} {x : Operand} {args : Array Operand} {ats : Array TypeId} (h : o.op = .call { callee := .builtin .cap, args := args, argTypes := ats }) (ha : args[0]? = some x) (ht : ats[0]? = some t)
    (ρ : Operand → AV) (H : Heap) (nid : Nat) {r : AV} (hr : capF E t (ρ x) = some r) : Valid E.P o ρ H nid (out r) := by
  refine valid_pure rfl fun Z γ H' w a hs hx hn => ?_
  have h1 := hx x
  have ha' : (args.map a.eval)[0]? = some (a.eval x) := by simp [ha]
  have key : ∀ v, (Builtin.cap_ ats o.type (args.map a.eval)).run E.P w = .ok v w → (execOp a.eval o).run E.P w = .ok (.value v) w := fun v hv => ex_builtin h (by simp only [builtin, Sem.run_bind, hv]; rfl)
  unfold capF at hr
  split at hr
  · rename_i e hu
    have hsl : ∀ ad n c, a.eval x = .slice ad n c → (Builtin.cap_ ats o.type (args.map a.eval)).run E.P w = .ok (.int .i64 c) w := fun ad n c hav => by
      simp only [Builtin.cap_, ht, ha', hav, Sem.run_bind, run_und ok hu, Result.andThen_ok]; rfl
    split at hr
    · rename_i heq
      rw [heq] at h1
      split at hr
      · cases hr
      · cases hr
        obtain ⟨ad, c, hav, _, hc⟩ := sl_len h1
        have := hc (by omega) _ rfl; subst this
        exact ⟨_, .int, key _ (hsl _ _ _ hav)⟩
    · rename_i heq; rw [heq] at h1; cases hr
      obtain ⟨ad, c, hav, _, hc⟩ := isl_len h1
      have := hc _ rfl; subst this
      exact ⟨_, .int, key _ (hsl _ _ _ hav)⟩
    · rename_i heq; rw [heq] at h1; cases hr; generalize hav : a.eval x = v at h1; cases h1
      exact ⟨_, .int, key _ (hsl _ _ _ hav)⟩
    · cases hr
  · cases hr

def mnmx (mx : Bool) (n m : Int) : Int :=
  match mx with
  | true => if m > n then m else n
  | false => if m < n then m else n

def minA (mx : Bool) : (l : Bool) → (k : IntKind) → (n : Int) → List AV → Option AV
  | l, k, n, [] => some (.int l k n)
  | l, k, n, .int l' _ m :: rest => minA mx (l && l') k (mnmx mx n m) rest
  | _, _, _, _ => none

def minF (mx : Bool) : List AV → Option AV
  | .int l k n :: rest => minA mx l k n rest
  | _ => none

def fold2 (mx : Bool) (x : Value) (rest : List Value) : Sem Value :=
  match mx with
  | true => rest.foldlM Builtin.max2 x
  | false => rest.foldlM Builtin.min2 x

theorem minA_ok {Z w γ} (mx : Bool) (P : Program) : ∀ (l : List AV) (vs : List Value) (lt : Bool) (k : IntKind) (n : Int) (r : AV), minA mx lt k n l = some r → vs.length = l.length →
    (∀ (i : Nat) c v, l[i]? = some c → vs[i]? = some v → VRel Z w γ c v) → ∃ v, VRel Z w γ r v ∧ ∀ w', (fold2 mx (.int k n) vs).run P w' = .ok v w'
  | [], vs, lt, k, n, r, h, hl, _ => by
    simp only [minA] at h; cases h
    match vs, hl with
    | [], _ => exact ⟨_, .int, fun w' => by cases mx <;> rfl⟩
  | a :: l, vs, lt, k, n, r, h, hl, hr => by
    match vs, hl with
    | x :: vs, hl =>
      cases a <;> simp only [minA] at h <;> try (cases h; done)
      have hx := hr 0 _ _ rfl rfl
      cases hx
      obtain ⟨v, hv, hrun⟩ := minA_ok mx P l vs _ _ _ r h (by simpa using hl) (fun i c v h1 h2 => hr (i + 1) c v (by simpa using h1) (by simpa using h2))
      refine ⟨v, hv, fun w' => ?_⟩
      have := hrun w'
      cases mx <;> simpa [fold2, List.foldlM_cons, Builtin.min2, Builtin.max2, mnmx] using this

theorem valid_min {o : Oper} {mx : Bool} {args : Array Operand} {ats : Array TypeId} (h : o.op = .call { callee := .builtin (if mx then .max else .min), args := args, argTypes := ats })
    (ρ : Operand → AV) (H : Heap) (nid : Nat) {r : AV} (hr : minF mx (args.toList.map ρ) = some r) : Valid E.P o ρ H nid (out r) := by
  refine valid_pure rfl fun Z γ H' w a hs hx hn => ?_
  cases hargs : args.toList with
  | nil => rw [hargs] at hr; simp [minF] at hr
  | cons p rest =>
    rw [hargs] at hr
    simp only [List.map_cons] at hr
    have h1 := hx p
    cases hp : ρ p <;> rw [hp] at hr <;> simp only [minF] at hr <;> try (cases hr; done)
    rw [hp] at h1
    rename_i l0 k0 n0
    generalize hav : a.eval p = pv at h1
    cases h1
    obtain ⟨v, hv, hrun⟩ := minA_ok mx E.P (rest.map ρ) (rest.map a.eval) _ _ _ r hr (by simp) (fun i c v h1 h2 => by
      simp only [List.getElem?_map, Option.map_eq_some_iff] at h1 h2
      obtain ⟨p, hp, rfl⟩ := h1
      obtain ⟨q, hq, rfl⟩ := h2
      rw [hp] at hq; cases hq; exact hx _)
    refine ⟨v, hv, ex_builtin h ?_⟩
    have ht : (args.map a.eval).toList = .int k0 n0 :: rest.map a.eval := by rw [Array.toList_map, hargs, List.map_cons, hav]
    have := hrun w
    cases mx
    · simp only [fold2, builtin, Builtin.min_, ht, Sem.run_bind, Bool.false_eq_true, if_false] at this ⊢; rw [this]; rfl
    · simp only [fold2, builtin, Builtin.max_, ht, Sem.run_bind, if_true] at this ⊢; rw [this]; rfl

end
end Go.Sx
