/- Part of an own symbolic executor for the model's code, proved sound, and of the proof of one statement (see the text of the claimed theorem). -/
import Derived.Test.YtkpkfccgbehilaaGreatDoorSxA
namespace Go.Sx

/-! ### stores -/
theorem run_storeCells (P : Program) {b : Nat} {ty : TypeId} : ∀ (vs : List Value) (w : World) (arr : Array Value) (off i : Nat),
    w.heap[b]? = some (.cells arr ty (0, 0)) → (∀ v, v ∈ vs → v.oneCell' = true) → off + i + vs.length ≤ arr.size →
    ∃ w' arr', (storeCells ⟨b, off, none⟩ vs i).run P w = .ok () w' ∧ w'.heap[b]? = some (.cells arr' ty (0, 0)) ∧ arr'.size = arr.size ∧ w'.heap.size = w.heap.size ∧
      (∀ k, k ≠ b → w'.heap[k]? = w.heap[k]?) ∧ w'.tape = w.tape ∧ w'.os = w.os ∧ w'.output = w.output ∧
      ∀ j : Nat, arr'[j]? = if off + i ≤ j ∧ j < off + i + vs.length then vs[j - (off + i)]? else arr[j]?
  | [], w, arr, off, i, hb, _, _ => ⟨w, arr, rfl, hb, rfl, rfl, fun _ _ => rfl, rfl, rfl, rfl, fun j => by rw [if_neg (by simp)]⟩
  | v :: vs, w, arr, off, i, hb, hv, hs => by
    have hlt : off + i < arr.size := by simp at hs; omega
    have hcell : w.cell? ⟨b, off + i, none⟩ = some arr[off + i] := by rw [cell_of_row w b _ arr ty _ hb]; simp [hlt]
    have hfr : w.frozen? ⟨b, off + i, none⟩ = false := frozen_of_row w b _ arr ty hb
    have hset := heap_setCell_same w b (off + i) arr ty v hb
    obtain ⟨w', arr', h1, h2, h3, h4, h5, h6, h7, h8, h9⟩ := run_storeCells P vs (w.setCell ⟨b, off + i, none⟩ v) (arr.setIfInBounds (off + i) v) off (i + 1) hset
      (fun x hx => hv x (List.mem_cons_of_mem _ hx)) (by simp at hs ⊢; omega)
    refine ⟨w', arr', ?_, h2, by simpa using h3, by simpa using h4, fun k hk => ?_, h6, h7, h8, fun j => ?_⟩
    · simp only [storeCells, add_zero', Sem.run_bind, run_store P w _ v .plain (hv v List.mem_cons_self), hcell, hfr]
      simp only [Bool.false_eq_true, if_false, Result.andThen_ok]
      exact h1
    · rw [h5 k hk, heap_setCell_other _ _ _ _ (by simpa using hk)]
    · rw [h9 j]
      by_cases e : j = off + i
      · subst e
        rw [if_neg (by omega), if_pos (by simp)]
        simp [hlt]
      · have hne : (arr.setIfInBounds (off + i) v)[j]? = arr[j]? := by simp [Array.getElem?_setIfInBounds]; intro h; omega
        rw [hne]
        by_cases c : off + i + 1 ≤ j ∧ j < off + i + 1 + vs.length
        · rw [if_pos (by omega), if_pos (by simp; omega)]
          have : j - (off + i) = (j - (off + (i + 1))) + 1 := by omega
          rw [this]; simp
        · rw [if_neg (by omega), if_neg (by simp; omega)]

theorem shape_of_cells {w w' : World} {b : Nat} {arr arr' : Array Value} {ty : TypeId} (h1 : w.heap[b]? = some (.cells arr ty (0, 0))) (h2 : w'.heap[b]? = some (.cells arr' ty (0, 0)))
    (hs : arr'.size = arr.size) (ho : ∀ k, k ≠ b → w'.heap[k]? = w.heap[k]?) : ∀ k, w'.shape? k = w.shape? k := by
  intro k
  by_cases e : k = b
  · subst e; simp [World.shape?, h1, h2, hs]
  · exact shape_of_block (ho k e)

/-! ### the operations -/
section
variable {E : Env} (ok : E.Ok)
include ok

omit ok in
theorem ex_move {o : Oper} {x : Operand} (h : o.op = .move x) (ρ : Operand → Value) (w : World) : (execOp ρ o).run E.P w = .ok (.value (ρ x)) w := by
  simp [execOp, h]
omit ok in
theorem ex_assign {o : Oper} {x : Operand} (h : o.op = .assign x) (ρ : Operand → Value) (w : World) : (execOp ρ o).run E.P w = .ok (.value (ρ x)) w := by
  simp [execOp, h]

def out (r : AV) : Out := ⟨none, [], r, []⟩
def outc (c : Option Bool) (r : AV) : Out := ⟨c, [], r, []⟩

omit ok in
theorem valid_move {o : Oper} {x : Operand} (h : o.op = .move x ∨ o.op = .assign x) (ρ : Operand → AV) (H : Heap) (nid : Nat) : Valid E.P o ρ H nid (out (ρ x)) := by
  refine valid_pure rfl fun Z γ H' w a hs hx hn => ⟨a.eval x, hx x, ?_⟩
  rcases h with h | h
  · exact ex_move h _ _
  · exact ex_assign h _ _

/-! #### pick -/
def pickF (c a b : AV) : Option AV :=
  match c with
  | .bool c => match a, b with
    | .bool x, .bool y => some (.bool (match c with | true => x | false => y))
    | .int _ k x, .int _ k' y => match decide (k = k') with
      | true => some (.int false k (match c with | true => x | false => y))
      | false => none
    | a, b => match c with
      | true => some a
      | false => some b
  | _ => none

omit ok in
theorem valid_pick {o : Oper} {c x y : Operand} (h : o.op = .pick c x y) (ρ : Operand → AV) (H : Heap) (nid : Nat) {r : AV} (hr : pickF (ρ c) (ρ x) (ρ y) = some r) : Valid E.P o ρ H nid (out r) := by
  refine valid_pure rfl fun Z γ H' w a hs hx hn => ?_
  have hc := hx c; have h1 := hx x; have h2 := hx y
  unfold pickF at hr
  split at hr
  · rename_i cc hcc
    rw [hcc] at hc
    generalize hcv : a.eval c = cv at hc
    cases hc
    have hrun : (execOp a.eval o).run E.P w = .ok (.value (if cc then a.eval x else a.eval y)) w := by simp [execOp, h, hcv, asBool]
    refine ⟨_, ?_, hrun⟩
    split at hr
    · rename_i bx bby hx' hy'
      cases hr
      rw [hx'] at h1; rw [hy'] at h2
      cases cc
      · simpa [out] using h2
      · simpa [out] using h1
    · rename_i l1 k1 n1 l2 k2 n2 hx' hy'
      split at hr
      · rename_i hk
        have hk : k1 = k2 := of_decide_eq_true hk
        subst hk
        cases hr
        rw [hx'] at h1; rw [hy'] at h2
        cases cc
        · simp [out]; generalize a.eval y = vv at h2; cases h2; exact .int
        · simp [out]; generalize a.eval x = vv at h1; cases h1; exact .int
      · cases hr
    · cases cc <;> simp only at hr <;> cases hr
      · simpa [out] using h2
      · simpa [out] using h1
  · cases hr

/-! #### alloc, box -/
def zeros (i : TypeInfo) : Option (List AV) :=
  match i.zero with
  | some v => some (v.cells.toList.map ofCell)
  | none => none

omit ok in
theorem zeros_rel {i : TypeInfo} {l : List AV} (h : zeros i = some l) : ∃ z, i.zero = some z ∧ z.cells.size = l.length ∧ ∀ Z w γ (j : Nat) c x, l[j]? = some c → z.cells[j]? = some x → VRel Z w γ c x := by
  unfold zeros at h
  split at h
  · rename_i v hv
    cases h
    refine ⟨v, hv, by simp, fun Z w γ j c x h1 h2 => ?_⟩
    simp only [List.getElem?_map, Option.map_eq_some_iff, Array.getElem?_toList] at h1
    obtain ⟨y, hy, rfl⟩ := h1
    rw [hy] at h2; cases h2
    exact ofCell_ok ..
  · cases h

omit ok in
theorem cells_new {Z : Nat → Prop} {γ : Gam} {w : World} {nid : Nat} {ty : TypeId} {l : List AV} {arr : Array Value} (hsz : arr.size = l.length)
    (h : ∀ (j : Nat) c x, l[j]? = some c → arr[j]? = some x → VRel Z (w.alloc (.cells arr ty)) (upd γ nid w.heap.size) c x) :
    CRel Z (w.alloc (.cells arr ty)) (upd γ nid w.heap.size) w.heap.size (.cells ty l) :=
  ⟨arr, heap_alloc_new _ _, Nat.le_of_eq hsz.symm, h⟩

def allocF (E : Env) (t : TypeId) (nid : Nat) : Option Out :=
  match E.tt.get t with
  | some i => match zeros i with
    | some l => some ⟨none, [], .ptr nid 0, [(nid, .cells t l)]⟩
    | none => none
  | none => none

theorem valid_alloc {o : Oper} {t : TypeId} (h : o.op = .alloc t) (ρ : Operand → AV) (H : Heap) (nid : Nat) {u : Out} (hu : allocF E t nid = some u) : Valid E.P o ρ H nid u := by
  unfold allocF at hu
  split at hu
  · rename_i i hi
    split at hu
    · rename_i l hl
      cases hu
      obtain ⟨z, hz, hzs, hzr⟩ := zeros_rel hl
      refine valid_new rfl fun Z γ H' w a hs hx hn hg => ⟨.pointer (some ⟨w.heap.size, 0, none⟩), .cells z.cells t, cells_new hzs (fun j c x h1 h2 => hzr _ _ _ j c x h1 h2), .ptr (by simp [upd]), ?_⟩
      simp [execOp, h, Instr.alloc, zeroValue, run_info ok hi, hz, newVar, newRow]
    · cases hu
  · cases hu

def boxF (t : TypeId) (x : AV) (nid : Nat) : Option Out :=
  match x.flat with
  | some l => some ⟨none, [], .ptr nid 0, [(nid, .cells t l)]⟩
  | none => none

omit ok in
theorem valid_box {o : Oper} {t : TypeId} {x : Operand} (h : o.op = .box t x) (ρ : Operand → AV) (H : Heap) (nid : Nat) {u : Out} (hu : boxF t (ρ x) nid = some u) : Valid E.P o ρ H nid u := by
  unfold boxF at hu
  split at hu
  · rename_i l hl
    cases hu
    refine valid_new rfl fun Z γ H' w a hs hx hn hg => ?_
    obtain ⟨h1, h2⟩ := flat_rel (hx x) hl
    refine ⟨.pointer (some ⟨w.heap.size, 0, none⟩), .cells (a.eval x).cells t, cells_new h1 (fun j c y hc hy => (h2 j c y hc hy).alloc hs.rng hs.zrng _ hg), .ptr (by simp [upd]), ?_⟩
    simp [execOp, h, Instr.box, newVar, newRow]
  · cases hu

/-! #### load, store -/
def loadF (E : Env) (t : TypeId) (x : AV) (H : Heap) : Option Out :=
  match E.tt.get t with
  | none => none
  | some i => match E.agg t with
    | none => none
    | some ag => match x with
      | .ptr id off => match H.get id with
        | some (.cells _ cs) => match cut off i.size cs with
          | some l => match mk ag l with
            | some r => some ⟨none, [id], r, []⟩
            | none => none
          | none => none
        | _ => none
      | .iref cs => match cut 0 i.size cs with
        | some l => match mk ag l with
          | some r => some ⟨none, [], r, []⟩
          | none => none
        | none => none
      | .rptr id sz e j => match H.get id with
        | some (.row _ sz' n f) => match Nat.beq sz sz' with
          | true => match cut j i.size (f e) with
            | some l => match mk ag l with
              | some r => some ⟨some (decide (e < n ∧ j + i.size ≤ sz)), [id], r, []⟩
              | none => none
            | none => none
          | false => none
        | _ => none
      | _ => none

omit ok in
theorem ex_load {o : Oper} {t : TypeId} {x : Operand} (h : o.op = .load t x) {ρ : Operand → Value} {w : World} {a : Addr} {v : Value} (hx : ρ x = .pointer (some a)) (hr : (loadVar t a).run E.P w = .ok v w) :
    (execOp ρ o).run E.P w = .ok (.value v) w := by
  simp [execOp, h, Instr.loadAt, hx, Instr.sureAddr, hr]

omit ok in
theorem arr_vals {arr : Array Value} {off m : Nat} (h : off + m ≤ arr.size) : ∃ vs : List Value, vs.length = m ∧ ∀ j v, vs[j]? = some v → arr[off + j]? = some v :=
  ⟨(arr.toList.drop off).take m, by simp; omega, fun j v hv => by
    rw [List.getElem?_take] at hv
    split at hv
    · rw [List.getElem?_drop] at hv; simpa using hv
    · cases hv⟩

omit ok in
theorem iref_vals {Z w cs} {p : Value} {γ} (h : VRel Z w γ (.iref cs) p) : ∃ a, p = .pointer (some a) ∧ a.spot = none ∧ Z a.block ∧
    ∃ vs : List Value, vs.length = cs.length ∧ (∀ (j : Nat) v, vs[j]? = some v → w.cell? ⟨a.block, a.off + j, none⟩ = some v) ∧ ∀ (j : Nat) c v, cs[j]? = some c → vs[j]? = some v → VRel Z w noG c v := by
  cases h
  rename_i a vs hZ hs hc hv
  refine ⟨a, rfl, hs, hZ, (List.range cs.length).map vs, by simp, fun j v h => ?_, fun j c v h1 h2 => ?_⟩
  · simp only [List.getElem?_map, Option.map_eq_some_iff] at h
    obtain ⟨k, hk, rfl⟩ := h
    rw [List.getElem?_eq_some_iff] at hk
    obtain ⟨hlt, hk⟩ := hk
    simp at hk hlt; subst hk
    exact hc j _ (List.getElem?_eq_getElem hlt)
  · simp only [List.getElem?_map, Option.map_eq_some_iff] at h2
    obtain ⟨k, hk, rfl⟩ := h2
    rw [List.getElem?_eq_some_iff] at hk
    obtain ⟨hlt, hk⟩ := hk
    simp at hk hlt; subst hk
    exact hv j _ h1

omit ok in
theorem noG_le {Z w γ c v} (h : VRel Z w noG c v) : VRel Z w γ c v := h.mono (fun _ h => ⟨h, rfl⟩) (fun _ _ h => by cases h) (fun _ _ h => by cases h)

theorem load_run {t : TypeId} {x : AV} {H : Heap} {u : Out} (hu : loadF E t x H = some u) (hc : Asked u.c) {Z γ w} (hs : Sat Z γ H w) {pv : Value} (hp : VRel Z w γ x pv) :
    ∃ ad y, pv = .pointer (some ad) ∧ VRel Z w γ u.r y ∧ (loadVar t ad).run E.P w = .ok y w := by
  unfold loadF at hu
  split at hu
  · cases hu
  · rename_i i hi
    split at hu
    · cases hu
    · rename_i ag hag
      split at hu
      · rename_i id off
        split at hu
        · rename_i ty cs hid
          split at hu
          · rename_i l hl
            split at hu
            · rename_i r hr
              cases hu
              obtain ⟨hoff, hll, hlg⟩ := cut_spec hl
              cases hp; rename_i b hb
              obtain ⟨b', hb', hz, hcr⟩ := hs.own id _ hid rfl
              rw [hb] at hb'; cases hb'
              obtain ⟨arr, ha, hsz, hrel⟩ := hcr
              obtain ⟨vs, hvl, hvg⟩ := arr_vals (arr := arr) (off := off) (m := i.size) (by omega)
              obtain ⟨v, hv, hrun⟩ := load_ok ok hag hi hll hr (Z := Z) (γ := γ) (w := w) ⟨b, off, none⟩ vs (by omega)
                (fun j v hj => by rw [add_zero', cell_of_row w b _ arr ty _ ha]; exact hvg j v hj)
                (fun j c v hj hk => hrel (off + j) c v (by rw [← hlg j (by have := (List.getElem?_eq_some_iff.1 hj).1; omega)]; exact hj) (hvg j v hk))
              exact ⟨_, v, rfl, hv, hrun⟩
            · cases hu
          · cases hu
        · cases hu
      · rename_i cs
        split at hu
        · rename_i l hl
          split at hu
          · rename_i r hr
            cases hu
            obtain ⟨hoff, hll, hlg⟩ := cut_spec hl
            obtain ⟨ad, rfl, hsp, hZ, vs, hvl, hvc, hvr⟩ := iref_vals hp
            obtain ⟨v, hv, hrun⟩ := load_ok ok hag hi hll hr (Z := Z) (γ := γ) (w := w) ad (vs.take i.size) (by simp; omega)
              (fun j v hj => by
                rw [add_spot hsp]; rw [List.getElem?_take] at hj; split at hj
                · exact hvc j v hj
                · cases hj)
              (fun j c v hj hk => by
                rw [List.getElem?_take] at hk; split at hk
                · exact noG_le (hvr j c v (by rw [hlg j (by assumption)] at hj; simpa using hj) hk)
                · cases hk)
            exact ⟨_, v, rfl, hv, hrun⟩
          · cases hu
        · cases hu
      · rename_i id sz e j
        split at hu
        · rename_i ty sz' n f hid
          split at hu
          · rename_i hsz
            have hsz := Nat.eq_of_beq_eq_true hsz
            subst hsz
            split at hu
            · rename_i l hl
              split at hu
              · rename_i r hr
                cases hu
                obtain ⟨he, hj⟩ := of_decide_eq_true hc
                obtain ⟨hoff, hll, hlg⟩ := cut_spec hl
                cases hp; rename_i b hb
                obtain ⟨b', hb', hz, hcr⟩ := hs.own id _ hid rfl
                rw [hb] at hb'; cases hb'
                obtain ⟨arr, ha, hsz, hrel⟩ := hcr
                have hle : e * sz + sz ≤ n * sz := by have := Nat.mul_le_mul_right sz (Nat.succ_le_of_lt he); rw [Nat.succ_mul] at this; exact this
                obtain ⟨vs, hvl, hvg⟩ := arr_vals (arr := arr) (off := e * sz + j) (m := i.size) (by omega)
                obtain ⟨v, hv, hrun⟩ := load_ok ok hag hi hll hr (Z := Z) (γ := γ) (w := w) ⟨b, e * sz + j, none⟩ vs (by omega)
                  (fun k v hk => by rw [add_zero', cell_of_row w b _ arr ty _ ha]; exact hvg k v hk)
                  (fun k c v hk hk' => by
                    have hkl : k < i.size := by have := (List.getElem?_eq_some_iff.1 hk).1; omega
                    exact hrel e (j + k) c v he (by omega) (by rw [← hlg k hkl]; exact hk) (by have := hvg k v hk'; rwa [Nat.add_assoc] at this))
                exact ⟨_, v, rfl, hv, hrun⟩
              · cases hu
            · cases hu
          · cases hu
        · cases hu
      · cases hu

omit ok in
theorem loadF_congr {t : TypeId} {x : AV} {H H' : Heap} {u : Out} (hu : loadF E t x H = some u) (h : ∀ i, i ∈ u.nd → H'.get i = H.get i) : loadF E t x H' = some u := by
  unfold loadF at hu ⊢
  split at hu
  · cases hu
  · split at hu
    · cases hu
    · split at hu
      · split at hu
        · rename_i hid
          split at hu
          · split at hu
            · cases hu; rw [h _ (by simp), hid]; simp_all
            · cases hu
          · cases hu
        · cases hu
      · exact hu
      · split at hu
        · rename_i hid
          split at hu
          · split at hu
            · split at hu
              · cases hu; rw [h _ (by simp), hid]; simp_all
              · cases hu
            · cases hu
          · cases hu
        · cases hu
      · cases hu

theorem valid_load {o : Oper} {t : TypeId} {x : Operand} (h : o.op = .load t x) (ρ : Operand → AV) (H : Heap) (nid : Nat) {u : Out} (hu : loadF E t (ρ x) H = some u) (hc : Asked u.c) : Valid E.P o ρ H nid u := by
  have hwr : u.wr = [] := by
    unfold loadF at hu
    repeat' (split at hu)
    all_goals first | (cases hu; done) | (cases hu; rfl)
  refine valid_pure hwr fun Z γ H' w a hs hx hn => ?_
  obtain ⟨ad, y, h1, h2, h3⟩ := load_run ok (loadF_congr hu hn) hc hs (hx x)
  exact ⟨y, h2, ex_load h h1 h3⟩

end
end Go.Sx

namespace Go.Sx
section
variable {E : Env} (ok : E.Ok)

/-! #### store -/
def oneAll : List AV → Bool
  | [] => true
  | a :: l => match a.one with
    | true => oneAll l
    | false => false

theorem oneAll_spec {l : List AV} (h : oneAll l = true) : ∀ a, a ∈ l → a.one = true := by
  induction l with
  | nil => intro a ha; cases ha
  | cons x l ih =>
    unfold oneAll at h
    split at h
    · rename_i hx
      intro a ha
      rcases List.mem_cons.1 ha with rfl | ha
      · exact hx
      · exact ih h a ha
    · cases h

def storeF (E : Env) (t : TypeId) (p x : AV) (H : Heap) : Option Out :=
  match E.tt.get t with
  | none => none
  | some i => match x.flat with
    | none => none
    | some l => match oneAll l, Nat.beq l.length i.size with
      | true, true => match p with
        | .ptr id off => match H.get id with
          | some (.cells ty cs) => match Nat.ble (off + l.length) cs.length with
            | true => some ⟨none, [id], .any, [(id, .cells ty (splice off l cs))]⟩
            | false => none
          | _ => none
        | .rptr id sz e j => match H.get id with
          | some (.row ty sz' n f) => match Nat.beq sz sz', Nat.ble (j + l.length) sz with
            | true, true => some ⟨some (decide (e < n ∧ (f e).length = sz)), [id], .any, [(id, .row ty sz n (fun k => match Nat.beq k e with
                | true => splice j l (f e)
                | false => f k))]⟩
            | _, _ => none
          | _ => none
        | _ => none
      | _, _ => none

theorem ex_store {o : Oper} {t : TypeId} {x y : Operand} (h : o.op = .store t x y) {i : TypeInfo} (ok : E.Ok) (hi : E.tt.get t = some i) {ρ : Operand → Value} {w w' : World} {a : Addr} (hx : ρ x = .pointer (some a))
    (hsz : (ρ y).cells.size = i.size) (hr : (storeCells a (ρ y).cells.toList).run E.P w = .ok () w') :
    (execOp ρ o).run E.P w = .ok .skip w' := by
  simp [execOp, h, Instr.storeAt, hx, Instr.sureAddr, storeVar, run_size ok hi, hsz, hr]

include ok in
theorem valid_store {o : Oper} {t : TypeId} {x y : Operand} (h : o.op = .store t x y) (ρ : Operand → AV) (H : Heap) (nid : Nat) {u : Out} (hu : storeF E t (ρ x) (ρ y) H = some u) (hc : Asked u.c) : Valid E.P o ρ H nid u := by
  unfold storeF at hu
  split at hu
  · cases hu
  · rename_i i hi
    split at hu
    · cases hu
    · rename_i l hl
      split at hu
      · rename_i hone hlen
        have hlen := Nat.eq_of_beq_eq_true hlen
        split at hu
        · rename_i id off hpx
          split at hu
          · rename_i ty cs hid
            split at hu
            · rename_i hle
              have hle := Nat.le_of_ble_eq_true hle
              cases hu
              refine valid_turn (id := id) rfl (by simp) rfl hid rfl fun Z γ H' w a b hs hx hn hb hz hcr => ?_
              have hp := hx x; rw [hpx] at hp
              generalize hpv : a.eval x = pv at hp
              cases hp; rename_i b' hb'
              rw [hb] at hb'; cases hb'
              obtain ⟨arr, ha, hsz, hrel⟩ := hcr
              obtain ⟨hfs, hfr⟩ := flat_rel (hx y) hl
              have hvone : ∀ v, v ∈ (a.eval y).cells.toList → v.oneCell' = true := by
                intro v hv
                obtain ⟨j, hj, hjv⟩ := List.getElem_of_mem hv
                have hjl : j < l.length := by simp at hj; omega
                exact (hfr j l[j] v (List.getElem?_eq_getElem hjl) (by rw [← hjv]; simp)).oneCell (oneAll_spec hone _ (List.getElem_mem hjl))
              obtain ⟨w', arr', h1, h2, h3, h4, h5, h6, h7, h8, h9⟩ := run_storeCells E.P (b := b) (ty := ty) (a.eval y).cells.toList w arr off 0 ha hvone (by simp; omega)
              have hshape := shape_of_cells ha h2 h3 h5
              refine ⟨w', h4, h5, hshape, h6, h7, h8, ⟨arr', h2, by rw [splice_length hle]; omega, fun j c v hj hv => ?_⟩, ex_store h ok hi hpv (by omega) h1⟩
              rw [splice_get hle] at hj
              rw [h9] at hv
              have hmono : ∀ {c v}, VRel Z w γ c v → VRel Z w' γ c v := fun h => h.mono (fun q hq => ⟨hq, h5 q (fun e => hz (e ▸ hq))⟩) (fun _ _ h => h) (fun _ q _ => hshape q)
              simp only [Nat.add_zero, Array.length_toList, hfs] at hv
              by_cases hin : off ≤ j ∧ j < off + l.length
              · rw [if_pos hin] at hj hv
                exact hmono (hfr _ _ _ hj (by simpa using hv))
              · rw [if_neg hin] at hj hv
                exact hmono (hrel j c v hj hv)
            · cases hu
          · cases hu
        · rename_i id sz e j hpx
          split at hu
          · rename_i ty sz' n f hid
            split at hu
            · rename_i hsz0 hle
              have hsz0 := Nat.eq_of_beq_eq_true hsz0
              subst hsz0
              have hle := Nat.le_of_ble_eq_true hle
              cases hu
              obtain ⟨he, hfe⟩ := of_decide_eq_true hc
              refine valid_turn (id := id) rfl (by simp) rfl hid rfl fun Z γ H' w a b hs hx hn hb hz hcr => ?_
              have hp := hx x; rw [hpx] at hp
              generalize hpv : a.eval x = pv at hp
              cases hp; rename_i b' hb'
              rw [hb] at hb'; cases hb'
              obtain ⟨arr, ha, hsz, hrel⟩ := hcr
              obtain ⟨hfs, hfr⟩ := flat_rel (hx y) hl
              have hvone : ∀ v, v ∈ (a.eval y).cells.toList → v.oneCell' = true := by
                intro v hv
                obtain ⟨j, hj, hjv⟩ := List.getElem_of_mem hv
                have hjl : j < l.length := by simp at hj; omega
                exact (hfr j l[j] v (List.getElem?_eq_getElem hjl) (by rw [← hjv]; simp)).oneCell (oneAll_spec hone _ (List.getElem_mem hjl))
              have hrow : e * sz + sz ≤ n * sz := by have := Nat.mul_le_mul_right sz (Nat.succ_le_of_lt he); rw [Nat.succ_mul] at this; exact this
              obtain ⟨w', arr', h1, h2, h3, h4, h5, h6, h7, h8, h9⟩ := run_storeCells E.P (b := b) (ty := ty) (a.eval y).cells.toList w arr (e * sz + j) 0 ha hvone (by simp; omega)
              have hshape := shape_of_cells ha h2 h3 h5
              refine ⟨w', h4, h5, hshape, h6, h7, h8, ⟨arr', h2, by omega, fun k q c v hk hq hj hv => ?_⟩, ex_store h ok hi hpv (by omega) h1⟩
              rw [h9] at hv
              have hmono : ∀ {c v}, VRel Z w γ c v → VRel Z w' γ c v := fun h => h.mono (fun q hq => ⟨hq, h5 q (fun e => hz (e ▸ hq))⟩) (fun _ _ h => h) (fun _ q _ => hshape q)
              simp only [Nat.add_zero, Array.length_toList, hfs] at hv
              simp only at hj
              split at hj
              · rename_i hke
                have hke := Nat.eq_of_beq_eq_true hke
                subst hke
                rw [splice_get (by omega)] at hj
                by_cases hin : j ≤ q ∧ q < j + l.length
                · rw [if_pos hin] at hj
                  rw [if_pos (by omega), show k * sz + q - (k * sz + j) = q - j by omega] at hv
                  exact hmono (hfr _ _ _ hj (by simpa using hv))
                · rw [if_neg hin] at hj; rw [if_neg (by omega)] at hv
                  exact hmono (hrel k q c v hk hq hj hv)
              · rename_i hke
                have hke := Nat.ne_of_beq_eq_false hke
                have : ¬ (e * sz + j ≤ k * sz + q ∧ k * sz + q < e * sz + j + l.length) := by
                  rcases Nat.lt_or_gt_of_ne hke with h | h
                  · have := Nat.mul_le_mul_right sz (Nat.succ_le_of_lt h); rw [Nat.succ_mul] at this; omega
                  · have := Nat.mul_le_mul_right sz (Nat.succ_le_of_lt h); rw [Nat.succ_mul] at this; omega
                rw [if_neg this] at hv
                exact hmono (hrel k q c v hk hq hj hv)
            · cases hu
          · cases hu
        · cases hu
      · cases hu

/-! #### nil checks, addresses -/
def nilF : AV → Option AV
  | .ptr id off => some (.ptr id off)
  | .pts id off s n i j => some (.pts id off s n i j)
  | .rptr id sz i j => some (.rptr id sz i j)
  | .iref cs => some (.iref cs)
  | .fn (.func f) a b => some (.fn (.func f) a b)
  | _ => none

theorem valid_nil {o : Oper} {x : Operand} (h : o.op = .nilCheck x) (ρ : Operand → AV) (H : Heap) (nid : Nat) {r : AV} (hr : nilF (ρ x) = some r) : Valid E.P o ρ H nid (out r) := by
  refine valid_pure rfl fun Z γ H' w a hs hx hn => ?_
  have hp := hx x
  unfold nilF at hr
  split at hr <;> (try cases hr) <;> rename_i heq <;> rw [heq] at hp <;> generalize hpv : a.eval x = pv at hp
  all_goals refine ⟨pv, by simpa [out] using hp, ?_⟩
  all_goals cases hp
  all_goals simp [execOp, h, hpv]

def fieldF (E : Env) (s : TypeId) (p : AV) (f : Nat) : Option AV :=
  match E.und s with
  | some (.struct fs) => match fs[f]? with
    | some fd => match E.tt.get fd.type with
      | some i => match i.size with
        | 0 => none
        | _ + 1 => match p with
          | .ptr id off => some (.ptr id (off + fd.offset))
          | .iref cs => some (.iref (cs.drop fd.offset))
          | .rptr id sz e j => some (.rptr id sz e (j + fd.offset))
          | .pts id off s n i j => some (.pts id off s n i (j + fd.offset))
          | _ => none
      | none => none
    | none => none
  | _ => none

theorem iref_drop {Z w γ cs} {ad : Addr} (h : VRel Z w γ (.iref cs) (.pointer (some ad))) (n : Nat) : VRel Z w γ (.iref (cs.drop n)) (.pointer (some (ad.add n))) := by
  cases h
  rename_i vs hv hZ hs hc
  rw [add_spot hs]
  refine .iref (vs := fun i => vs (n + i)) hZ rfl (fun i c hi => ?_) (fun i c hi => ?_)
  · rw [List.getElem?_drop] at hi
    have := hc _ c hi
    simpa [Nat.add_assoc] using this
  · rw [List.getElem?_drop] at hi; exact hv _ c hi

include ok in
theorem valid_field {o : Oper} {s : TypeId} {x : Operand} {f : Nat} (h : o.op = .fieldAddr s x f) (ρ : Operand → AV) (H : Heap) (nid : Nat) {r : AV} (hr : fieldF E s (ρ x) f = some r) : Valid E.P o ρ H nid (out r) := by
  unfold fieldF at hr
  split at hr
  · rename_i fs hfs
    split at hr
    · rename_i fd hfd
      split at hr
      · rename_i i hi
        split at hr
        · cases hr
        · rename_i k hk
          refine valid_pure rfl fun Z γ H' w a hs hx hn => ?_
          have hp := hx x
          have hrun : ∀ ad, a.eval x = .pointer (some ad) → (execOp a.eval o).run E.P w = .ok (.value (.pointer (some (ad.add fd.offset)))) w := fun ad had => by
            simp [execOp, h, Instr.fieldAt, run_und ok hfs, hfd, had, Instr.sureAddr, fieldPlace, run_size ok hi, hk]
          split at hr <;> (try cases hr) <;> rename_i heq <;> rw [heq] at hp <;> generalize hpv : a.eval x = pv at hp
          · cases hp; rename_i b hb; exact ⟨_, by rw [add_zero']; exact .ptr hb, hrun _ hpv⟩
          · have hp' := hp; cases hp; exact ⟨_, iref_drop hp' _, hrun _ hpv⟩
          · cases hp; rename_i b hb; exact ⟨_, by rw [add_zero', Nat.add_assoc]; exact .rptr hb, hrun _ hpv⟩
          · cases hp; rename_i b hb; exact ⟨_, by rw [add_zero', Nat.add_assoc]; exact .pts hb, hrun _ hpv⟩
      · cases hr
    · cases hr
  · cases hr

end
end Go.Sx

namespace Go.Sx
section
variable {E : Env} (ok : E.Ok)

/-! #### index -/
def indexF (E : Env) (t : TypeId) (x ix : AV) (H : Heap) : Option Out :=
  match ix with
  | .int lit _ i => match E.und t with
    | some (.array n e) => match E.tt.get e with
      | some ei => match x with
        | .ptr id off => match lit with
          | true => match decide (0 ≤ i ∧ i < n) with
            | true => some (outc none (.ptr id (off + i.toNat * ei.size)))
            | false => none
          | false => some (outc (some (decide (0 ≤ i ∧ i < n))) (.pts id off ei.size n i.toNat 0))
        | .iref cs => match lit, decide (0 ≤ i ∧ i < n) with
          | true, true => some (outc none (.iref (cs.drop (i.toNat * ei.size))))
          | _, _ => none
        | .rptr id sz k j => match lit, decide (0 ≤ i ∧ i < n) with
          | true, true => some (outc none (.rptr id sz k (j + i.toNat * ei.size)))
          | _, _ => none
        | .pts id off s m k j => match lit, decide (0 ≤ i ∧ i < n) with
          | true, true => some (outc none (.pts id off s m k (j + i.toNat * ei.size)))
          | _, _ => none
        | _ => none
      | none => none
    | some (.slice e) => match E.tt.get e with
      | some ei => match x with
        | .sl id base start sz n _ => match Nat.beq sz ei.size with
          | true => match H.get id with
            | some (.row _ _ _ _) => match base with
              | 0 => some (outc (some (decide (0 ≤ i ∧ i < n))) (.rptr id sz (start + i.toNat) 0))
              | _ => none
            | some (.cells _ _) => match lit with
              | true => match decide (0 ≤ i ∧ i < n) with
                | true => some (outc none (.ptr id (base + (start + i.toNat) * sz)))
                | false => none
              | false => some (outc (some (decide (0 ≤ i ∧ i < n))) (.pts id (base + start * sz) sz n i.toNat 0))
            | _ => none
          | false => none
        | .isl sz n _ f => match Nat.beq sz ei.size with
          | true => some (outc (some (decide (0 ≤ i ∧ i < n))) (.iref (f i.toNat)))
          | false => none
        | _ => none
      | none => none
    | _ => none
  | _ => none

theorem ex_index_arr (ok : E.Ok) {o : Oper} {t : TypeId} {x y : Operand} (h : o.op = .indexAddr t x y) {n : Nat} {e : TypeId} {ei : TypeInfo} (hu : E.und t = some (.array n e)) (hi : E.tt.get e = some ei)
    {ρ : Operand → Value} {k : IntKind} {i : Int} (hy : ρ y = .int k i) (hin : 0 ≤ i ∧ i < n) {ad : Addr} (hx : ρ x = .pointer (some ad)) (w : World) :
    (execOp ρ o).run E.P w = .ok (.value (.pointer (some (ad.add (i.toNat * ei.size))))) w := by
  simp [execOp, h, Instr.indexAt, hy, asIntOf, run_und ok hu, hx, Instr.sureAddr, hin, run_size ok hi]

theorem ex_index_sl (ok : E.Ok) {o : Oper} {t : TypeId} {x y : Operand} (h : o.op = .indexAddr t x y) {e : TypeId} {ei : TypeInfo} (hu : E.und t = some (.slice e)) (hi : E.tt.get e = some ei)
    {ρ : Operand → Value} {k : IntKind} {i : Int} (hy : ρ y = .int k i) {n c : Nat} (hin : 0 ≤ i ∧ i < n) {ad : Addr} (hx : ρ x = .slice (some ad) n c) (w : World) :
    (execOp ρ o).run E.P w = .ok (.value (.pointer (some (ad.add (i.toNat * ei.size))))) w := by
  simp [execOp, h, Instr.indexAt, hy, asIntOf, run_und ok hu, hx, hin, run_size ok hi]

include ok in
theorem valid_index {o : Oper} {t : TypeId} {x y : Operand} (h : o.op = .indexAddr t x y) (ρ : Operand → AV) (H : Heap) (nid : Nat) {u : Out} (hr : indexF E t (ρ x) (ρ y) H = some u) (hc : Asked u.c) : Valid E.P o ρ H nid u := by
  unfold indexF at hr
  split at hr
  · rename_i lit k i hiy
    have key : ∀ Z γ w (a : Act), (∀ x, VRel Z w γ (ρ x) (a.eval x)) → a.eval y = .int k i := fun Z γ w a hx => by
      have := hx y; rw [hiy] at this; generalize a.eval y = yv at this; cases this; rfl
    split at hr
    · rename_i n e hu
      split at hr
      · rename_i ei hei
        have run : ∀ (a : Act) (ad : Addr) w, a.eval y = .int k i → a.eval x = .pointer (some ad) → 0 ≤ i ∧ i < n → (execOp a.eval o).run E.P w = .ok (.value (.pointer (some (ad.add (i.toNat * ei.size))))) w :=
          fun a ad w h1 h2 h3 => ex_index_arr ok h hu hei h1 h3 h2 w
        split at hr
        · rename_i id off heq
          split at hr
          · split at hr
            · rename_i hd
              have hd := of_decide_eq_true hd
              cases hr
              refine valid_pure rfl fun Z γ H' w a hs hx hn => ?_
              have hp := hx x; rw [heq] at hp; generalize hpv : a.eval x = pv at hp; cases hp; rename_i b hb; refine ⟨_, ?_, run a _ w (key _ _ _ _ hx) hpv hd⟩; rw [add_zero']
              exact .ptr hb
            · cases hr
          · cases hr
            refine valid_pure rfl fun Z γ H' w a hs hx hn => ?_
            have hp := hx x; rw [heq] at hp; generalize hpv : a.eval x = pv at hp; cases hp; rename_i b hb; refine ⟨_, ?_, run a _ w (key _ _ _ _ hx) hpv (of_decide_eq_true hc)⟩; rw [add_zero']
            exact .pts (j := 0) hb
        · rename_i cs heq
          split at hr
          rotate_left
          · cases hr
          rename_i hd
          have hd := of_decide_eq_true hd
          cases hr
          refine valid_pure rfl fun Z γ H' w a hs hx hn => ?_
          have hp := hx x; rw [heq] at hp; generalize hpv : a.eval x = pv at hp
          have hp' := hp; cases hp
          exact ⟨_, iref_drop hp' _, run a _ w (key _ _ _ _ hx) hpv hd⟩
        · rename_i id sz q j heq
          split at hr
          rotate_left
          · cases hr
          rename_i hd
          have hd := of_decide_eq_true hd
          cases hr
          refine valid_pure rfl fun Z γ H' w a hs hx hn => ?_
          have hp := hx x; rw [heq] at hp; generalize hpv : a.eval x = pv at hp; cases hp; rename_i b hb
          exact ⟨_, by rw [add_zero', Nat.add_assoc]; exact .rptr hb, run a _ w (key _ _ _ _ hx) hpv hd⟩
        · rename_i id off s m q j heq
          split at hr
          rotate_left
          · cases hr
          rename_i hd
          have hd := of_decide_eq_true hd
          cases hr
          refine valid_pure rfl fun Z γ H' w a hs hx hn => ?_
          have hp := hx x; rw [heq] at hp; generalize hpv : a.eval x = pv at hp; cases hp; rename_i b hb
          exact ⟨_, by rw [add_zero', Nat.add_assoc]; exact .pts hb, run a _ w (key _ _ _ _ hx) hpv hd⟩
        · cases hr
      · cases hr
    · rename_i e hu
      split at hr
      · rename_i ei hei
        split at hr
        · rename_i id base start sz n cap heq
          split at hr
          · rename_i hsz
            have hsz := Nat.eq_of_beq_eq_true hsz
            subst hsz
            have run : ∀ Z γ w (a : Act), (∀ x, VRel Z w γ (ρ x) (a.eval x)) → (0 ≤ i ∧ i < n) → ∃ b, γ id = some b ∧ (execOp a.eval o).run E.P w = .ok (.value (.pointer (some ⟨b, base + (start + i.toNat) * ei.size, none⟩))) w := by
              intro Z γ w a hx hin
              have hp := hx x; rw [heq] at hp; generalize hpv : a.eval x = pv at hp
              cases hp
              · rename_i b c hb h1 h2 h3
                refine ⟨b, hb, ?_⟩
                rw [ex_index_sl ok h hu hei (key _ _ _ _ hx) hin hpv w, add_zero', Nat.add_mul, Nat.add_assoc]
              · omega
            split at hr
            · split at hr
              · cases hr
                refine valid_pure rfl fun Z γ H' w a hs hx hn => ?_
                obtain ⟨b, hb, hrun⟩ := run Z γ w a hx (of_decide_eq_true hc)
                exact ⟨_, by simpa [outc] using (VRel.rptr (j := 0) hb), by simpa using hrun⟩
              · cases hr
            · split at hr
              · split at hr
                · rename_i hd
                  have hd := of_decide_eq_true hd
                  cases hr
                  refine valid_pure rfl fun Z γ H' w a hs hx hn => ?_
                  obtain ⟨b, hb, hrun⟩ := run Z γ w a hx hd
                  exact ⟨_, .ptr hb, hrun⟩
                · cases hr
              · cases hr
                refine valid_pure rfl fun Z γ H' w a hs hx hn => ?_
                obtain ⟨b, hb, hrun⟩ := run Z γ w a hx (of_decide_eq_true hc)
                refine ⟨_, ?_, hrun⟩
                have := VRel.pts (Z := Z) (w := w) (off := base + start * ei.size) (s := ei.size) (n := n) (i := i.toNat) (j := 0) hb
                simpa [outc, Nat.add_mul, Nat.add_assoc] using this
            · cases hr
          · cases hr
        · rename_i sz n cap f heq
          split at hr
          · rename_i hsz
            have hsz := Nat.eq_of_beq_eq_true hsz
            subst hsz
            cases hr
            refine valid_pure rfl fun Z γ H' w a hs hx hn => ?_
            have hp := hx x; rw [heq] at hp; generalize hpv : a.eval x = pv at hp
            obtain ⟨hc1, hc2⟩ := of_decide_eq_true hc
            have hlt : i.toNat < n := by omega
            cases hp
            · rename_i ad c vs h1 h2 h3 h4 h5 h6
              have hsp : ad.spot = none := by assumption
              refine ⟨_, ?_, ex_index_sl ok h hu hei (key _ _ _ _ hx) ⟨hc1, hc2⟩ hpv w⟩
              rw [add_spot hsp]
              refine .iref (vs := vs i.toNat) (by assumption) rfl (fun j c hj => ?_) (fun j c hj => ?_)
              · first | exact h1 _ _ _ hlt hj | exact h2 _ _ _ hlt hj | exact h3 _ _ _ hlt hj | exact h4 _ _ _ hlt hj | exact h5 _ _ _ hlt hj | exact h6 _ _ _ hlt hj
              · first | exact h1 _ _ _ hlt hj | exact h2 _ _ _ hlt hj | exact h3 _ _ _ hlt hj | exact h4 _ _ _ hlt hj | exact h5 _ _ _ hlt hj | exact h6 _ _ _ hlt hj
            · omega
          · cases hr
        · cases hr
      · cases hr
    · cases hr
  · cases hr

end
end Go.Sx
