/- Part of an own symbolic executor for the model's code, proved sound, and of the proof of one statement (see the text of the claimed theorem). -/
import Derived.Test.YtkpkfccgbehilaaGreatDoorSxD
import Derived.ChangeKeysEq
namespace Go.Sx
section
variable {E : Env} (ok : E.Ok)

/-! #### parts -/
def partF (E : Env) (t : TypeId) (cs : List AV) (off : Nat) : Option AV :=
  match E.agg t with
  | none => none
  | some true => match E.tt.get t with
    | some i => match cut off i.size cs with
      | some l => some (.agg l)
      | none => none
    | none => none
  | some false => cs[off]?

include ok in
theorem part_ok {t : TypeId} {cs : List AV} {off : Nat} {r : AV} (h : partF E t cs off = some r) {Z w γ} {arr : Array Value} (hs : arr.size = cs.length)
    (hr : ∀ (j : Nat) c v, cs[j]? = some c → arr[j]? = some v → VRel Z w γ c v) : ∃ v, VRel Z w γ r v ∧ ∀ w', (part t arr off).run E.P w' = .ok v w' := by
  unfold partF at h
  split at h
  · cases h
  · rename_i hag
    split at h
    · rename_i i hi
      split at h
      · rename_i l hl
        cases h
        obtain ⟨h1, h2, h3⟩ := cut_spec hl
        refine ⟨.agg (arr.extract off (off + i.size)), .agg (by simp; omega) (fun j c v hj hv => ?_), fun w' => by simp [part, run_agg ok hag, run_size ok hi]⟩
        have hjl : j < i.size := by have := (List.getElem?_eq_some_iff.1 hj).1; omega
        rw [h3 j hjl] at hj
        rw [Array.getElem?_extract] at hv
        split at hv
        · exact hr _ _ _ hj hv
        · cases hv
      · cases h
    · cases h
  · rename_i hag
    have hlt : off < cs.length := (List.getElem?_eq_some_iff.1 h).1
    have hlt' : off < arr.size := by omega
    exact ⟨arr[off], hr off r _ h (by simp [hlt']), fun w' => by simp [part, run_agg ok hag, hlt']⟩

/-! #### equality -/
def eqFs (E : Env) (rec : TypeId → AV → AV → Option Bool) (xs ys : List AV) : List Field → Option Bool
  | [] => some true
  | f :: fs => match decide (f.name = "_") with
    | true => none
    | false => match partF E f.type xs f.offset, partF E f.type ys f.offset with
      | some a, some b => match rec f.type a b with
        | some r => match eqFs E rec xs ys fs with
          | some r' => some (r && r')
          | none => none
        | none => none
      | _, _ => none

def eqArr (E : Env) (rec : TypeId → AV → AV → Option Bool) (e sz : Nat) (xs ys : List AV) : List Nat → Option Bool
  | [] => some true
  | i :: is => match partF E e xs (i * sz), partF E e ys (i * sz) with
    | some a, some b => match rec e a b with
      | some r => match eqArr E rec e sz xs ys is with
        | some r' => some (r && r')
        | none => none
      | none => none
    | _, _ => none

def upTo : Nat → Nat → List Nat
  | _, 0 => []
  | i, n + 1 => i :: upTo (i + 1) n

theorem upTo_range : ∀ n i, upTo i n = List.range' i n
  | 0, i => rfl
  | n + 1, i => by rw [upTo, List.range'_succ, upTo_range n (i + 1)]

def memb (i : Nat) : List Nat → Bool
  | [] => false
  | j :: l => match Nat.beq i j with
    | true => true
    | false => memb i l

theorem memb_spec {i : Nat} {l : List Nat} (h : memb i l = true) : i ∈ l := by
  induction l with
  | nil => cases h
  | cons j l ih =>
    unfold memb at h
    split at h
    · rename_i hb; have := Nat.eq_of_beq_eq_true hb; subst this; exact List.mem_cons_self
    · exact List.mem_cons_of_mem _ (ih h)

def eqT (E : Env) : Nat → TypeId → AV → AV → Option Bool
  | 0, _, _, _ => none
  | f + 1, t, x, y => match E.und t with
    | some .bool => match x, y with
      | .bool a, .bool b => some (a == b)
      | _, _ => none
    | some (.int _) => match x, y with
      | .int _ k a, .int _ k' b => match decide (k = k') with
        | true => some (a == b)
        | false => none
      | _, _ => none
    | some .string => match x, y with
      | .str a, .str b => some (a == b)
      | _, _ => none
    | some (.struct fs) => match x, y with
      | .agg xs, .agg ys => match memb t E.eqt with
        | true => eqFs E (eqT E f) xs ys fs.toList
        | false => none
      | _, _ => none
    | some (.array n e) => match x, y with
      | .agg xs, .agg ys => match E.tt.get e with
        | some ei => eqArr E (eqT E f) e ei.size xs ys (upTo 0 n)
        | none => none
      | _, _ => none
    | _ => none

theorem run_eqFields (P : Program) (d : Nat) (xs ys : Array Value) (w : World) (f : Field) (fs : List Field) (hn : f.name ≠ "_") {a b : Value} {r : Bool}
    (h1 : (part f.type xs f.offset).run P w = .ok a w) (h2 : (part f.type ys f.offset).run P w = .ok b w) (h3 : (Op.equalIn d f.type a b).run P w = .ok r w) :
    (Op.eqFields d xs ys (f :: fs)).run P w = if r then (Op.eqFields d xs ys fs).run P w else .ok false w := by
  simp only [Op.eqFields, Sem.run_ite, if_pos hn, Sem.run_bind, h1, h2, h3, Result.andThen_ok]
  cases r <;> simp


include ok in
theorem eqT_ok : ∀ (f : Nat) (t : TypeId) (x y : AV) (r : Bool), eqT E f t x y = some r → ∀ (Z w γ v u) (d : Nat), VRel Z w γ x v → VRel Z w γ y u → f ≤ d → ∀ w', (Op.equalIn d t v u).run E.P w' = .ok r w'
  | 0, _, _, _, _, h => by simp [eqT] at h
  | f + 1, t, x, y, r, h => by
    intro Z w γ v u d hx hy hd w'
    obtain ⟨d, rfl⟩ : ∃ k, d = k + 1 := ⟨d - 1, by omega⟩
    unfold eqT at h
    split at h
    · rename_i hu
      split at h
      · cases h; cases hx; cases hy
        exact run_equalIn_bool' w' d t _ _ (E.und_ok ok hu)
      · cases h
    · rename_i k0 hu
      split at h
      · split at h
        · rename_i hk
          have := of_decide_eq_true hk
          subst this
          cases h; cases hx; cases hy
          exact run_equalIn_int w' d t _ _ _ _ (E.und_ok ok hu)
        · cases h
      · cases h
    · rename_i hu
      split at h
      · cases h; cases hx; cases hy
        simp [Op.equalIn, run_und ok hu]
      · cases h
    · rename_i fs hu
      split at h
      · rename_i xs ys
        split at h
        · rename_i hm
          cases hx; rename_i arr hs1 hr1
          cases hy; rename_i brr hs2 hr2
          have hfs : E.P.fieldsOf t = fs := by simp [Program.fieldsOf, E.und_ok ok hu]
          rw [run_equalIn_struct w' d t arr brr (by rw [hfs]; exact E.und_ok ok hu) (ok.stood _ (memb_spec hm)), hfs]
          generalize fs.toList = l at h
          clear hu hfs hm
          induction l generalizing r with
          | nil => simp only [eqFs] at h; cases h; rfl
          | cons fd l ih =>
            simp only [eqFs] at h
            split at h
            · cases h
            · rename_i hn
              have hn : fd.name ≠ "_" := of_decide_eq_false hn
              split at h
              · rename_i a b ha hb
                split at h
                · rename_i r1 hr
                  split at h
                  · rename_i r2 hr'
                    cases h
                    obtain ⟨va, hva, hra⟩ := part_ok ok ha hs1 hr1
                    obtain ⟨vb, hvb, hrb⟩ := part_ok ok hb hs2 hr2
                    rw [run_eqFields E.P d arr brr w' fd l hn (hra w') (hrb w') (eqT_ok f _ _ _ _ hr _ _ _ _ _ d hva hvb (by omega) w')]
                    cases r1
                    · rfl
                    · simpa using ih r2 hr'
                  · cases h
                · cases h
              · cases h
        · cases h
      · cases h
    · rename_i n e hu
      split at h
      · rename_i xs ys
        split at h
        · rename_i ei hei
          cases hx; rename_i arr hs1 hr1
          cases hy; rename_i brr hs2 hr2
          have hsz : E.P.cellsOf e = ei.size := by simp [Program.cellsOf, ok.info _ _ hei]
          rw [run_equalIn_array w' d arr brr (E.und_ok ok hu) (ok.info _ _ hei), hsz, List.range_eq_range', ← upTo_range]
          generalize upTo 0 n = l at h
          induction l generalizing r with
          | nil => simp only [eqArr] at h; cases h; simp [Op.eqItems]
          | cons i l ih =>
            simp only [eqArr] at h
            split at h
            · rename_i a b ha hb
              split at h
              · rename_i r1 hr
                split at h
                · rename_i r2 hr'
                  cases h
                  obtain ⟨va, hva, hra⟩ := part_ok ok ha hs1 hr1
                  obtain ⟨vb, hvb, hrb⟩ := part_ok ok hb hs2 hr2
                  simp only [Op.eqItems, Sem.run_bind, hra w', hrb w', Result.andThen_ok, eqT_ok f _ _ _ _ hr _ _ _ _ _ d hva hvb (by omega) w']
                  cases r1
                  · simp
                  · simpa using ih r2 hr'
                · cases h
              · cases h
            · cases h
        · cases h
      · cases h
    · cases h

end
end Go.Sx

namespace Go.Sx
section
variable {E : Env} (ok : E.Ok)

/-! #### binary operations -/
def intF (op : BinOp) (l : Bool) (k : IntKind) (a b : Int) : Option (Option Bool × AV) :=
  match op with
  | .add => some (none, .int l k (k.wrap (a + b)))
  | .sub => some (none, .int l k (k.wrap (a - b)))
  | .mul => some (none, .int l k (k.wrap (a * b)))
  | .quo => some (some (decide (b ≠ 0)), .int l k (k.wrap (a.tdiv b)))
  | .rem => some (some (decide (b ≠ 0)), .int l k (a.tmod b))
  | .and => some (none, .int l k (k.wrap (BitVec.ofInt k.bits a &&& BitVec.ofInt k.bits b).toNat))
  | .or => some (none, .int l k (k.wrap (BitVec.ofInt k.bits a ||| BitVec.ofInt k.bits b).toNat))
  | .xor => some (none, .int l k (k.wrap (BitVec.ofInt k.bits a ^^^ BitVec.ofInt k.bits b).toNat))
  | .andNot => some (none, .int l k (k.wrap (BitVec.ofInt k.bits a &&& ~~~BitVec.ofInt k.bits b).toNat))
  | .eql => some (none, .bool (a == b))
  | .neq => some (none, .bool (a != b))
  | .lss => some (none, .bool (decide (a < b)))
  | .leq => some (none, .bool (decide (a ≤ b)))
  | .gtr => some (none, .bool (decide (a > b)))
  | .geq => some (none, .bool (decide (a ≥ b)))
  | _ => none

def sgn (op : BinOp) (b : Bool) : Option Bool :=
  match op with
  | .eql => some b
  | .neq => some (!b)
  | _ => none

def rawNil : Value → Option (Option Bool × Bool)
  | .slice none _ _ => some (none, true)
  | .slice (some _) _ _ => some (none, false)
  | _ => none

/-- whether a value is nil, where that is known; under a condition -/
def isNil : AV → Option (Option Bool × Bool)
  | .nilp => some (none, true)
  | .ptr _ _ => some (none, false)
  | .rptr _ _ _ _ => some (none, false)
  | .pts _ _ _ _ _ _ => some (none, false)
  | .iref _ => some (none, false)
  | .nils => some (none, true)
  | .sl _ _ _ _ n _ => some (some (decide (0 < n)), false)
  | .isl _ n _ _ => some (some (decide (0 < n)), false)
  | .mp _ => some (none, false)
  | .nilm => some (none, true)
  | .nilfn => some (none, true)
  | .fn _ _ _ => some (none, false)
  | .nilif => some (none, true)
  | .iface _ _ => some (none, false)
  | .raw v => rawNil v
  | _ => none

def nilKind : TypeDesc → Bool
  | .pointer _ | .slice _ | .map _ _ | .func _ _ _ => true
  | .interface _ => true
  | _ => false

/-- which nil is it? 0: none, 1: pointer, 2: slice, 3: map, 4: func, 5: interface -/
def kindOf : AV → Nat
  | .nilp | .ptr _ _ | .rptr _ _ _ _ | .pts _ _ _ _ _ _ | .iref _ => 1
  | .nils | .sl _ _ _ _ _ _ | .isl _ _ _ _ => 2
  | .raw _ => 2
  | .mp _ | .nilm => 3
  | .nilfn | .fn _ _ _ => 4
  | .nilif | .iface _ _ => 5
  | _ => 0

def descKind : TypeDesc → Nat
  | .pointer _ => 1
  | .slice _ => 2
  | .map _ _ => 3
  | .func _ _ _ => 4
  | .interface _ => 5
  | _ => 0

def nilConst : Operand → Nat
  | .const (.pointer none) => 1
  | .const (.slice none 0 0) => 2
  | .const (.map none) => 3
  | .const .nilFunc => 4
  | .const .nilIface => 5
  | _ => 0

def binF (E : Env) (op : BinOp) (t : TypeId) (y0 : Operand) (x y : AV) : Option (Option Bool × AV) :=
  match nilConst y0 with
  | k + 1 => match E.und t, isNil x with
    | some d, some (c, b) => match Nat.beq (kindOf x) (k + 1), Nat.beq (descKind d) (k + 1), sgn op b with
      | true, true, some r => some (c, .bool r)
      | _, _, _ => none
    | _, _ => none
  | 0 => match x with
    | .int l k a => match y with
      | .int l' k' b => match op with
        | .shl => some (some (decide (0 ≤ b)), .int (l && l') k (k.wrap (a * 2 ^ (min b.toNat k.bits))))
        | .shr => some (some (decide (0 ≤ b)), .int (l && l') k (a.fdiv (2 ^ (min b.toNat k.bits))))
        | _ => match decide (k = k') with
          | true => intF op (l && l') k a b
          | false => none
      | _ => none
    | .str a => match y with
      | .str b => match sgn op (a == b), E.und t with
        | some r, some .string => some (none, .bool r)
        | _, _ => none
      | _ => none
    | .bool a => match y with
      | .bool b => match sgn op (a == b), E.und t with
        | some r, some .bool => some (none, .bool r)
        | _, _ => none
      | _ => none
    | .agg xs => match y with
      | .agg ys => match memb t E.eqt, eqT E 20 t (.agg xs) (.agg ys) with
        | true, some b => match sgn op b with
          | some r => some (none, .bool r)
          | none => none
        | _, _ => none
      | _ => none
    | _ => none

theorem ex_bin {o : Oper} {op : BinOp} {t : TypeId} {x y : Operand} {yt : TypeId} (h : o.op = .binOp op t x y yt) {ρ : Operand → Value} {w : World} {v : Value}
    (hg : (eqGuard op t x y (ρ x) (ρ y)).run E.P w = .ok () w) (hb : (binOp op t (ρ x) (ρ y)).run E.P w = .ok v w) : (execOp ρ o).run E.P w = .ok (.value v) w := by
  simp only [execOp, h, Sem.run_bind, hg, hb, Result.andThen_ok, Sem.run_pure]

theorem guard_int (P : Program) (op : BinOp) (t : TypeId) (x y : Operand) (k k' : IntKind) (a b : Int) (w : World) : (eqGuard op t x y (.int k a) (.int k' b)).run P w = .ok () w := by
  cases op <;> simp [eqGuard]

theorem bin_int (P : Program) (op : BinOp) (l : Bool) (k : IntKind) (a b : Int) {c : Option Bool} {r : AV} (h : intF op l k a b = some (c, r)) (hc : Asked c) (t : TypeId) (w : World) {Z γ} :
    ∃ v, VRel Z w γ r v ∧ (binOp op t (.int k a) (.int k b)).run P w = .ok v w := by
  cases op <;> simp only [intF] at h <;> cases h
  all_goals first
    | exact ⟨_, .int, by have hc : b ≠ 0 := of_decide_eq_true hc; simp [binOp, Op.intDiv, hc]⟩
    | exact ⟨_, .int, by simp [binOp, Op.intArith, Op.intBits, Op.intCmp]⟩
    | exact ⟨_, .bool, by simp [binOp, Op.intCmp]⟩

theorem nilConst_spec {y : Operand} {k : Nat} (h : nilConst y = k + 1) : y = .const (.pointer none) ∧ k = 0 ∨ y = .const (.slice none 0 0) ∧ k = 1 ∨ y = .const (.map none) ∧ k = 2 ∨ y = .const .nilFunc ∧ k = 3 ∨ y = .const .nilIface ∧ k = 4 := by
  unfold nilConst at h
  split at h <;> simp_all <;> omega

theorem sgn_spec {op : BinOp} {b r : Bool} (h : sgn op b = some r) : op = .eql ∧ r = b ∨ op = .neq ∧ r = !b := by
  cases op <;> simp [sgn] at h <;> simp [h]

theorem nil_eq (P : Program) (dd : Nat) {t : TypeId} {d : TypeDesc} {x : AV} {c : Option Bool} {b : Bool} {k : Nat} {u : Value} (hu : P.underlying t = some d) (hn : isNil x = some (c, b)) (hc : Asked c)
    (h1 : kindOf x = k + 1) (h2 : descKind d = k + 1) (hy : u = .pointer none ∧ k = 0 ∨ u = .slice none 0 0 ∧ k = 1 ∨ u = .map none ∧ k = 2 ∨ u = .nilFunc ∧ k = 3 ∨ u = .nilIface ∧ k = 4)
    {Z w γ} {v : Value} (hv : VRel Z w γ x v) (w' : World) : (Op.equalIn (dd + 1) t v u).run P w' = .ok b w' ∧ (∀ n m, v ≠ .int n m) ∧ (∀ s, v ≠ .string s) ∧ (∀ s r, v ≠ .float s r) ∧ (∀ s r q, v ≠ .complex s r q) := by
  by_cases hraw : ∃ v0, x = .raw v0
  · obtain ⟨v0, rfl⟩ := hraw
    simp only [kindOf] at h1
    obtain rfl : k = 1 := by omega
    have hu2 : u = .slice none 0 0 := by rcases hy with h | h | h | h | h <;> first | exact h.1 | (have := h.2; omega)
    subst hu2
    cases hv
    simp only [isNil] at hn
    unfold rawNil at hn
    cases d <;> simp only [descKind, reduceCtorEq, Nat.reduceAdd, Nat.reduceEqDiff] at h2
    split at hn
    · cases hn; refine ⟨?_, by simp, by simp, by simp, by simp⟩; simp [Op.equalIn, run_underlying hu]
    · cases hn; refine ⟨?_, by simp, by simp, by simp, by simp⟩; simp [Op.equalIn, run_underlying hu]
    · cases hn
  rcases hy with ⟨rfl, rfl⟩ | ⟨rfl, rfl⟩ | ⟨rfl, rfl⟩ | ⟨rfl, rfl⟩ | ⟨rfl, rfl⟩ <;> cases d <;> simp only [descKind, reduceCtorEq, Nat.reduceAdd, Nat.reduceEqDiff] at h2 <;>
    cases hv <;> (try exact absurd ⟨_, rfl⟩ hraw) <;> simp only [kindOf, isNil, reduceCtorEq, Nat.reduceAdd, Nat.reduceEqDiff, Option.some.injEq, Prod.mk.injEq] at h1 hn <;> (try omega) <;> obtain ⟨rfl, rfl⟩ := hn <;>
    first
      | (refine ⟨?_, by simp, by simp, by simp, by simp⟩; simp [Op.equalIn, run_underlying hu]; done)
      | (have hc := of_decide_eq_true hc; exfalso; omega)
      | (exfalso; omega)

include ok in
theorem valid_bin {o : Oper} {op : BinOp} {t : TypeId} {x y : Operand} {yt : TypeId} (h : o.op = .binOp op t x y yt) (ρ : Operand → AV) (H : Heap) (nid : Nat) {c : Option Bool} {r : AV}
    (hr : binF E op t y (ρ x) (ρ y) = some (c, r)) (hc : Asked c) : Valid E.P o ρ H nid (outc c r) := by
  refine valid_pure rfl fun Z γ H' w a hs hx hn => ?_
  have h1 := hx x; have h2 := hx y
  unfold binF at hr
  split at hr
  · rename_i k hk
    split at hr
    · rename_i d c' b hu hnil
      split at hr
      · rename_i r' e1 e2 e3
        cases hr
        have e1 := Nat.eq_of_beq_eq_true e1
        have e2 := Nat.eq_of_beq_eq_true e2
        have hy : ∃ u, y = .const u ∧ (u = .pointer none ∧ k = 0 ∨ u = .slice none 0 0 ∧ k = 1 ∨ u = .map none ∧ k = 2 ∨ u = .nilFunc ∧ k = 3 ∨ u = .nilIface ∧ k = 4) := by
          rcases nilConst_spec hk with ⟨rfl, rfl⟩ | ⟨rfl, rfl⟩ | ⟨rfl, rfl⟩ | ⟨rfl, rfl⟩ | ⟨rfl, rfl⟩ <;> exact ⟨_, rfl, by simp⟩
        obtain ⟨u, rfl, hy⟩ := hy
        obtain ⟨hq, n1, n2, n3, n4⟩ := nil_eq E.P 9999 (E.und_ok ok hu) hnil hc e1 e2 hy h1 w
        generalize hav : a.eval x = v at *
        have hq : (Op.equal t v u).run E.P w = .ok b w := hq
        have hg : (eqGuard op t x (.const u) v u).run E.P w = .ok () w := by
          rcases hy with ⟨rfl, -⟩ | ⟨rfl, -⟩ | ⟨rfl, -⟩ | ⟨rfl, -⟩ | ⟨rfl, -⟩ <;> cases v <;> cases op <;> simp [eqGuard]
        have hb : (binOp op t v u).run E.P w = .ok (.bool r') w := by
          rcases sgn_spec e3 with ⟨rfl, rfl⟩ | ⟨rfl, rfl⟩ <;>
          rcases hy with ⟨rfl, -⟩ | ⟨rfl, -⟩ | ⟨rfl, -⟩ | ⟨rfl, -⟩ | ⟨rfl, -⟩ <;> cases v <;> first
            | (exact absurd rfl (n1 _ _)) | (exact absurd rfl (n2 _)) | (exact absurd rfl (n3 _ _)) | (exact absurd rfl (n4 _ _ _))
            | (simp only [binOp, Sem.run_bind, hq]; rfl)
        exact ⟨_, .bool, ex_bin h (by rw [hav]; exact hg) (by rw [hav]; exact hb)⟩
      · cases hr
    · cases hr
  · split at hr
    · rename_i l k n hxe
      rw [hxe] at h1; generalize hav : a.eval x = v at h1; cases h1
      split at hr
      · rename_i l' k' n' hye
        rw [hye] at h2; generalize hau : a.eval y = u at h2; cases h2
        split at hr
        · cases hr
          exact ⟨_, .int, ex_bin h (by rw [hav, hau]; exact guard_int ..) (by rw [hav, hau]; simp [binOp, Op.shift, Int.not_lt.2 (of_decide_eq_true hc)])⟩
        · cases hr
          exact ⟨_, .int, ex_bin h (by rw [hav, hau]; exact guard_int ..) (by rw [hav, hau]; simp [binOp, Op.shift, Int.not_lt.2 (of_decide_eq_true hc)])⟩
        · split at hr
          · rename_i hk
            have := of_decide_eq_true hk
            subst this
            obtain ⟨v, hv, hrun⟩ := bin_int E.P op _ _ n n' hr hc t w (Z := Z) (γ := γ)
            exact ⟨v, hv, ex_bin h (by rw [hav, hau]; exact guard_int ..) (by rw [hav, hau]; exact hrun)⟩
          · cases hr
      · cases hr
    · rename_i s hxe
      rw [hxe] at h1; generalize hav : a.eval x = v at h1; cases h1
      split at hr
      · rename_i s' hye
        rw [hye] at h2; generalize hau : a.eval y = u at h2; cases h2
        split at hr
        · rename_i r' e3 hu
          cases hr
          refine ⟨_, .bool, ex_bin h ?_ ?_⟩ <;> rw [hav, hau] <;> rcases sgn_spec e3 with ⟨rfl, rfl⟩ | ⟨rfl, rfl⟩ <;> simp [eqGuard, binOp, Op.stringOp, beq_toListBytes]
        · cases hr
      · cases hr
    · rename_i s hxe
      rw [hxe] at h1; generalize hav : a.eval x = v at h1; cases h1
      split at hr
      · rename_i s' hye
        rw [hye] at h2; generalize hau : a.eval y = u at h2; cases h2
        split at hr
        · rename_i r' e3 hu
          cases hr
          have hq : (Op.equal t (.bool s) (.bool s')).run E.P w = .ok (s == s') w := run_equalIn_bool' w 9999 t _ _ (E.und_ok ok hu)
          refine ⟨_, .bool, ex_bin h ?_ ?_⟩ <;> rw [hav, hau] <;> rcases sgn_spec e3 with ⟨rfl, rfl⟩ | ⟨rfl, rfl⟩ <;> first | (simp [eqGuard]; done) | (simp only [binOp, Sem.run_bind, hq]; rfl)
        · cases hr
      · cases hr
    · rename_i xs hxe
      split at hr
      · rename_i ys hye
        split at hr
        · rename_i b hm hb
          split at hr
          · rename_i r' e3
            cases hr
            rw [hxe] at h1; rw [hye] at h2
            have hq := eqT_ok ok 20 t _ _ b hb _ _ _ _ _ 10000 h1 h2 (by omega)
            generalize hav : a.eval x = v at h1 hq; cases h1
            generalize hau : a.eval y = u at h2 hq; cases h2
            have hm := memb_spec hm
            refine ⟨_, .bool, ex_bin h ?_ ?_⟩ <;> rw [hav, hau]
            · exact run_eqGuard_agg w op t x y _ _ (ok.guard _ hm)
            · rcases sgn_spec e3 with ⟨rfl, rfl⟩ | ⟨rfl, rfl⟩
              · rw [run_eql_struct, hq w]; rfl
              · rw [run_neq_struct, hq w]; rfl
          · cases hr
        · cases hr
      · cases hr
    · cases hr

end
end Go.Sx
