/- Part of an own symbolic executor for the model's code, proved sound, and of the proof of one statement (see the text of the claimed theorem). -/
import Derived.Orders
import Derived.Laws.World
import Derived.Laws.Rows
import Derived.Laws.StructEq
import Derived.OrdersIn
import Derived.LoopNIn
import Derived.RangeFuncCalls
namespace Go.Sx

/-! ## binary tries -/
inductive Tr (α : Type) where
  | e
  | n (v : Option α) (l r : Tr α)

namespace Tr
variable {α : Type}
def get : Tr α → Nat → Option α
  | .e, _ => none
  | .n v l r, i =>
    match i with
    | 0 => v
    | i + 1 => match Nat.beq (i % 2) 0 with
      | true => get l (i / 2)
      | false => get r (i / 2)

def set : Nat → Tr α → Nat → α → Tr α
  | 0, t, _, _ => t
  | f + 1, .e, i, x =>
    match i with
    | 0 => .n (some x) .e .e
    | i + 1 => match Nat.beq (i % 2) 0 with
      | true => .n none (set f .e (i / 2) x) .e
      | false => .n none .e (set f .e (i / 2) x)
  | f + 1, .n v l r, i, x =>
    match i with
    | 0 => .n (some x) l r
    | i + 1 => match Nat.beq (i % 2) 0 with
      | true => .n v (set f l (i / 2) x) r
      | false => .n v l (set f r (i / 2) x)

def put (t : Tr α) (i : Nat) (x : α) : Tr α := set (i + 1) t i x

theorem get_e (i : Nat) : (Tr.e : Tr α).get i = none := by cases i <;> rfl

theorem get_set (f : Nat) : ∀ (t : Tr α) (i j : Nat) (x : α), i < f → (set f t i x).get j = if j = i then some x else t.get j := by
  induction f with
  | zero => intro t i j x h; omega
  | succ f ih =>
    intro t i j x h
    cases t with
    | e =>
      cases i with
      | zero => cases j <;> simp [set, get]; split <;> rfl
      | succ i =>
        have hlt : i / 2 < f := by omega
        cases hb : Nat.beq (i % 2) 0 <;> simp only [set, hb]
        · cases j with
          | zero => simp [get]
          | succ j =>
            have hi : i % 2 ≠ 0 := Nat.ne_of_beq_eq_false hb
            cases hj : Nat.beq (j % 2) 0 <;> simp only [get, hj]
            · have hj' : j % 2 ≠ 0 := Nat.ne_of_beq_eq_false hj
              rw [ih _ _ _ _ hlt, get_e]
              by_cases e : j / 2 = i / 2
              · rw [if_pos e, if_pos (by omega)]
              · rw [if_neg e, if_neg (by omega)]
            · have hj' : j % 2 = 0 := Nat.eq_of_beq_eq_true hj
              rw [if_neg (by omega)]
        · cases j with
          | zero => simp [get]
          | succ j =>
            have hi : i % 2 = 0 := Nat.eq_of_beq_eq_true hb
            cases hj : Nat.beq (j % 2) 0 <;> simp only [get, hj]
            · have hj' : j % 2 ≠ 0 := Nat.ne_of_beq_eq_false hj
              rw [if_neg (by omega)]
            · have hj' : j % 2 = 0 := Nat.eq_of_beq_eq_true hj
              rw [ih _ _ _ _ hlt, get_e]
              by_cases e : j / 2 = i / 2
              · rw [if_pos e, if_pos (by omega)]
              · rw [if_neg e, if_neg (by omega)]
    | n v l r =>
      cases i with
      | zero => cases j <;> simp [set, get]
      | succ i =>
        have hlt : i / 2 < f := by omega
        cases hb : Nat.beq (i % 2) 0 <;> simp only [set, hb]
        · cases j with
          | zero => simp [get]
          | succ j =>
            have hi : i % 2 ≠ 0 := Nat.ne_of_beq_eq_false hb
            cases hj : Nat.beq (j % 2) 0 <;> simp only [get, hj]
            · have hj' : j % 2 ≠ 0 := Nat.ne_of_beq_eq_false hj
              rw [ih _ _ _ _ hlt]
              by_cases e : j / 2 = i / 2
              · rw [if_pos e, if_pos (by omega)]
              · rw [if_neg e, if_neg (by omega)]
            · have hj' : j % 2 = 0 := Nat.eq_of_beq_eq_true hj
              rw [if_neg (by omega)]
        · cases j with
          | zero => simp [get]
          | succ j =>
            have hi : i % 2 = 0 := Nat.eq_of_beq_eq_true hb
            cases hj : Nat.beq (j % 2) 0 <;> simp only [get, hj]
            · have hj' : j % 2 ≠ 0 := Nat.ne_of_beq_eq_false hj
              rw [if_neg (by omega)]
            · have hj' : j % 2 = 0 := Nat.eq_of_beq_eq_true hj
              rw [ih _ _ _ _ hlt]
              by_cases e : j / 2 = i / 2
              · rw [if_pos e, if_pos (by omega)]
              · rw [if_neg e, if_neg (by omega)]

theorem get_put (t : Tr α) (i j : Nat) (x : α) : (t.put i x).get j = if j = i then some x else t.get j := get_set _ _ _ _ _ (by omega)

/-- Many at once. -/
def puts : Tr α → List (Nat × α) → Tr α
  | t, [] => t
  | t, (i, x) :: l => puts (t.put i x) l

def ofList : Nat → List α → Tr α → Tr α
  | _, [], t => t
  | k, x :: l, t => ofList (k + 1) l (t.put k x)
end Tr

/-! ## abstract values -/
inductive AV where
  /-- nothing is known -/
  | any
  | bool (b : Bool)
  /-- 'l': the number is written out -/
  | int (l : Bool) (k : IntKind) (n : Int)
  | str (s : ByteArray)
  | agg (cs : List AV)
  | tup (cs : List AV)
  | nilp
  /-- into a block of our own -/
  | ptr (id off : Nat)
  /-- element 'i' of 'n' elements of 's' cells, that begin at 'off'; cell 'j' of it -/
  | pts (id off s n i j : Nat)
  /-- element 'i' of a row, cell 'j' of it -/
  | rptr (id sz i j : Nat)
  /-- into memory that stays: what lies there -/
  | iref (cs : List AV)
  | nils
  | sl (id base start sz n : Nat) (cap : Option Nat)
  | isl (sz n : Nat) (cap : Option Nat) (f : Nat → List AV)
  | fn (f : Fn) (first caps : List AV)
  | nilfn
  | iface (t : TypeId) (v : AV)
  | nilif
  | mp (id : Nat)
  | nilm
  /-- this very value -/
  | raw (v : Value)
  /-- the 'yield' of a loop of ours -/
  | yld (id : Nat)

inductive Chunk where
  | cells (ty : TypeId) (cs : List AV)
  | row (ty : TypeId) (sz n : Nat) (f : Nat → List AV)
  | obj (R : Obj → Prop)
  | gone
  /-- a loop over a function: what its rounds begin with -/
  | lp (st : LoopState) (pend : Option Code) (ts : Tr AV) (nt : Nat) (ps : List Nat) (assign body : Code)
  /-- the block for the rounds' deferred calls -/
  | defr

abbrev Heap := Tr Chunk
abbrev Gam := Nat → Option Nat
def noG : Gam := fun _ => none

inductive VRel (Z : Nat → Prop) (w : World) : Gam → AV → Value → Prop
  | any {γ v} : VRel Z w γ .any v
  | bool {γ b} : VRel Z w γ (.bool b) (.bool b)
  | int {γ l k n} : VRel Z w γ (.int l k n) (.int k n)
  | str {γ s} : VRel Z w γ (.str s) (.string s)
  | agg {γ cs vs} : vs.size = cs.length → (∀ (i : Nat) c v, cs[i]? = some c → vs[i]? = some v → VRel Z w γ c v) → VRel Z w γ (.agg cs) (.agg vs)
  | tup {γ cs vs} : vs.size = cs.length → (∀ (i : Nat) c v, cs[i]? = some c → vs[i]? = some v → VRel Z w γ c v) → VRel Z w γ (.tup cs) (.tuple vs)
  | nilp {γ} : VRel Z w γ .nilp (.pointer none)
  | ptr {γ id off b} : γ id = some b → VRel Z w γ (.ptr id off) (.pointer (some ⟨b, off, none⟩))
  | pts {γ id off s n i j b} : γ id = some b → VRel Z w γ (.pts id off s n i j) (.pointer (some ⟨b, off + i * s + j, none⟩))
  | rptr {γ id sz i j b} : γ id = some b → VRel Z w γ (.rptr id sz i j) (.pointer (some ⟨b, i * sz + j, none⟩))
  | iref {γ cs a} {vs : Nat → Value} : Z a.block → a.spot = none → (∀ (i : Nat) c, cs[i]? = some c → w.cell? ⟨a.block, a.off + i, none⟩ = some (vs i)) →
      (∀ (i : Nat) c, cs[i]? = some c → VRel Z w noG c (vs i)) → VRel Z w γ (.iref cs) (.pointer (some a))
  | nils {γ} : VRel Z w γ .nils (.slice none 0 0)
  | sl {γ id base start sz n cap b c} : γ id = some b → n ≤ c → (∀ c0, cap = some c0 → c = c0) →
      (∀ ty m, w.shape? b = some (ty, m) → base + (start + c) * sz ≤ m) → VRel Z w γ (.sl id base start sz n cap) (.slice (some ⟨b, base + start * sz, none⟩) n c)
  | sl0 {γ id base start sz n cap a} : n = 0 → (∀ c0, cap = some c0 → c0 = 0) → VRel Z w γ (.sl id base start sz n cap) (.slice a 0 0)
  | isl {γ sz n cap f a c} {vs : Nat → Nat → Value} : Z a.block → a.spot = none → n ≤ c → (∀ c0, cap = some c0 → c = c0) →
      (∀ i j x, i < n → (f i)[j]? = some x → w.cell? ⟨a.block, a.off + i * sz + j, none⟩ = some (vs i j)) →
      (∀ i j x, i < n → (f i)[j]? = some x → VRel Z w noG x (vs i j)) → VRel Z w γ (.isl sz n cap f) (.slice (some a) n c)
  | isl0 {γ sz n cap f a c} : n = 0 → (∀ c0, cap = some c0 → c = c0) → VRel Z w γ (.isl sz n cap f) (.slice a 0 c)
  | fn {γ f first caps fs vs} : fs.size = first.length → vs.size = caps.length → (∀ (i : Nat) c v, first[i]? = some c → fs[i]? = some v → VRel Z w γ c v) →
      (∀ (i : Nat) c v, caps[i]? = some c → vs[i]? = some v → VRel Z w γ c v) → VRel Z w γ (.fn f first caps) (.func f fs vs)
  | nilfn {γ} : VRel Z w γ .nilfn .nilFunc
  | iface {γ t a v} : VRel Z w γ a v → VRel Z w γ (.iface t a) (.iface t v)
  | nilif {γ} : VRel Z w γ .nilif .nilIface
  | mp {γ id b} : γ id = some b → VRel Z w γ (.mp id) (.map (some b))
  | nilm {γ} : VRel Z w γ .nilm (.map none)
  | raw {γ v} : VRel Z w γ (.raw v) v
  | yld {γ id b} : γ id = some b → VRel Z w γ (.yld id) (.func (.yield b) #[] #[])

/-- a value of one cell, surely -/
def AV.one : AV → Bool
  | .any | .agg _ | .tup _ => false
  | .raw v => v.oneCell'
  | _ => true

theorem VRel.oneCell {Z w γ a v} (h : VRel Z w γ a v) (ho : a.one = true) : v.oneCell' = true := by
  cases h <;> first | rfl | (simp [AV.one] at ho; done) | exact ho

theorem VRel.mono {Z Z' : Nat → Prop} {w w' : World} {γ : Gam} {a : AV} {v : Value} (h : VRel Z w γ a v) :
    ∀ {γ' : Gam}, (∀ b, Z b → Z' b ∧ w'.heap[b]? = w.heap[b]?) → (∀ i b, γ i = some b → γ' i = some b) →
    (∀ i b, γ i = some b → w'.shape? b = w.shape? b) → VRel Z' w' γ' a v := by
  induction h with
  | any => intros; exact .any
  | bool => intros; exact .bool
  | int => intros; exact .int
  | str => intros; exact .str
  | agg hs _ ih => intro γ' hz hg hsh; exact .agg hs fun i c v h1 h2 => ih i c v h1 h2 hz hg hsh
  | tup hs _ ih => intro γ' hz hg hsh; exact .tup hs fun i c v h1 h2 => ih i c v h1 h2 hz hg hsh
  | nilp => intros; exact .nilp
  | ptr h => intro γ' hz hg hsh; exact .ptr (hg _ _ h)
  | pts h => intro γ' hz hg hsh; exact .pts (hg _ _ h)
  | rptr h => intro γ' hz hg hsh; exact .rptr (hg _ _ h)
  | iref hZ hs hc _ ih =>
    intro γ' hz hg hsh
    refine .iref (hz _ hZ).1 hs (fun i c h => ?_) (fun i c h => ih i c h hz (fun _ _ h => by cases h) (fun _ _ h => by cases h))
    rw [← hc i c h]; simp only [World.cell?, (hz _ hZ).2]
  | nils => intros; exact .nils
  | sl h hn hc hm => intro γ' hz hg hsh; exact .sl (hg _ _ h) hn hc (by rw [hsh _ _ h]; exact hm)
  | sl0 hn hc => intro γ' hz hg hsh; exact .sl0 hn hc
  | isl hZ hs hn hc hcell _ ih =>
    intro γ' hz hg hsh
    refine .isl (hz _ hZ).1 hs hn hc (fun i j x hi h => ?_) (fun i j x hi h => ih i j x hi h hz (fun _ _ h => by cases h) (fun _ _ h => by cases h))
    rw [← hcell i j x hi h]; simp only [World.cell?, (hz _ hZ).2]
  | isl0 hn hc => intro γ' hz hg hsh; exact .isl0 hn hc
  | fn h1 h2 _ _ ih1 ih2 => intro γ' hz hg hsh; exact .fn h1 h2 (fun i c v a b => ih1 i c v a b hz hg hsh) (fun i c v a b => ih2 i c v a b hz hg hsh)
  | nilfn => intros; exact .nilfn
  | iface _ ih => intro γ' hz hg hsh; exact .iface (ih hz hg hsh)
  | nilif => intros; exact .nilif
  | mp h => intro γ' hz hg hsh; exact .mp (hg _ _ h)
  | nilm => intros; exact .nilm
  | raw => intros; exact .raw
  | yld h => intro γ' hz hg hsh; exact .yld (hg _ _ h)

/-- What a block holds. -/
def CRel (Z : Nat → Prop) (w : World) (γ : Gam) (b : Nat) : Chunk → Prop
  | .cells ty cs => ∃ arr, w.heap[b]? = some (.cells arr ty (0, 0)) ∧ cs.length ≤ arr.size ∧ ∀ (i : Nat) c v, cs[i]? = some c → arr[i]? = some v → VRel Z w γ c v
  | .row ty sz n f => ∃ arr, w.heap[b]? = some (.cells arr ty (0, 0)) ∧ n * sz ≤ arr.size ∧ ∀ i j x v, i < n → j < sz → (f i)[j]? = some x → arr[i * sz + j]? = some v → VRel Z w γ x v
  | .obj R => ∃ o, w.heap[b]? = some o ∧ (∀ c t f, o ≠ .cells c t f) ∧ R o
  | .gone => True
  | .lp st pend ts nt ps assign body => ∃ r : Loop, w.heap[b]? = some (.loop r) ∧ r.state = st ∧ r.pending = pend ∧ r.tmps.size = nt ∧ r.params.toList = ps ∧ r.assign = assign ∧ r.body = body ∧
      ∀ i x, ts.get i = some x → VRel Z w γ x (r.tmps.getD i undef)
  | .defr => w.heap[b]? = some (.deferred (some []))

theorem CRel.mono {Z Z' : Nat → Prop} {w w' : World} {γ γ' : Gam} {b : Nat} {ch : Chunk} (h : CRel Z w γ b ch) (hb : w'.heap[b]? = w.heap[b]?)
    (hz : ∀ b, Z b → Z' b ∧ w'.heap[b]? = w.heap[b]?) (hg : ∀ i b, γ i = some b → γ' i = some b)
    (hs : ∀ i b, γ i = some b → w'.shape? b = w.shape? b) : CRel Z' w' γ' b ch := by
  cases ch with
  | cells ty cs => obtain ⟨arr, h1, h2, h3⟩ := h; exact ⟨arr, hb.trans h1, h2, fun i c v a b => (h3 i c v a b).mono hz hg hs⟩
  | row ty sz n f => obtain ⟨arr, h1, h2, h3⟩ := h; exact ⟨arr, hb.trans h1, h2, fun i j x v a b c d => (h3 i j x v a b c d).mono hz hg hs⟩
  | obj R => obtain ⟨o, h1, h2⟩ := h; exact ⟨o, hb.trans h1, h2⟩
  | gone => trivial
  | lp st pend ts nt ps assign body =>
    obtain ⟨r, h1, h2, h3, h4, h5, h6, h7, h8⟩ := h
    exact ⟨r, hb.trans h1, h2, h3, h4, h5, h6, h7, fun i x hi => (h8 i x hi).mono hz hg hs⟩
  | defr => exact hb.trans h

def Chunk.live : Chunk → Bool
  | .gone => false
  | _ => true

structure Sat (Z : Nat → Prop) (γ : Gam) (H : Heap) (w : World) : Prop where
  own : ∀ i ch, H.get i = some ch → ch.live = true → ∃ b, γ i = some b ∧ ¬ Z b ∧ CRel Z w γ b ch
  inj : ∀ i j ci cj b, H.get i = some ci → ci.live = true → H.get j = some cj → cj.live = true → γ i = some b → γ j = some b → i = j
  rng : ∀ i b, γ i = some b → b < w.heap.size
  zrng : ∀ b, Z b → b < w.heap.size
  dom : ∀ i, H.get i = none → γ i = none

/-- From one world to a later one: blocks that are in nobody's hands stay. 'nd': the ids that may have been touched. -/
structure Stp (Z : Nat → Prop) (γ : Gam) (w : World) (nd : Nat → Prop) (Z' : Nat → Prop) (γ' : Gam) (w' : World) : Prop where
  gam : ∀ i b, γ i = some b → γ' i = some b
  zed : ∀ b, Z b → Z' b
  size : w.heap.size ≤ w'.heap.size
  keep : ∀ b, b < w.heap.size → (∀ i, nd i → γ i ≠ some b) → w'.heap[b]? = w.heap[b]?
  shape : ∀ b, b < w.heap.size → w'.shape? b = w.shape? b
  gnew : ∀ i b, γ' i = some b → γ i = some b ∨ w.heap.size ≤ b ∨ ∃ j, nd j ∧ γ j = some b
  znew : ∀ b, Z' b → Z b ∨ w.heap.size ≤ b ∨ ∃ i, nd i ∧ γ i = some b
  tape : w'.tape = w.tape
  os : w'.os = w.os
  output : w'.output = w.output

end Go.Sx

namespace Go.Sx

theorem heap_alloc_old (w : World) (o : Obj) (i : Nat) (h : i < w.heap.size) : (w.alloc o).heap[i]? = w.heap[i]? := by
  simp only [World.alloc]
  rw [Array.getElem?_push_lt h]
  simp [h]

theorem heap_alloc_new (w : World) (o : Obj) : (w.alloc o).heap[w.heap.size]? = some o := by
  simp only [World.alloc]; simp

/-! ## worlds and satisfaction -/

def upd (γ : Gam) (i b : Nat) : Gam := fun j => if j = i then some b else γ j

theorem Stp.refl (Z : Nat → Prop) (γ : Gam) (w : World) (nd : Nat → Prop) : Stp Z γ w nd Z γ w :=
  ⟨fun _ _ h => h, fun _ h => h, Nat.le_refl _, fun _ _ _ => rfl, fun _ _ => rfl, fun _ _ h => .inl h, fun _ h => .inl h, rfl, rfl, rfl⟩

theorem shape_of_block {w w' : World} {b : Nat} (h : w'.heap[b]? = w.heap[b]?) : w'.shape? b = w.shape? b := by simp only [World.shape?, h]

theorem shape_alloc_old (w : World) (o : Obj) (b : Nat) (h : b < w.heap.size) : (w.alloc o).shape? b = w.shape? b := shape_of_block (heap_alloc_old w o b h)

theorem Stp.alloc (Z : Nat → Prop) (γ : Gam) (w : World) (nd : Nat → Prop) (o : Obj) (i : Nat) (hi : γ i = none) : Stp Z γ w nd Z (upd γ i w.heap.size) (w.alloc o) :=
  ⟨fun j b h => by unfold upd; split <;> simp_all, fun _ h => h, by simp, fun b hb _ => heap_alloc_old w o b hb, fun b hb => shape_alloc_old w o b hb, fun j b h => by
    unfold upd at h; split at h
    · cases h; exact .inr (.inl (Nat.le_refl _))
    · exact .inl h, fun _ h => .inl h, rfl, rfl, rfl⟩

theorem Sat.fresh_gam {Z γ H w} (h : Sat Z γ H w) {i : Nat} (hi : H.get i = none) : γ i = none := h.dom i hi

theorem VRel.alloc {Z γ w a v} (h : VRel Z w γ a v) (hr : ∀ i b, γ i = some b → b < w.heap.size) (hz : ∀ b, Z b → b < w.heap.size) (o : Obj) {i : Nat} (hi : γ i = none) :
    VRel Z (w.alloc o) (upd γ i w.heap.size) a v :=
  h.mono (fun b hb => ⟨hb, heap_alloc_old w o b (hz b hb)⟩) (fun j b hj => by unfold upd; split <;> simp_all) (fun j b hj => shape_alloc_old w o b (hr j b hj))

theorem Sat.new {Z γ H w} (h : Sat Z γ H w) {i : Nat} (hi : H.get i = none) (o : Obj) (ch : Chunk)
    (hc : CRel Z (w.alloc o) (upd γ i w.heap.size) w.heap.size ch) : Sat Z (upd γ i w.heap.size) (H.put i ch) (w.alloc o) := by
  have hg := h.dom i hi
  refine ⟨?_, ?_, ?_, ?_, ?_⟩
  · intro j cj hj hl
    rw [Tr.get_put] at hj
    by_cases e : j = i
    · subst e
      rw [if_pos rfl] at hj; cases hj
      exact ⟨w.heap.size, by simp [upd], fun hz => absurd (h.zrng _ hz) (by omega), hc⟩
    · rw [if_neg e] at hj
      obtain ⟨b, hb, hz, hcr⟩ := h.own j cj hj hl
      exact ⟨b, by simp [upd, e, hb], hz, hcr.mono (heap_alloc_old w o b (h.rng j b hb)) (fun b hb => ⟨hb, heap_alloc_old w o b (h.zrng b hb)⟩)
        (fun j b hj => by unfold upd; split <;> simp_all) (fun j b hj => shape_alloc_old w o b (h.rng j b hj))⟩
  · intro j k cj ck b hj hlj hk hlk hgj hgk
    rw [Tr.get_put] at hj hk
    by_cases ej : j = i <;> by_cases ek : k = i
    · omega
    · subst ej; simp [upd, ek] at hgj hgk; exact absurd (h.rng _ _ hgk) (by omega)
    · subst ek; simp [upd, ej] at hgj hgk; exact absurd (h.rng _ _ hgj) (by omega)
    · rw [if_neg ej] at hj; rw [if_neg ek] at hk; simp [upd, ej] at hgj; simp [upd, ek] at hgk
      exact h.inj j k cj ck b hj hlj hk hlk hgj hgk
  · intro j b hj
    unfold upd at hj; split at hj
    · cases hj; simp
    · have := h.rng j b hj; simp; omega
  · intro b hb; have := h.zrng b hb; simp; omega
  · intro j hj
    rw [Tr.get_put] at hj
    by_cases e : j = i
    · simp [e] at hj
    · rw [if_neg e] at hj; simp [upd, e, h.dom j hj]

/-- One block of ours turns; it keeps its size and type. -/
theorem Sat.turn {Z γ H w w'} (h : Sat Z γ H w) {i b : Nat} {c0 ch : Chunk} (hi : H.get i = some c0) (hl : c0.live = true) (hb : γ i = some b)
    (hsz : w'.heap.size = w.heap.size) (ho : ∀ k, k ≠ b → w'.heap[k]? = w.heap[k]?) (hs : ∀ k, w'.shape? k = w.shape? k)
    (hc : CRel Z w' γ b ch) : Sat Z γ (H.put i ch) w' := by
  obtain ⟨b', hb', hz, _⟩ := h.own i c0 hi hl
  rw [hb] at hb'; cases hb'
  refine ⟨?_, ?_, ?_, ?_, ?_⟩
  · intro j cj hj hlj
    rw [Tr.get_put] at hj
    by_cases e : j = i
    · subst e; rw [if_pos rfl] at hj; cases hj; exact ⟨b, hb, hz, hc⟩
    · rw [if_neg e] at hj
      obtain ⟨k, hk, hzk, hck⟩ := h.own j cj hj hlj
      have hne : k ≠ b := fun e' => e (h.inj j i cj c0 b hj hlj hi hl (e' ▸ hk) hb)
      exact ⟨k, hk, hzk, hck.mono (ho k hne) (fun q hq => ⟨hq, ho q (fun e' => hz (e' ▸ hq))⟩) (fun _ _ h => h) (fun _ q _ => hs q)⟩
  · intro j k cj ck q hj hlj hk hlk hgj hgk
    rw [Tr.get_put] at hj hk
    by_cases ej : j = i <;> by_cases ek : k = i
    · omega
    · subst ej; rw [if_neg ek] at hk; exact h.inj j k c0 ck q hi hl hk hlk hgj hgk
    · subst ek; rw [if_neg ej] at hj; exact h.inj j k cj c0 q hj hlj hi hl hgj hgk
    · rw [if_neg ej] at hj; rw [if_neg ek] at hk; exact h.inj j k cj ck q hj hlj hk hlk hgj hgk
  · intro j q hj; rw [hsz]; exact h.rng j q hj
  · intro q hq; rw [hsz]; exact h.zrng q hq
  · intro j hj
    rw [Tr.get_put] at hj
    by_cases e : j = i
    · simp [e] at hj
    · rw [if_neg e] at hj; exact h.dom j hj

/-! ## environment -/
structure Env where
  P : Program
  tt : Tr TypeInfo
  G : List (Nat × List AV)
  /-- types of structs and arrays that may be compared -/
  eqt : List Nat
  /-- the lengths of frozen slices are written out -/
  lit : Bool

structure Env.Ok (E : Env) : Prop where
  info : ∀ t i, E.tt.get t = some i → E.P.info? t = some i
  mixed : E.P.follows .mixedOrders = true
  stood : ∀ t, t ∈ E.eqt → E.P.stoodInHeld t = false
  guard : ∀ t, t ∈ E.eqt → E.P.eqGuardType E.P.depth t = false

def Env.und (E : Env) (t : TypeId) : Option TypeDesc :=
  match E.tt.get t with
  | none => none
  | some i => match i.desc with
    | .named _ u => match E.tt.get u with
      | some j => some j.desc
      | none => none
    | d => some d

theorem Env.und_ok {E : Env} (h : E.Ok) {t : TypeId} {d : TypeDesc} (hd : E.und t = some d) : E.P.underlying t = some d := by
  unfold Env.und at hd
  split at hd
  · cases hd
  · rename_i i hi
    have h1 := h.info t i hi
    unfold Program.underlying
    rw [h1]
    obtain ⟨desc, _⟩ := i
    cases desc <;> simp only at hd ⊢ <;> try exact hd
    rename_i nm u
    split at hd
    · rename_i j hj
      rw [h.info u j hj]; simpa using hd
    · cases hd

theorem run_und {E : Env} (h : E.Ok) {t : TypeId} {d : TypeDesc} (hd : E.und t = some d) (w : World) : (underlying t).run E.P w = .ok d w := by
  simp [underlying, E.und_ok h hd]

theorem run_info {E : Env} (h : E.Ok) {t : TypeId} {i : TypeInfo} (hd : E.tt.get t = some i) (w : World) : (typeInfo t).run E.P w = .ok i w := by
  simp [typeInfo, h.info t i hd]

theorem run_size {E : Env} (h : E.Ok) {t : TypeId} {i : TypeInfo} (hd : E.tt.get t = some i) (w : World) : (sizeOf t).run E.P w = .ok i.size w := by
  simp [sizeOf, run_info h hd]

/-- Is a type's value an aggregate? (none: not known) -/
def Env.agg (E : Env) (t : TypeId) : Option Bool :=
  match E.und t with
  | some (.struct _) => some true
  | some (.array _ _) => some true
  | some _ => some false
  | none => none

theorem run_agg {E : Env} (h : E.Ok) {t : TypeId} {b : Bool} (hd : E.agg t = some b) (w : World) : (isAgg t).run E.P w = .ok b w := by
  unfold Env.agg at hd
  split at hd <;> rename_i hu <;> try (cases hd; done)
  · cases hd; simp [isAgg, run_und h hu]
  · cases hd; simp [isAgg, run_und h hu]
  · cases hd
    rename_i d h1 h2
    simp only [isAgg, Sem.run_bind, run_und h hu, Result.andThen_ok]
    cases d <;> first | rfl | exact absurd rfl (h1 _) | exact absurd rfl (h2 _ _)

/-! ## what an operation gives -/
def bcase (b : Bool) (x y : Prop) : Prop :=
  match b with
  | true => x
  | false => y

theorem bcase_iff {b : Bool} {x y : Prop} : bcase b x y ↔ (b = true → x) ∧ (b = false → y) := by cases b <;> simp [bcase]

abbrev Asked (c : Option Bool) : Prop :=
  match c with
  | none => True
  | some p => p = true

structure Out where
  c : Option Bool
  nd : List Nat
  r : AV
  wr : List (Nat × Chunk)

def room : Nat := 16

/-- All functions; in a round, or in none. -/
abbrev FR (R : Option Nat) : Fence := { Fence.wide with round := R }

theorem room_FR (R : Option Nat) (n : Nat) : (FR R).room n := fun _ h => by simp [Fence.wide] at h

theorem semAt_run {P : Program} {o : Oper} {ρ : Operand → Value} {w w' : World} {x : Next} (h : (execOp ρ o).run P w = .ok x w') (hx : ∀ d, x ≠ .defer d) (R : Option Nat) : (o.semAt R ρ).run P w = .ok x w' := by
  rw [Oper.semAt_eq]
  · exact h
  · intro c hc
    simp only [execOp, hc, Sem.run_bind] at h
    cases hr : (resolve ρ c o.type).run P w with
    | ok d w1 => rw [hr] at h; simp only [Result.andThen_ok, Sem.run_pure] at h; cases h; exact hx _ rfl
    | halt e w1 => rw [hr] at h; cases h

theorem owp_value {P : Program} {o : Oper} {a : Act} {w w' : World} {v : Value} {next : Act → World → Prop} {Q : Exit → Act → World → Prop} (h : (execOp a.eval o).run P w = .ok (.value v) w') (hk : next (a.put o.dst v) w') (R : Option Nat) :
    o.wpIn (FR R) 0 P a w next Q := ⟨fun _ _ => trivial, by
  show o.uponIn _ _ _ _ _ _ ((o.semAt R a.eval).run P w)
  rw [semAt_run h (fun d hd => by cases hd)]; exact hk⟩

theorem owp_skip {P : Program} {o : Oper} {a : Act} {w w' : World} {next : Act → World → Prop} {Q : Exit → Act → World → Prop} (h : (execOp a.eval o).run P w = .ok .skip w') (hk : next (a.put o.dst undef) w') (R : Option Nat) :
    o.wpIn (FR R) 0 P a w next Q := ⟨fun _ _ => trivial, by
  show o.uponIn _ _ _ _ _ _ ((o.semAt R a.eval).run P w)
  rw [semAt_run h (fun d hd => by cases hd)]; exact hk⟩

theorem callsR {P : Program} {f : FuncId} {args : Array Value} {w : World} {K : Ending → World → Prop} (h : Calls P f args w K) (R : Option Nat) (n : Nat) : CallsIn (FR R) n P f args w K :=
  (callsIn_wide (n := n)).2 h

theorem owp_enter {P : Program} {o : Oper} {a : Act} {w w' : World} {f : FuncId} {args : Array Value} {next : Act → World → Prop} {Q : Exit → Act → World → Prop} (h : (execOp a.eval o).run P w = .ok (.enter f args) w')
    (hk : Calls P f args w' fun e w2 => ∃ v, e = .returned v ∧ next (a.put o.dst v) w2) (R : Option Nat) :
    o.wpIn (FR R) 0 P a w next Q := ⟨fun _ _ => trivial, by
  show o.uponIn _ _ _ _ _ _ ((o.semAt R a.eval).run P w)
  rw [semAt_run h (fun d hd => by cases hd), Oper.uponIn_enter]
  refine ⟨fun h => by simp [Fence.wide] at h, (callsR hk R 0).mono ?_⟩
  rintro e w2 ⟨v, rfl, h⟩
  exact h⟩

/-- The operation, in whatever world fits, gives this. -/
def Valid (P : Program) (o : Oper) (ρ : Operand → AV) (H : Heap) (nid : Nat) (u : Out) : Prop :=
  ∀ (R : Option Nat) (Z : Nat → Prop) (γ : Gam) (H' : Heap) (w : World) (a : Act) (next : Act → World → Prop) (Q : Exit → Act → World → Prop),
    Sat Z γ H' w → (∀ x, VRel Z w γ (ρ x) (a.eval x)) → (∀ i, i ∈ u.nd → H'.get i = H.get i) → (∀ i, nid ≤ i → i < nid + room → H'.get i = none) →
    (∀ v w' Z' γ', VRel Z' w' γ' u.r v → Sat Z' γ' (H'.puts u.wr) w' → Stp Z γ w (· ∈ u.nd) Z' γ' w' →
      (∀ i, γ i = none → γ' i ≠ none → nid ≤ i ∧ i < nid + room) → next (a.put o.dst v) w') →
    o.wpIn (FR R) 0 P a w next Q

theorem valid_pure {P : Program} {o : Oper} {ρ : Operand → AV} {H : Heap} {nid : Nat} {u : Out} (hw : u.wr = [])
    (h : ∀ Z γ H' w (a : Act), Sat Z γ H' w → (∀ x, VRel Z w γ (ρ x) (a.eval x)) → (∀ i, i ∈ u.nd → H'.get i = H.get i) →
      ∃ v, VRel Z w γ u.r v ∧ (execOp a.eval o).run P w = .ok (.value v) w) : Valid P o ρ H nid u := by
  intro R Z γ H' w a next Q hs hx hnd hf hk
  obtain ⟨v, hv, hr⟩ := h Z γ H' w a hs hx hnd
  refine owp_value hr ?_ R
  exact hk v w Z γ hv (by rw [hw]; exact hs) (Stp.refl _ _ _ _) (fun i h1 h2 => absurd h1 h2)

theorem valid_new {P : Program} {o : Oper} {ρ : Operand → AV} {H : Heap} {nid : Nat} {u : Out} {ch : Chunk} (hw : u.wr = [(nid, ch)])
    (h : ∀ Z γ H' w (a : Act), Sat Z γ H' w → (∀ x, VRel Z w γ (ρ x) (a.eval x)) → (∀ i, i ∈ u.nd → H'.get i = H.get i) → γ nid = none →
      ∃ v ob, CRel Z (w.alloc ob) (upd γ nid w.heap.size) w.heap.size ch ∧ VRel Z (w.alloc ob) (upd γ nid w.heap.size) u.r v ∧
        (execOp a.eval o).run P w = .ok (.value v) (w.alloc ob)) : Valid P o ρ H nid u := by
  intro R Z γ H' w a next Q hs hx hnd hf hk
  have hn : H'.get nid = none := hf nid (Nat.le_refl _) (by unfold room; omega)
  obtain ⟨v, ob, hc, hv, hr⟩ := h Z γ H' w a hs hx hnd (hs.dom _ hn)
  refine owp_value hr ?_ R
  refine hk v _ Z _ hv (by rw [hw]; exact hs.new hn ob ch hc) (Stp.alloc _ _ _ _ _ _ (hs.dom _ hn)) (fun i h1 h2 => ?_)
  by_cases e : i = nid
  · subst e; exact ⟨Nat.le_refl _, by unfold room; omega⟩
  · simp [upd, e] at h2; exact absurd h1 h2

theorem Stp.turn {Z : Nat → Prop} {γ : Gam} {w w' : World} {nd : Nat → Prop} {i b : Nat} (hi : nd i) (hb : γ i = some b) (hsz : w'.heap.size = w.heap.size)
    (ho : ∀ k, k ≠ b → w'.heap[k]? = w.heap[k]?) (hs : ∀ k, w'.shape? k = w.shape? k) (ht : w'.tape = w.tape) (hos : w'.os = w.os) (hout : w'.output = w.output) : Stp Z γ w nd Z γ w' :=
  ⟨fun _ _ h => h, fun _ h => h, Nat.le_of_eq hsz.symm, fun k _ hk => ho k (fun e => hk i hi (e ▸ hb)), fun k _ => hs k, fun _ _ h => .inl h, fun _ h => .inl h, ht, hos, hout⟩

/-- A block of ours turns. -/
theorem valid_turn {P : Program} {o : Oper} {ρ : Operand → AV} {H : Heap} {nid : Nat} {u : Out} {id : Nat} {c0 ch : Chunk} (hw : u.wr = [(id, ch)]) (hnd : id ∈ u.nd) (hr : u.r = .any)
    (hid : H.get id = some c0) (hl : c0.live = true)
    (h : ∀ Z γ H' w (a : Act) b, Sat Z γ H' w → (∀ x, VRel Z w γ (ρ x) (a.eval x)) → (∀ i, i ∈ u.nd → H'.get i = H.get i) → γ id = some b → ¬ Z b → CRel Z w γ b c0 →
      ∃ w', w'.heap.size = w.heap.size ∧ (∀ k, k ≠ b → w'.heap[k]? = w.heap[k]?) ∧ (∀ k, w'.shape? k = w.shape? k) ∧ w'.tape = w.tape ∧ w'.os = w.os ∧ w'.output = w.output ∧
        CRel Z w' γ b ch ∧ (execOp a.eval o).run P w = .ok .skip w') : Valid P o ρ H nid u := by
  intro R Z γ H' w a next Q hs hx hn hf hk
  have hid' : H'.get id = some c0 := (hn id hnd).trans hid
  obtain ⟨b, hb, hz, hc⟩ := hs.own id c0 hid' hl
  obtain ⟨w', h1, h2, h3, h4, h5, h6, h7, h8⟩ := h Z γ H' w a b hs hx hn hb hz hc
  refine owp_skip h8 ?_ R
  exact hk undef w' Z γ (by rw [hr]; exact .any) (by rw [hw]; exact hs.turn hid' hl hb h1 h2 h3 h7) (Stp.turn hnd hb h1 h2 h3 h4 h5 h6) (fun i h1 h2 => absurd h1 h2)

end Go.Sx

namespace Go.Sx

/-! ## operands -/
def ofCell : Value → AV
  | .bool b => .bool b
  | .int k n => .int true k n
  | .string s => .str s
  | .pointer none => .nilp
  | .slice none 0 0 => .nils
  | .map none => .nilm
  | .nilFunc => .nilfn
  | .nilIface => .nilif
  | v => .raw v

def ofVal : Value → AV
  | .agg cs => .agg (cs.toList.map ofCell)
  | v => ofCell v

theorem ofCell_ok (Z w γ v) : VRel Z w γ (ofCell v) v := by
  unfold ofCell
  split <;> first | exact .bool | exact .int | exact .str | exact .nilp | exact .nils | exact .nilm | exact .nilfn | exact .nilif | exact .raw

theorem ofVal_ok (Z w γ v) : VRel Z w γ (ofVal v) v := by
  unfold ofVal
  split
  · refine .agg (by simp) fun i c v h1 h2 => ?_
    simp only [List.getElem?_map, Option.map_eq_some_iff, Array.getElem?_toList] at h1
    obtain ⟨x, hx, rfl⟩ := h1
    rw [hx] at h2; cases h2
    exact ofCell_ok ..
  · exact ofCell_ok ..

def lookG : List (Nat × List AV) → Nat → Option (List AV)
  | [], _ => none
  | (g, cs) :: l, i => match Nat.beq g i with
    | true => some cs
    | false => lookG l i

def ev (G : List (Nat × List AV)) (t : Tr AV) : Operand → AV
  | .tmp i => match t.get i with
    | some a => a
    | none => .any
  | .const v => ofVal v
  | .global g => match lookG G g with
    | some cs => .iref cs
    | none => .raw (.pointer (some ⟨g, 0, none⟩))
  | .func f => .fn (.func f) [] []

/-! ## lists of cells -/
def cut (off m : Nat) (cs : List AV) : Option (List AV) :=
  match Nat.ble (off + m) cs.length with
  | true => some ((cs.drop off).take m)
  | false => none

theorem cut_spec {off m : Nat} {cs l : List AV} (h : cut off m cs = some l) : off + m ≤ cs.length ∧ l.length = m ∧ ∀ i, i < m → l[i]? = cs[off + i]? := by
  unfold cut at h
  split at h
  · rename_i hb
    cases h
    have hb := Nat.le_of_ble_eq_true hb
    refine ⟨hb, by simp; omega, fun i hi => ?_⟩
    rw [List.getElem?_take_of_lt hi, List.getElem?_drop]
  · cases h

def mk (ag : Bool) (l : List AV) : Option AV :=
  match ag with
  | true => some (.agg l)
  | false => match l with
    | [x] => some x
    | _ => none

theorem add_zero' (b o : Nat) (j : Nat) : (⟨b, o, none⟩ : Addr).add j = ⟨b, o + j, none⟩ := by unfold Addr.add; split <;> simp_all

theorem add_spot {a : Addr} (h : a.spot = none) (j : Nat) : a.add j = ⟨a.block, a.off + j, none⟩ := by
  obtain ⟨b, o, s⟩ := a; cases h; exact add_zero' b o j

theorem run_loadVar {E : Env} (ok : E.Ok) {t : TypeId} {ag : Bool} {i : TypeInfo} (hag : E.agg t = some ag) (hi : E.tt.get t = some i) (w : World) (a : Addr) (vs : List Value)
    (hlen : vs.length = i.size) (hc : ∀ (j : Nat) v, vs[j]? = some v → w.cell? (a.add j) = some v) :
    (ag = true → (loadVar t a).run E.P w = .ok (.agg vs.toArray) w) ∧ (∀ x, vs = [x] → ag = false → (loadVar t a).run E.P w = .ok x w) := by
  have hl := run_loadCells_list (P := E.P) w a vs hc
  constructor
  · intro h; subst h
    simp [loadVar, run_agg ok hag, run_size ok hi, ← hlen, hl]
  · intro x hx h; subst h; subst hx
    have := hc 0 x rfl
    have ha : a.add 0 = a := by unfold Addr.add; simp
    rw [ha] at this
    simp [loadVar, run_agg ok hag, this]

/-- 'load' off whatever address: what is needed is a list of values that lie there. -/
theorem load_ok {E : Env} (ok : E.Ok) {t : TypeId} {ag : Bool} {i : TypeInfo} (hag : E.agg t = some ag) (hi : E.tt.get t = some i) {l : List AV} {r : AV} (hl : l.length = i.size) (hmk : mk ag l = some r)
    {Z γ w} (a : Addr) (vs : List Value) (hvs : vs.length = l.length) (hc : ∀ (j : Nat) v, vs[j]? = some v → w.cell? (a.add j) = some v)
    (hv : ∀ (j : Nat) c v, l[j]? = some c → vs[j]? = some v → VRel Z w γ c v) : ∃ v, VRel Z w γ r v ∧ (loadVar t a).run E.P w = .ok v w := by
  obtain ⟨h1, h2⟩ := run_loadVar ok hag hi w a vs (hvs.trans hl) hc
  cases ag with
  | true =>
    simp only [mk, Option.some.injEq] at hmk; subst hmk
    exact ⟨_, .agg (by simp [hvs]) (fun j c v hj hk => hv j c v hj (by simpa using hk)), h1 rfl⟩
  | false =>
    unfold mk at hmk
    simp only at hmk
    split at hmk
    · cases hmk
      match vs, hvs with
      | [x], _ => exact ⟨x, hv 0 _ _ rfl rfl, h2 x rfl rfl⟩
    · cases hmk

/-! ### splicing -/
def splice (off : Nat) (l cs : List AV) : List AV := cs.take off ++ (l ++ cs.drop (off + l.length))

theorem splice_length {off : Nat} {l cs : List AV} (h : off + l.length ≤ cs.length) : (splice off l cs).length = cs.length := by
  unfold splice; simp; omega

theorem splice_get {off : Nat} {l cs : List AV} (h : off + l.length ≤ cs.length) (j : Nat) :
    (splice off l cs)[j]? = if off ≤ j ∧ j < off + l.length then l[j - off]? else cs[j]? := by
  unfold splice
  by_cases h1 : j < off
  · rw [List.getElem?_append_left (by simp; omega), List.getElem?_take_of_lt h1, if_neg (by omega)]
  · rw [List.getElem?_append_right (by simp; omega)]
    have : (cs.take off).length = off := by simp; omega
    rw [this]
    by_cases h2 : j < off + l.length
    · rw [List.getElem?_append_left (by omega), if_pos (by omega)]
    · rw [List.getElem?_append_right (by omega), List.getElem?_drop, if_neg (by omega)]
      congr 1; omega

def AV.flat : AV → Option (List AV)
  | .agg cs => some cs
  | a => match a.one with
    | true => some [a]
    | false => none

theorem flat_rel {Z w γ a v l} (h : VRel Z w γ a v) (hf : a.flat = some l) : v.cells.size = l.length ∧ ∀ (j : Nat) c x, l[j]? = some c → v.cells[j]? = some x → VRel Z w γ c x := by
  cases h
  case agg hs h => simp only [AV.flat] at hf; cases hf; exact ⟨hs, h⟩
  case raw =>
    simp only [AV.flat, AV.one] at hf
    split at hf
    · rename_i ho
      cases hf
      cases v <;> first | (simp [Value.oneCell'] at ho; done) | exact ⟨rfl, fun j c x h1 h2 => by
        cases j with
        | zero => simp at h1; simp [Value.cells] at h2; subst h1; subst h2; exact .raw
        | succ j => simp at h1⟩
    · cases hf
  all_goals
    simp only [AV.flat, AV.one] at hf
    first
      | cases hf; done
      | (cases hf
         refine ⟨rfl, fun j c x h1 h2 => ?_⟩
         cases j with
         | zero =>
           simp at h1; simp [Value.cells] at h2; subst h1; subst h2
           first | assumption | constructor <;> assumption
         | succ j => simp at h1)

end Go.Sx
