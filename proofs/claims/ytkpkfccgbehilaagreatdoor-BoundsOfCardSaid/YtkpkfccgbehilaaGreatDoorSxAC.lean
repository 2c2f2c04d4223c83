/- Part of an own symbolic executor for the model's code, proved sound, and of the proof of one statement (see the text of the claimed theorem). -/
import Derived.Test.YtkpkfccgbehilaaGreatDoorSxAB
namespace Go.Sx

/-! # Values under other names -/
def mapA (g : AV → AV) : List AV → List AV
  | [] => []
  | a :: l => g a :: mapA g l

theorem mapA_length (g : AV → AV) : ∀ l, (mapA g l).length = l.length
  | [] => rfl
  | _ :: l => by simp [mapA, mapA_length g l]

theorem mapA_get (g : AV → AV) : ∀ (l : List AV) (i : Nat) (c : AV), (mapA g l)[i]? = some c → ∃ a, l[i]? = some a ∧ c = g a
  | [], i, c, h => by simp [mapA] at h
  | a :: l, 0, c, h => by simp [mapA] at h; exact ⟨a, rfl, h.symm⟩
  | a :: l, i + 1, c, h => by
    simp [mapA] at h
    obtain ⟨x, h1, h2⟩ := mapA_get g l i c h
    exact ⟨x, by simpa using h1, h2⟩

/-- A value, its ids by other names; 'fl': what leads to memory that stays is let go. -/
def ren (ρ : Nat → Option Nat) (fl : Bool) : Nat → AV → AV
  | 0, _ => .any
  | n + 1, a => match a with
    | .agg cs => .agg (mapA (ren ρ fl n) cs)
    | .tup cs => .tup (mapA (ren ρ fl n) cs)
    | .iface t v => .iface t (ren ρ fl n v)
    | .fn f first caps => .fn f (mapA (ren ρ fl n) first) (mapA (ren ρ fl n) caps)
    | .ptr id off => match ρ id with
      | some j => .ptr j off
      | none => .any
    | .pts id off s m i j => match ρ id with
      | some q => .pts q off s m i j
      | none => .any
    | .rptr id sz i j => match ρ id with
      | some q => .rptr q sz i j
      | none => .any
    | .sl id base start sz m cap => match ρ id with
      | some q => .sl q base start sz m cap
      | none => .any
    | .mp id => match ρ id with
      | some q => .mp q
      | none => .any
    | .yld id => match ρ id with
      | some q => .yld q
      | none => .any
    | .iref cs => match fl with
      | true => .any
      | false => .iref cs
    | .isl sz m cap f => match fl with
      | true => .any
      | false => .isl sz m cap f
    | a => a

theorem ren_rel {Z Z' : Nat → Prop} {w : World} {γ γ' : Gam} {ρ : Nat → Option Nat} {fl : Bool} (hρ : ∀ i j, ρ i = some j → γ' j = γ i) (hZ : fl = false → ∀ b, Z b → Z' b) : ∀ (n : Nat) {a : AV} {v : Value},
    VRel Z w γ a v → VRel Z' w γ' (ren ρ fl n a) v
  | 0, _, _, _ => .any
  | n + 1, a, v, h => by
    cases h
    case any => exact .any
    case bool => exact .bool
    case int => exact .int
    case str => exact .str
    case agg cs vs h1 h2 =>
      exact .agg (by rw [mapA_length]; exact h1) fun i c u hc hu => by
        obtain ⟨x, hx, rfl⟩ := mapA_get _ _ _ _ hc
        exact ren_rel hρ hZ n (h2 i x u hx hu)
    case tup cs vs h1 h2 =>
      exact .tup (by rw [mapA_length]; exact h1) fun i c u hc hu => by
        obtain ⟨x, hx, rfl⟩ := mapA_get _ _ _ _ hc
        exact ren_rel hρ hZ n (h2 i x u hx hu)
    case nilp => exact .nilp
    case ptr id off b hb =>
      simp only [ren]; split
      · rename_i j hj; exact .ptr ((hρ _ _ hj).trans hb)
      · exact .any
    case pts id off s m i j b hb =>
      simp only [ren]; split
      · rename_i q hj; exact .pts ((hρ _ _ hj).trans hb)
      · exact .any
    case rptr id sz i j b hb =>
      simp only [ren]; split
      · rename_i q hj; exact .rptr ((hρ _ _ hj).trans hb)
      · exact .any
    case iref cs a vs h0 h1 h2 h3 =>
      simp only [ren]; split
      · exact .any
      · have hz := hZ rfl
        exact .iref (hz _ (by assumption)) (by assumption) (by assumption) fun i c hc => VRel.mono (by first | exact h0 i c hc | exact h3 i c hc) (fun b hb => ⟨hz b hb, rfl⟩) (fun _ _ h => h) (fun _ _ _ => rfl)
    case nils => exact .nils
    case sl id base start sz m cap b c hb h1 h2 h3 =>
      simp only [ren]; split
      · rename_i q hj; exact .sl ((hρ _ _ hj).trans (by assumption)) (by assumption) (by assumption) (by assumption)
      · exact .any
    case sl0 id base start sz m cap a h1 h2 =>
      simp only [ren]; split
      · exact .sl0 (by assumption) (by assumption)
      · exact .any
    case isl sz m cap f a c vs h1 h2 h3 h4 h5 h6 =>
      simp only [ren]; split
      · exact .any
      · have hz := hZ rfl
        have up : ∀ {c u}, VRel Z w noG c u → VRel Z' w noG c u := fun h => VRel.mono h (fun b hb => ⟨hz b hb, rfl⟩) (fun _ _ h => h) (fun _ _ _ => rfl)
        refine .isl (vs := vs) (hz _ (by assumption)) (by assumption) (by assumption) (by assumption) (by assumption) (fun i j x hi hx => up ?_)
        first | exact h6 i j x hi hx | exact h1 i j x hi hx
    case isl0 sz m cap f a c h1 h2 =>
      simp only [ren]; split
      · exact .any
      · exact .isl0 (by assumption) (by assumption)
    case fn f first caps fs vs h1 h2 h3 h4 =>
      refine .fn (by rw [mapA_length]; assumption) (by rw [mapA_length]; assumption) (fun i c u hc hu => ?_) (fun i c u hc hu => ?_)
      · obtain ⟨x, hx, rfl⟩ := mapA_get _ _ _ _ hc
        refine ren_rel hρ hZ n ?_
        first | exact h3 i x u hx hu | exact h1 i x u hx hu
      · obtain ⟨x, hx, rfl⟩ := mapA_get _ _ _ _ hc
        refine ren_rel hρ hZ n ?_
        first | exact h4 i x u hx hu | exact h2 i x u hx hu
    case nilfn => exact .nilfn
    case iface t x y h1 => exact .iface (ren_rel hρ hZ n h1)
    case nilif => exact .nilif
    case mp id b hb =>
      simp only [ren]; split
      · rename_i q hj; exact .mp ((hρ _ _ hj).trans hb)
      · exact .any
    case nilm => exact .nilm
    case raw => exact .raw
    case yld id b hb =>
      simp only [ren]; split
      · rename_i q hj; exact .yld ((hρ _ _ hj).trans hb)
      · exact .any

/-- how deep values are gone through -/
def deep : Nat := 12

def renC (ρ : Nat → Option Nat) (fl : Bool) : Chunk → Chunk
  | .cells ty cs => .cells ty (mapA (ren ρ fl deep) cs)
  | .row ty sz n f => .row ty sz n (fun i => mapA (ren ρ fl deep) (f i))
  | .obj R => .obj R
  | .gone => .gone
  | .defr => .defr
  | .lp _ _ _ _ _ _ _ => .gone


theorem renC_rel {Z Z' : Nat → Prop} {w : World} {γ γ' : Gam} {ρ : Nat → Option Nat} {fl : Bool} (hρ : ∀ i j, ρ i = some j → γ' j = γ i) (hZ : fl = false → ∀ b, Z b → Z' b) {b : Nat} {ch : Chunk} (h : CRel Z w γ b ch) :
    CRel Z' w γ' b (renC ρ fl ch) := by
  cases ch with
  | cells ty cs =>
    obtain ⟨arr, h1, h2, h3⟩ := h
    exact ⟨arr, h1, by rw [mapA_length]; exact h2, fun i c v hc hv => by
      obtain ⟨x, hx, rfl⟩ := mapA_get _ _ _ _ hc
      exact ren_rel hρ hZ _ (h3 i x v hx hv)⟩
  | row ty sz n f =>
    obtain ⟨arr, h1, h2, h3⟩ := h
    exact ⟨arr, h1, h2, fun i j x v a b c d => by
      obtain ⟨y, hy, rfl⟩ := mapA_get _ _ _ _ c
      exact ren_rel hρ hZ _ (h3 i j y v a b hy d)⟩
  | obj R => exact h
  | gone => trivial
  | defr => exact h
  | lp => trivial

/-! ## which ids are led to -/
def insId (i : Nat) (l : List Nat) : List Nat :=
  match l.elem i with
  | true => l
  | false => l ++ [i]

def idsL (g : AV → List Nat → List Nat) : List AV → List Nat → List Nat
  | [], acc => acc
  | a :: l, acc => idsL g l (g a acc)

def ids : Nat → AV → List Nat → List Nat
  | 0, _, acc => acc
  | n + 1, a, acc => match a with
    | .agg cs => idsL (ids n) cs acc
    | .tup cs => idsL (ids n) cs acc
    | .iface _ v => ids n v acc
    | .fn _ first caps => idsL (ids n) caps (idsL (ids n) first acc)
    | .ptr id _ => insId id acc
    | .pts id _ _ _ _ _ => insId id acc
    | .rptr id _ _ _ => insId id acc
    | .sl id _ _ _ _ _ => insId id acc
    | .mp id => insId id acc
    | _ => acc

def idsC (c : Option Chunk) (acc : List Nat) : List Nat :=
  match c with
  | some (.cells _ cs) => idsL (ids deep) cs acc
  | _ => acc

/-- All that is led to from the ids of 'acc' from the k-th on. -/
def reach (H : Heap) : Nat → Nat → List Nat → List Nat
  | 0, _, acc => acc
  | f + 1, k, acc => match acc[k]? with
    | none => acc
    | some i => reach H f (k + 1) (idsC (H.get i) acc)

def nodupB : List Nat → Bool
  | [] => true
  | a :: l => match l.elem a with
    | true => false
    | false => nodupB l

theorem nodupB_spec : ∀ {l : List Nat}, nodupB l = true → ∀ (i j : Nat) (x : Nat), l[i]? = some x → l[j]? = some x → i = j
  | [], _, i, j, x, h, _ => by simp at h
  | a :: l, h, i, j, x, hi, hj => by
    unfold nodupB at h
    split at h
    · cases h
    · rename_i hel
      have hna : ∀ (k : Nat), l[k]? ≠ some a := fun k hk => by
        have := List.mem_of_getElem? hk
        simp [this] at hel
      cases i with
      | zero =>
        cases j with
        | zero => rfl
        | succ j => simp at hi hj; subst hi; exact absurd hj (hna j)
      | succ i =>
        cases j with
        | zero => simp at hi hj; subst hj; exact absurd hi (hna i)
        | succ j => simp at hi hj; rw [nodupB_spec h i j x hi hj]

/-- a list of ids as a table: id to place (from 'b' on) -/
def tabFrom : Nat → List Nat → Tr Nat → Tr Nat
  | _, [], t => t
  | k, i :: l, t => tabFrom (k + 1) l (t.put i k)

theorem tabFrom_get : ∀ (l : List Nat) (k : Nat) (t : Tr Nat) (i j : Nat), (tabFrom k l t).get i = some j → t.get i = some j ∨ ∃ q, l[q]? = some i ∧ j = k + q
  | [], k, t, i, j, h => .inl h
  | a :: l, k, t, i, j, h => by
    rw [tabFrom] at h
    rcases tabFrom_get l (k + 1) _ i j h with h | ⟨q, h1, h2⟩
    · rw [Tr.get_put] at h
      split at h
      · rename_i e; cases h; exact .inr ⟨0, by simp [e], rfl⟩
      · exact .inl h
    · exact .inr ⟨q + 1, by simpa using h1, by omega⟩

/-- the live chunks of these ids -/
def chunksOf (H : Heap) : List Nat → Option (List Chunk)
  | [] => some []
  | i :: l => match H.get i, chunksOf H l with
    | some ch, some cs => match ch.live with
      | true => some (ch :: cs)
      | false => none
    | _, _ => none

theorem chunksOf_get {H : Heap} : ∀ {l : List Nat} {cs : List Chunk}, chunksOf H l = some cs → cs.length = l.length ∧ ∀ (j i : Nat), l[j]? = some i → ∃ ch, cs[j]? = some ch ∧ H.get i = some ch ∧ ch.live = true
  | [], cs, h => by simp only [chunksOf] at h; cases h; exact ⟨rfl, fun j i h => by simp at h⟩
  | a :: l, cs, h => by
    simp only [chunksOf] at h
    split at h
    · rename_i ch cs' h1 h2
      split at h
      · rename_i hl
        cases h
        obtain ⟨g1, g2⟩ := chunksOf_get h2
        refine ⟨by simp [g1], fun j i hj => ?_⟩
        cases j with
        | zero => simp at hj; subst hj; exact ⟨ch, rfl, h1, hl⟩
        | succ j => obtain ⟨c, e1, e2⟩ := g2 j i (by simpa using hj); exact ⟨c, by simpa using e1, e2⟩
      · cases h
    · cases h

/-- the writes: from an id on -/
def layFrom (ρ : Nat → Option Nat) (fl : Bool) : Nat → List Chunk → List (Nat × Chunk)
  | _, [] => []
  | k, c :: l => (k, renC ρ fl c) :: layFrom ρ fl (k + 1) l

theorem layFrom_mem {ρ fl} : ∀ {l : List Chunk} {k : Nat} {p : Nat × Chunk}, p ∈ layFrom ρ fl k l → k ≤ p.1 ∧ p.1 < k + l.length
  | [], k, p, h => by cases h
  | c :: l, k, p, h => by
    rw [layFrom] at h
    rcases List.mem_cons.1 h with rfl | h
    · simp
    · have := layFrom_mem h; simp; omega

theorem layFrom_get {ρ fl} : ∀ (l : List Chunk) (k : Nat) (H : Heap) (i : Nat), (H.puts (layFrom ρ fl k l)).get i = if k ≤ i ∧ i < k + l.length then (l[i - k]?).map (renC ρ fl) else H.get i
  | [], k, H, i => by simp [layFrom, Tr.puts]; omega
  | c :: l, k, H, i => by
    rw [layFrom, Tr.puts, layFrom_get l (k + 1) _ i, Tr.get_put]
    simp only [List.length_cons]
    by_cases h1 : k + 1 ≤ i ∧ i < k + 1 + l.length
    · rw [if_pos h1, if_pos (by omega)]
      have : i - k = (i - (k + 1)) + 1 := by omega
      rw [this]; simp
    · rw [if_neg h1]
      by_cases e : i = k
      · subst e; rw [if_pos rfl, if_pos (by omega)]; simp
      · rw [if_neg e, if_neg (by omega)]

end Go.Sx

namespace Go.Sx

/-! # A call that only looks at what it is lent -/
/-- A value as a callee may see it who changes nothing: blocks of 'S' stay meanwhile; 'fl': rows of a length that is not written out are gone through. -/
def vav (S : List Nat) (H : Heap) (fl : Bool) : Nat → AV → AV
  | 0, _ => .any
  | n + 1, a => match a with
    | .agg cs => .agg (mapA (vav S H fl n) cs)
    | .tup cs => .tup (mapA (vav S H fl n) cs)
    | .iface t v => .iface t (vav S H fl n v)
    | .fn f first caps => .fn f (mapA (vav S H fl n) first) (mapA (vav S H fl n) caps)
    | .ptr id off => match S.elem id with
      | true => match H.get id with
        | some (.cells _ cs) => .iref (mapA (vav S H fl n) (cs.drop off))
        | _ => .any
      | false => .any
    | .sl id base start sz m cap => match S.elem id with
      | true => match H.get id with
        | some (.cells _ cs) => .isl sz m cap (fun i => ((mapA (vav S H fl n) cs).drop (base + (start + i) * sz)).take sz)
        | some (.row _ sz' _ f) => match fl, Nat.beq sz sz', Nat.beq base 0 with
          | true, true, true => .isl sz m cap (fun i => mapA (vav S H false n) ((f (start + i)).take sz))
          | _, _, _ => .any
        | _ => .any
      | false => .any
    | .pts _ _ _ _ _ _ => .any
    | .rptr _ _ _ _ => .any
    | .mp _ => .any
    | .yld _ => .any
    | a => a

def vokKL (g : AV → Prop → Prop) : List AV → Prop → Prop
  | [], X => X
  | a :: l, X => g a (vokKL g l X)

/-- Do the slices of rows stay within these? Then 'X'. -/
def vokK (H : Heap) : Nat → AV → Prop → Prop
  | 0, _, X => X
  | n + 1, a, X => match a with
    | .agg cs => vokKL (vokK H n) cs X
    | .tup cs => vokKL (vokK H n) cs X
    | .iface _ v => vokK H n v X
    | .fn _ first caps => vokKL (vokK H n) first (vokKL (vokK H n) caps X)
    | .ptr id _ => match H.get id with
      | some (.cells _ cs) => vokKL (vokK H n) cs X
      | _ => X
    | .sl id _ start _ m _ => match H.get id with
      | some (.cells _ cs) => vokKL (vokK H n) cs X
      | some (.row _ _ m' _) => bcase (Nat.ble (start + m) m') X False
      | _ => X
    | _ => X

theorem vokKL_spec {g : AV → Prop → Prop} (hg : ∀ a X, g a X → X) : ∀ {l : List AV} {X : Prop}, vokKL g l X → X ∧ ∀ a, a ∈ l → ∃ Y, g a Y
  | [], X, h => ⟨h, fun a h => by cases h⟩
  | a :: l, X, h => by
    obtain ⟨h1, h2⟩ := vokKL_spec hg (hg _ _ h)
    exact ⟨h1, fun b hb => by
      rcases List.mem_cons.1 hb with rfl | hb
      · exact ⟨_, h⟩
      · exact h2 b hb⟩

theorem vokK_spec {H : Heap} : ∀ (n : Nat) (a : AV) (X : Prop), vokK H n a X → X
  | 0, _, _, h => h
  | n + 1, a, X, h => by
    unfold vokK at h
    have hg := fun a X => vokK_spec (H := H) n a X
    split at h
    · exact (vokKL_spec hg h).1
    · exact (vokKL_spec hg h).1
    · exact vokK_spec n _ X h
    · exact (vokKL_spec hg (vokKL_spec hg h).1).1
    · split at h
      · exact (vokKL_spec hg h).1
      · exact h
    · split at h
      · exact (vokKL_spec hg h).1
      · rw [bcase_iff] at h
        cases hb : Nat.ble _ _ with
        | true => exact h.1 hb
        | false => exact (h.2 hb).elim
      · exact h
    · exact h

theorem vav_rel {H H' : Heap} {S : List Nat} (hn : ∀ i, i ∈ S → H'.get i = H.get i) {Z Z1 : Nat → Prop} {γ : Gam} {w : World} (hs : Sat Z γ H' w) (hZ : ∀ b, Z b → Z1 b) (hZ1 : ∀ i b, i ∈ S → γ i = some b → Z1 b) :
    ∀ (n : Nat) {fl : Bool} {a : AV} {v : Value}, (fl = true → ∃ Y, vokK H n a Y) → VRel Z w γ a v → VRel Z1 w noG (vav S H fl n a) v
  | 0, _, _, _, _, _ => .any
  | n + 1, fl, a, v, hk, h => by
    have hg := fun a X => vokK_spec (H := H) n a X
    have mem_get : ∀ {l : List AV} {i : Nat} {x : AV}, l[i]? = some x → x ∈ l := fun h => List.mem_of_getElem? h
    have up : ∀ {c u}, VRel Z w noG c u → VRel Z1 w noG c u := fun h => VRel.mono h (fun b hb => ⟨hZ b hb, rfl⟩) (fun _ _ h => h) (fun _ _ _ => rfl)
    have mem : ∀ {i}, S.elem i = true → i ∈ S := fun h => by simpa using h
    cases h
    case any => exact .any
    case bool => exact .bool
    case int => exact .int
    case str => exact .str
    case agg cs vs h1 h2 =>
      exact .agg (by rw [mapA_length]; exact h1) fun i c u hc hu => by
        obtain ⟨x, hx, rfl⟩ := mapA_get _ _ _ _ hc
        exact vav_rel hn hs hZ hZ1 n (fun e => let ⟨_, hY⟩ := hk e; (vokKL_spec hg hY).2 x (mem_get hx)) (h2 i x u hx hu)
    case tup cs vs h1 h2 =>
      exact .tup (by rw [mapA_length]; exact h1) fun i c u hc hu => by
        obtain ⟨x, hx, rfl⟩ := mapA_get _ _ _ _ hc
        exact vav_rel hn hs hZ hZ1 n (fun e => let ⟨_, hY⟩ := hk e; (vokKL_spec hg hY).2 x (mem_get hx)) (h2 i x u hx hu)
    case nilp => exact .nilp
    case ptr id off b hb =>
      simp only [vav]
      split
      · rename_i hm
        have hm := mem hm
        split
        · rename_i ty cs hid
          have hks : fl = true → ∀ a, a ∈ cs → ∃ Y, vokK H n a Y := fun e => by
            obtain ⟨_, hY⟩ := hk e
            simp only [vokK, hid] at hY
            exact (vokKL_spec hg hY).2
          obtain ⟨b', hb', _, arr, ha, hsz, hrel⟩ := hs.own id _ ((hn id hm).trans hid) rfl
          rw [hb] at hb'; cases hb'
          refine .iref (vs := fun i => arr.getD (off + i) undef) (hZ1 id b hm hb) rfl (fun i c hc => ?_) (fun i c hc => ?_)
          · obtain ⟨x, hx, rfl⟩ := mapA_get _ _ _ _ hc
            rw [List.getElem?_drop] at hx
            have hlt : off + i < arr.size := by have := (List.getElem?_eq_some_iff.1 hx).1; omega
            rw [cell_of_row w b _ arr ty _ ha]; simp [hlt]
          · obtain ⟨x, hx, rfl⟩ := mapA_get _ _ _ _ hc
            rw [List.getElem?_drop] at hx
            have hlt : off + i < arr.size := by have := (List.getElem?_eq_some_iff.1 hx).1; omega
            exact vav_rel hn hs hZ hZ1 n (fun e => hks e x (mem_get hx)) (hrel _ x _ hx (by simp [hlt]))
        · exact .any
      · exact .any
    case pts => exact .any
    case rptr => exact .any
    case iref cs a vs h0 h1 h2 h3 =>
      exact .iref (hZ _ (by assumption)) (by assumption) (by assumption) fun i c hc => up (by first | exact h0 i c hc | exact h3 i c hc)
    case nils => exact .nils
    case sl id base start sz m cap b c q1 q2 q3 q4 =>
      have hb : γ id = some b := by assumption
      have h1 : m ≤ c := by assumption
      have h2 : ∀ c0, cap = some c0 → c = c0 := by assumption
      simp only [vav]
      split
      · rename_i hm
        have hm := mem hm
        split
        · rename_i ty cs hid
          have hks : fl = true → ∀ a, a ∈ cs → ∃ Y, vokK H n a Y := fun e => by
            obtain ⟨_, hY⟩ := hk e
            simp only [vokK, hid] at hY
            exact (vokKL_spec hg hY).2
          obtain ⟨b', hb', _, arr, ha, hsz, hrel⟩ := hs.own id _ ((hn id hm).trans hid) rfl
          rw [hb] at hb'; cases hb'
          refine .isl (vs := fun i j => arr.getD (base + (start + i) * sz + j) undef) (hZ1 id b hm hb) rfl h1 h2 (fun i j x hi hx => ?_) (fun i j x hi hx => ?_)
          · rw [List.getElem?_take] at hx
            split at hx
            · rw [List.getElem?_drop] at hx
              obtain ⟨y, hy, rfl⟩ := mapA_get _ _ _ _ hx
              have hlt : base + (start + i) * sz + j < arr.size := by have := (List.getElem?_eq_some_iff.1 hy).1; omega
              have e : base + start * sz + i * sz + j = base + (start + i) * sz + j := by rw [Nat.add_mul]; omega
              simp only [e]
              rw [cell_of_row w b _ arr ty _ ha]; simp [hlt]
            · cases hx
          · rw [List.getElem?_take] at hx
            split at hx
            · rw [List.getElem?_drop] at hx
              obtain ⟨y, hy, rfl⟩ := mapA_get _ _ _ _ hx
              have hlt : base + (start + i) * sz + j < arr.size := by have := (List.getElem?_eq_some_iff.1 hy).1; omega
              exact vav_rel hn hs hZ hZ1 n (fun e => hks e y (mem_get hy)) (hrel _ y _ hy (by simp [hlt]))
            · cases hx
        · rename_i ty sz' m' f hid
          split
          · rename_i e1 e2
            have e1 := Nat.eq_of_beq_eq_true e1
            have e2 := Nat.eq_of_beq_eq_true e2
            subst e1; subst e2
            have e3 : start + m ≤ m' := by
              obtain ⟨_, hY⟩ := hk rfl
              simp only [vokK, hid] at hY
              rw [bcase_iff] at hY
              cases hb : Nat.ble (start + m) m' with
              | true => exact Nat.le_of_ble_eq_true hb
              | false => exact (hY.2 hb).elim
            obtain ⟨b', hb', _, arr, ha, hsz, hrel⟩ := hs.own id _ ((hn id hm).trans hid) rfl
            rw [hb] at hb'; cases hb'
            have hin : ∀ i j, i < m → j < sz → (start + i) * sz + j < arr.size := fun i j hi hj => by
              have : (start + i + 1) * sz ≤ m' * sz := Nat.mul_le_mul_right _ (by omega)
              rw [Nat.add_mul (start + i) 1] at this; omega
            refine .isl (vs := fun i j => arr.getD ((start + i) * sz + j) undef) (hZ1 id b hm hb) rfl h1 h2 (fun i j x hi hx => ?_) (fun i j x hi hx => ?_)
            · obtain ⟨y, hy, rfl⟩ := mapA_get _ _ _ _ hx
              rw [List.getElem?_take] at hy
              split at hy
              · rename_i hj
                have hlt := hin i j hi hj
                have e : 0 + start * sz + i * sz + j = (start + i) * sz + j := by rw [Nat.add_mul]; omega
                simp only [e]
                rw [cell_of_row w b _ arr ty _ ha]; simp [hlt]
              · cases hy
            · obtain ⟨y, hy, rfl⟩ := mapA_get _ _ _ _ hx
              rw [List.getElem?_take] at hy
              split at hy
              · rename_i hj
                have hlt := hin i j hi hj
                exact vav_rel hn hs hZ hZ1 n (fun e => by cases e) (hrel _ j y _ (by omega) hj hy (by simp [hlt]))
              · cases hy
          · exact .any
        · exact .any
      · exact .any
    case sl0 id base start sz m cap a h1 h2 =>
      simp only [vav]
      repeat' split
      all_goals first | exact .any | exact .isl0 h1 (fun c0 hc => (h2 c0 hc).symm)
    case isl sz m cap f a c vs h1 h2 h3 h4 h5 h6 =>
      refine .isl (vs := vs) (hZ _ (by assumption)) (by assumption) (by assumption) (by assumption) (by assumption) (fun i j x hi hx => up ?_)
      first | exact h6 i j x hi hx | exact h1 i j x hi hx
    case isl0 h1 h2 => exact .isl0 (by assumption) (by assumption)
    case fn f first caps fs vs h1 h2 h3 h4 =>
      refine .fn (by rw [mapA_length]; assumption) (by rw [mapA_length]; assumption) (fun i c u hc hu => ?_) (fun i c u hc hu => ?_)
      · obtain ⟨x, hx, rfl⟩ := mapA_get _ _ _ _ hc
        refine vav_rel hn hs hZ hZ1 n (fun e => let ⟨_, hY⟩ := hk e; (vokKL_spec hg hY).2 x (mem_get hx)) ?_
        first | exact h3 i x u hx hu | exact h1 i x u hx hu
      · obtain ⟨x, hx, rfl⟩ := mapA_get _ _ _ _ hc
        refine vav_rel hn hs hZ hZ1 n (fun e => let ⟨_, hY⟩ := hk e; (vokKL_spec hg (vokKL_spec hg hY).1).2 x (mem_get hx)) ?_
        first | exact h4 i x u hx hu | exact h2 i x u hx hu
    case nilfn => exact .nilfn
    case iface t x y h1 => exact .iface (vav_rel hn hs hZ hZ1 n hk h1)
    case nilif => exact .nilif
    case mp => exact .any
    case nilm => exact .nilm
    case raw => exact .raw
    case yld => exact .any

def allLive (H : Heap) : List Nat → Bool
  | [] => true
  | i :: l => match H.get i with
    | some ch => match ch.live with
      | true => allLive H l
      | false => false
    | none => false

theorem allLive_spec {H : Heap} : ∀ {l : List Nat}, allLive H l = true → ∀ i, i ∈ l → Live H i
  | [], _, i, h => by cases h
  | a :: l, h, i, hi => by
    unfold allLive at h
    split at h
    · rename_i ch hc
      split at h
      · rename_i hl
        rcases List.mem_cons.1 hi with rfl | hi
        · exact ⟨ch, hc, hl⟩
        · exact allLive_spec h i hi
      · cases h
    · cases h

def nonempty (S : List Nat) : Bool :=
  match S with
  | [] => false
  | _ :: _ => true

def reachFuel : Nat := 400

/-- What the callee has laid goes over to the caller, from 'nid' on. -/
def comeBack (S : List Nat) (nid : Nat) (k : Out → Prop) (r : AV) (H2 : Heap) (N : List Nat) : Prop :=
  match chunksOf H2 N, nodupB N, Nat.ble N.length room with
  | some cs, true, true => k ⟨none, S, ren (tabFrom nid N .e).get (nonempty S) deep r, layFrom (tabFrom nid N .e).get (nonempty S) nid cs⟩
  | _, _, _ => False

def vcall (sc : SC) : FC := fun args H nid k =>
  match allLive H (reach H reachFuel 0 (idsL (ids deep) args [])) with
  | true => vokKL (vokK H deep) args (sc (mapA (vav (reach H reachFuel 0 (idsL (ids deep) args [])) H true deep) args) .e 0 (fun r H2 _ => comeBack (reach H reachFuel 0 (idsL (ids deep) args [])) nid k r H2 (reach H2 reachFuel 0 (ids deep r []))))
  | false => False

theorem comeBack_ok {H2 : Heap} {S N : List Nat} {nid : Nat} {k : Out → Prop} {r : AV} (h : comeBack S nid k r H2 N) :
    ∃ u, k u ∧ u.nd = S ∧ (∀ p, p ∈ u.wr → nid ≤ p.1 ∧ p.1 < nid + room) ∧ ∀ {Z Z1 Z2 : Nat → Prop} {γ γ2 : Gam} {H' : Heap} {w w' : World} {v : Value}
    (_ : Sat Z γ H' w) (_ : ∀ i, nid ≤ i → i < nid + room → H'.get i = none) (_ : ∀ b, Z b → Z1 b) (_ : nonempty S = false → ∀ b, Z1 b → Z b)
    (_ : VRel Z2 w' γ2 r v) (_ : Sat Z2 γ2 H2 w') (_ : Run Z1 noG .e w Z2 γ2 H2 w'),
    ∃ Z' γ', VRel Z' w' γ' u.r v ∧ Sat Z' γ' (H'.puts u.wr) w' ∧ (∀ i b, γ i = some b → γ' i = some b) ∧ (∀ b, Z b → Z' b) ∧
      (∀ i b, γ' i = some b → γ i = some b ∨ w.heap.size ≤ b) ∧ (∀ b, Z' b → Z b ∨ w.heap.size ≤ b) ∧ (∀ i, γ i = none → γ' i ≠ none → nid ≤ i ∧ i < nid + room) := by
  unfold comeBack at h
  split at h
  rotate_left
  · exact h.elim
  rename_i cs hcs hnd hle
  have hle := Nat.le_of_ble_eq_true hle
  obtain ⟨hlen, hget⟩ := chunksOf_get hcs
  refine ⟨_, h, rfl, fun p hp => by have := layFrom_mem hp; omega, fun {Z Z1 Z2 γ γ2 H' w w' v} hs hfr hZ hZS hv h2 hr => ?_⟩
  have nolive : ∀ i, ¬ Live (.e : Heap) i := fun i ⟨ch, hc, _⟩ => by rw [Tr.get_e] at hc; cases hc
  let Z' : Nat → Prop := if nonempty S = true then Z else Z2
  have hZ'2 : ∀ b, Z' b → Z2 b := fun b hb => by
    simp only [Z'] at hb
    split at hb
    · exact hr.zed b (hZ b hb)
    · exact hb
  have hZZ' : ∀ b, Z b → Z' b := fun b hb => by
    simp only [Z']
    split
    · exact hb
    · exact hr.zed b (hZ b hb)
  let γ' : Gam := fun i => if nid ≤ i ∧ i < nid + N.length then (N[i - nid]?).bind γ2 else γ i
  have hnew : ∀ i, nid ≤ i ∧ i < nid + N.length → γ i = none := fun i hi => hs.dom i (hfr i hi.1 (by omega))
  have hρ : ∀ i j, (tabFrom nid N .e).get i = some j → γ' j = γ2 i := fun i j hij => by
    rcases tabFrom_get _ _ _ _ _ hij with h | ⟨q, h1, rfl⟩
    · rw [Tr.get_e] at h; cases h
    · have hq := (List.getElem?_eq_some_iff.1 h1).1
      simp only [γ']
      rw [if_pos (by omega)]
      simp [h1]
  have hfl : nonempty S = false → ∀ b, Z2 b → Z' b := fun e b hb => by simp only [Z', e]; exact hb
  have hnewb : ∀ i b, nid ≤ i ∧ i < nid + N.length → γ' i = some b → ∃ q ch, N[i - nid]? = some q ∧ cs[i - nid]? = some ch ∧ H2.get q = some ch ∧ ch.live = true ∧ γ2 q = some b ∧ w.heap.size ≤ b := fun i b hi hb => by
    simp only [γ'] at hb
    rw [if_pos hi] at hb
    obtain ⟨q, hq⟩ := lget' N (i - nid) (by omega)
    rw [hq] at hb
    obtain ⟨ch, e1, e2, e3⟩ := hget _ _ hq
    refine ⟨q, ch, hq, e1, e2, e3, hb, ?_⟩
    rcases hr.gnew q b ⟨ch, e2, e3⟩ hb with ⟨j, hj, _⟩ | h
    · exact absurd hj (nolive j)
    · exact h
  refine ⟨Z', γ', ren_rel hρ hfl _ hv, ?_, fun i b hb => ?_, hZZ', fun i b hb => ?_, fun b hb => ?_, fun i h1 h2 => ?_⟩
  · refine ⟨fun i ch hi hl => ?_, fun i j ci cj b hi hli hj hlj hgi hgj => ?_, fun i b hb => ?_, fun b hb => h2.zrng b (hZ'2 b hb), fun i hi => ?_⟩
    · rw [layFrom_get, hlen] at hi
      split at hi
      · rename_i hin
        obtain ⟨q, hq⟩ := lget' N (i - nid) (by omega)
        obtain ⟨c0, e1, e2, e3⟩ := hget _ _ hq
        rw [e1] at hi; simp at hi; subst hi
        obtain ⟨b, hb, hzb, hc⟩ := h2.own q c0 e2 e3
        refine ⟨b, by simp only [γ']; rw [if_pos hin, hq]; exact hb, fun hz => hzb (hZ'2 b hz), renC_rel hρ hfl hc⟩
      · rename_i hin
        obtain ⟨b, hb, hzb, hc⟩ := hs.own i ch hi hl
        have hlt := hs.rng i b hb
        refine ⟨b, by simp only [γ']; rw [if_neg hin]; exact hb, fun hz => ?_, ?_⟩
        · simp only [Z'] at hz
          split at hz
          · exact hzb hz
          · rename_i hne
            rcases hr.znew b hz with h | h | ⟨j, hj, _⟩
            · exact hzb (hZS (by simpa using hne) b h)
            · omega
            · exact nolive j hj
        · refine hc.mono (hr.keep b hlt (fun j hj => absurd hj (nolive j))) (fun b hb => ⟨hZZ' b hb, hr.keep b (hs.zrng b hb) (fun j hj => absurd hj (nolive j))⟩) (fun j b hj => ?_) (fun j b hj => hr.shape b (hs.rng j b hj))
          simp only [γ']
          split
          · rename_i h3; rw [hnew j h3] at hj; cases hj
          · exact hj
    · by_cases h1 : nid ≤ i ∧ i < nid + N.length <;> by_cases h3 : nid ≤ j ∧ j < nid + N.length
      · obtain ⟨q, c1, e1, _, e2, e3, e4, _⟩ := hnewb i b h1 hgi
        obtain ⟨q', c1', e1', _, e2', e3', e4', _⟩ := hnewb j b h3 hgj
        have hqq := h2.inj q q' c1 c1' b e2 e3 e2' e3' e4 e4'
        subst hqq
        have := nodupB_spec hnd _ _ _ e1 e1'
        omega
      · obtain ⟨q, c1, e1, _, e2, e3, e4, e5⟩ := hnewb i b h1 hgi
        have hgj' : γ j = some b := by simp only [γ'] at hgj; rw [if_neg h3] at hgj; exact hgj
        have := hs.rng j b hgj'; omega
      · obtain ⟨q, c1, e1, _, e2, e3, e4, e5⟩ := hnewb j b h3 hgj
        have hgi' : γ i = some b := by simp only [γ'] at hgi; rw [if_neg h1] at hgi; exact hgi
        have := hs.rng i b hgi'; omega
      · have hgi' : γ i = some b := by simp only [γ'] at hgi; rw [if_neg h1] at hgi; exact hgi
        have hgj' : γ j = some b := by simp only [γ'] at hgj; rw [if_neg h3] at hgj; exact hgj
        rw [layFrom_get, hlen, if_neg h1] at hi
        rw [layFrom_get, hlen, if_neg h3] at hj
        exact hs.inj i j ci cj b hi hli hj hlj hgi' hgj'
    · by_cases h1 : nid ≤ i ∧ i < nid + N.length
      · obtain ⟨q, c1, _, _, _, _, e4, _⟩ := hnewb i b h1 hb
        exact h2.rng q b e4
      · simp only [γ'] at hb; rw [if_neg h1] at hb
        exact Nat.lt_of_lt_of_le (hs.rng i b hb) hr.size
    · rw [layFrom_get, hlen] at hi
      split at hi
      · rename_i hin
        obtain ⟨q, hq⟩ := lget' N (i - nid) (by omega)
        obtain ⟨c0, e1, _⟩ := hget _ _ hq
        rw [e1] at hi; cases hi
      · rename_i hin
        simp only [γ']; rw [if_neg hin]; exact hs.dom i hi
  · simp only [γ']
    split
    · rename_i h3; rw [hnew i h3] at hb; cases hb
    · exact hb
  · by_cases h1 : nid ≤ i ∧ i < nid + N.length
    · obtain ⟨_, _, _, _, _, _, _, h⟩ := hnewb i b h1 hb; exact .inr h
    · simp only [γ'] at hb; rw [if_neg h1] at hb; exact .inl hb
  · simp only [Z'] at hb
    split at hb
    · exact .inl hb
    · rename_i hne
      rcases hr.znew b hb with h | h | ⟨j, hj, _⟩
      · exact .inl (hZS (by simpa using hne) b h)
      · exact .inr h
      · exact absurd hj (nolive j)
  · simp only [γ'] at h2
    split at h2
    · rename_i h3; exact ⟨h3.1, by omega⟩
    · exact absurd h1 h2
where
  lget' {α : Type} (l : List α) (i : Nat) (h : i < l.length) : ∃ a, l[i]? = some a := ⟨_, List.getElem?_eq_getElem h⟩

theorem vcall_ok {E : Env} {f : FuncId} {sc : SC} (h : SOK E f sc) : FOK E f (vcall sc) := by
  refine ⟨h.fn, fun args H nid k hk => ?_⟩
  unfold vcall at hk
  generalize hS : reach H reachFuel 0 (idsL (ids deep) args []) = S at hk
  split at hk
  rotate_left
  · exact hk.elim
  rename_i hall
  have hlive := allLive_spec hall
  obtain ⟨hk, hvok⟩ := vokKL_spec (fun a X => vokK_spec (H := H) deep a X) hk
  obtain ⟨r, H2, nid2, hcb, _, hcall⟩ := h.run _ _ _ _ (fun i _ => Tr.get_e i) hk
  obtain ⟨u, hku, hnd, hwr, hback⟩ := comeBack_ok hcb
  refine ⟨u, hku, ⟨fun p hp => .inr (hwr p hp), fun i hi => hlive i (hnd ▸ hi)⟩, ?_⟩
  intro Z γ H' w vs hs hg hsz hvr hn hfr
  rw [hnd] at hn
  have hsub : ∀ b, Z b → (fun b => Z b ∨ ∃ i, i ∈ S ∧ γ i = some b) b := fun b h => .inl h
  have hs1 : Sat (fun b => Z b ∨ ∃ i, i ∈ S ∧ γ i = some b) noG .e w := by
    refine ⟨fun i ch hi => (by rw [Tr.get_e] at hi; cases hi), fun i j ci cj b hi => (by rw [Tr.get_e] at hi; cases hi), fun i b h => (by cases h), fun b hb => ?_, fun _ _ => rfl⟩
    rcases hb with h | ⟨i, _, h⟩
    · exact hs.zrng b h
    · exact hs.rng i b h
  refine (hcall _ noG w vs hs1 (fun g cs hgl => (hg g cs hgl).mono (fun b hb => ⟨.inl hb, rfl⟩) (fun _ _ h => h) (fun _ _ _ => rfl)) (by rw [mapA_length]; exact hsz) (fun i c v hc hv => ?_)).mono ?_
  · obtain ⟨x, hx, rfl⟩ := mapA_get _ _ _ _ hc
    exact vav_rel hn hs hsub (fun i b hi hb => .inr ⟨i, hi, hb⟩) _ (fun _ => hvok x (List.mem_of_getElem? hx)) (hvr i x v hx hv)
  · rintro e w' ⟨v, Z2, γ2, he, hv2, hs2, hr⟩
    obtain ⟨Z', γ', g1, g2, g3, g4, g5, g6, g7⟩ := hback hs hfr hsub (fun hne b hb => by
      rcases hb with h | ⟨i, hi, _⟩
      · exact h
      · cases S with
        | nil => cases hi
        | cons _ _ => simp [nonempty] at hne) hv2 hs2 hr
    have nolive : ∀ i, ¬ Live (.e : Heap) i := fun i ⟨ch, hc, _⟩ => by rw [Tr.get_e] at hc; cases hc
    refine ⟨v, Z', γ', he, g1, g2, ⟨g3, g4, hr.size, fun b hb _ => hr.keep b hb (fun j hj => absurd hj (nolive j)), hr.shape, fun i b hb => ?_, fun b hb => ?_, hr.tape, hr.os, hr.output⟩, g7⟩
    · rcases g5 i b hb with h | h
      · exact .inl h
      · exact .inr (.inl h)
    · rcases g6 b hb with h | h
      · exact .inl h
      · exact .inr (.inl h)

end Go.Sx
