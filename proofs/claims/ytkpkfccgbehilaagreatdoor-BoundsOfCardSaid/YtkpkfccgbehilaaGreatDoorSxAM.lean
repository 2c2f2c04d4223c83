/- Part of an own symbolic executor for the model's code, proved sound, and of the proof of one statement (see the text of the claimed theorem). -/
import Derived.Test.YtkpkfccgbehilaaGreatDoorSxAK
import Derived.Shelf.Sort.Plain
import Derived.Shelf.Slices.CompactI
namespace Go.Sx

/-! # Plain words for contracts -/
def geti (f : Nat → List AV) (j : Nat) : Int :=
  match f j with
  | [.int _ _ x] => x
  | _ => 0

/-- The first elements are numbers of a kind. -/
def Ints (k : IntKind) (f : Nat → List AV) (n : Nat) : Prop := ∀ j, j < n → f j = [.int false k (geti f j)]

/-- Number 'q' of an element. -/
def getk (f : Nat → List AV) (q j : Nat) : Int :=
  match (f j)[q]? with
  | some (.int _ _ x) => x
  | _ => 0

/-- The first elements are three numbers each. -/
def Ints3 (a b c : IntKind) (f : Nat → List AV) (n : Nat) : Prop := ∀ j, j < n → f j = [.int false a (getk f 0 j), .int false b (getk f 1 j), .int false c (getk f 2 j)]

/-- Lengths that are gone through. -/
def Len (n : Nat) : Prop := n ≤ 1099511627776

theorem Ints.of {k : IntKind} {l : Nat → Int} {n : Nat} : Ints k (fun j => [.int false k (l j)]) n := fun _ _ => rfl

theorem wrap_i64 {x : Int} (h1 : -9223372036854775808 ≤ x) (h2 : x < 9223372036854775808) : IntKind.wrap .i64 x = x := by
  simp only [IntKind.wrap, IntKind.signed, IntKind.bits]
  simp
  omega

theorem wrap_succ {i n : Nat} (h : i < n) (hn : Len n) : IntKind.wrap .i64 (Int.ofNat i + 1) = Int.ofNat (i + 1) := by
  have : Int.ofNat i + 1 = Int.ofNat (i + 1) := rfl
  rw [this]
  unfold Len at hn
  refine wrap_i64 ?_ ?_ <;> simp <;> omega

theorem kI {l l' : Bool} {t : IntKind} {a b : Int} {k : AV → Heap → Nat → Prop} {H : Heap} {n : Nat} (h : k (.int l t a) H n) (e : b = a) : ∃ r', Wk (.int l' t b) r' ∧ k r' H n := ⟨_, by rw [e]; exact Wk.int, h⟩
theorem kB {a b : Bool} {k : AV → Heap → Nat → Prop} {H : Heap} {n : Nat} (h : k (.bool a) H n) (e : b = a) : ∃ r', Wk (.bool b) r' ∧ k r' H n := ⟨_, by rw [e]; exact .refl _, h⟩
theorem kR {r : AV} {k : AV → Heap → Nat → Prop} {H : Heap} {n : Nat} (h : k r H n) : ∃ r', Wk r r' ∧ k r' H n := ⟨r, .refl r, h⟩

theorem bc_t {b : Bool} {x y : Prop} (h : b = true) (k : x) : bcase b x y := by rw [h]; exact k
theorem bc_f {b : Bool} {x y : Prop} (h : b = false) (k : y) : bcase b x y := by rw [h]; exact k
theorem bc_i {b : Bool} {x y : Prop} (h : b = true → x) (k : b = false → y) : bcase b x y := by
  cases b
  · exact k rfl
  · exact h rfl

theorem lt_t {i n : Nat} (h : i < n) : decide (Int.ofNat i < Int.ofNat n) = true := by simp; omega
theorem lt_f {i n : Nat} (h : n ≤ i) : decide (Int.ofNat i < Int.ofNat n) = false := by simp; omega
theorem in_t {i n : Nat} (h : i < n) : decide (0 ≤ Int.ofNat i ∧ Int.ofNat i < (n : Int)) = true := by simp; omega

theorem bne_f {a b : Int} (h : (a != b) = false) : a = b := by simpa using h
theorem bne_t {a b : Int} (h : (a != b) = true) : a ≠ b := by simpa using h

/-- The first place, from 'i' on, that is so; -1: none of the next ones is. -/
def findI (p : Nat → Bool) : Nat → Nat → Int
  | _, 0 => -1
  | i, m + 1 => bif p i then Int.ofNat i else findI p (i + 1) m

theorem findI_neg {p : Nat → Bool} : ∀ {m i : Nat}, findI p i m < 0 ↔ ∀ j, i ≤ j → j < i + m → p j = false
  | 0, i => by simp [findI]; omega
  | m + 1, i => by
    simp only [findI]
    cases hp : p i with
    | true =>
      simp only [cond_true]
      refine ⟨fun h => absurd h (by simp), fun h => ?_⟩
      rw [h i (by omega) (by omega)] at hp; cases hp
    | false =>
      simp only [cond_false]
      rw [findI_neg]
      refine ⟨fun h j h1 h2 => ?_, fun h j h1 h2 => h j (by omega) (by omega)⟩
      by_cases e : j = i
      · rw [e]; exact hp
      · exact h j (by omega) (by omega)

end Go.Sx

namespace Go.Sx

/-! # What a call hands back stays from then on -/
def frzGo (nid : Nat) (r : AV) (H' : Heap) (k : AV → Heap → Nat → Prop) (S : List Nat) : Prop :=
  match allGe nid S, allLive H' S with
  | true, true => vokK H' deep r (k (vav S H' true deep r) (Tr.puts .e (renL (gcR nid []) (liveL H' (count 0 nid)))) nid)
  | _, _ => False

def frzSC (sc : SC) : SC := fun args H nid k => sc args H nid (fun r H' _ => frzGo nid r H' k (reach H' reachFuel 0 (ids deep r [])))

theorem frzSC_ok {E : Env} {f : FuncId} {sc : SC} (h : SOK E f sc) : SOK E f (frzSC sc) :=
  ⟨h.fn, fun args H nid k hfr hk => by
    obtain ⟨r, H', nid', h1, _, h3⟩ := h.run args H nid _ hfr hk
    generalize reach H' reachFuel 0 (ids deep r []) = S at h1
    unfold frzGo at h1
    split at h1
    rotate_left
    · exact h1.elim
    rename_i hge hlv
    have hvok : ∃ Y, vokK H' deep r Y := ⟨_, h1⟩
    have h1 := vokK_spec _ _ _ h1
    have hlive := allLive_spec hlv
    have hge' : ∀ i, i ∈ S → nid ≤ i := fun i hi => by
      obtain ⟨q, hq⟩ := List.getElem?_of_mem hi
      exact allGe_spec hge q i hq
    have hH2 : ∀ i, (Tr.puts (.e : Heap) (renL (gcR nid []) (liveL H' (count 0 nid)))).get i = if i < nid then (H'.get i).map (renC (gcR nid []) false) else none := fun i => by
      rw [puts_liveL, Tr.get_e]
      by_cases h2 : i < nid
      · rw [if_pos h2]
        cases hg : H'.get i with
        | none => simp
        | some c => rw [if_pos ⟨(mem_count _ _ _).2 (by omega), rfl⟩]
      · rw [if_neg h2, if_neg (fun h => h2 (by have := (mem_count _ _ _).1 h.1; omega))]
    refine ⟨_, _, _, h1, fun i hi => by rw [hH2, if_neg (by omega)], fun Z γ w vs hs hg hsz hv => (h3 Z γ w vs hs hg hsz hv).mono fun e w' ⟨v, Z', γ', e1, e2, e3, e4⟩ => ?_⟩
    have hlt : ∀ i b, γ i = some b → i < nid := fun i b hb => by
      apply Classical.byContradiction; intro hge
      have := hs.dom i (hfr i (by omega)); rw [this] at hb; cases hb
    let Z2 : Nat → Prop := fun b => Z' b ∨ ∃ i, i ∈ S ∧ γ' i = some b
    let γ2 : Gam := fun i => if i < nid then γ' i else none
    have hZ2 : ∀ b, Z' b → Z2 b := fun b hb => .inl hb
    have h2old : ∀ i, i < nid → γ2 i = γ' i := fun i hi => by simp only [γ2]; rw [if_pos hi]
    have hρ : ∀ i j, gcR nid [] i = some j → γ2 j = γ' i := fun i j hij => by
      unfold gcR at hij
      split at hij
      · rename_i hb; cases hij; exact h2old i (Nat.le_of_ble_eq_true hb)
      · rw [tabFrom, Tr.get_e] at hij; cases hij
    have hcls : ∀ i ch, (Tr.puts (.e : Heap) (renL (gcR nid []) (liveL H' (count 0 nid)))).get i = some ch → ch.live = true → ∃ c, i < nid ∧ H'.get i = some c ∧ c.live = true ∧ ch = renC (gcR nid []) false c := fun i ch hi hl => by
      rw [hH2] at hi
      split at hi
      · rename_i h2
        cases hg : H'.get i with
        | none => rw [hg] at hi; cases hi
        | some c =>
          rw [hg] at hi; simp at hi
          refine ⟨c, h2, rfl, ?_, hi.symm⟩
          rw [← hi] at hl
          cases c <;> first | rfl | exact hl
      · cases hi
    refine ⟨v, Z2, γ2, e1, noG_le (vav_rel (fun _ _ => rfl) e3 hZ2 (fun i b hi hb => .inr ⟨i, hi, hb⟩) _ (fun _ => hvok) e2), ?_, ⟨fun i b hb => ?_, fun b hb => hZ2 b (e4.zed b hb), e4.size, e4.keep, e4.shape, fun i b hl hb => ?_, fun b hb => ?_, e4.tape, e4.os, e4.output⟩⟩
    · refine ⟨fun i ch hi hl => ?_, fun i j ci cj b hi hli hj hlj hgi hgj => ?_, fun i b hb => ?_, fun b hb => ?_, fun i hi => ?_⟩
      · obtain ⟨c, q1, q2, q3, q4⟩ := hcls i ch hi hl
        obtain ⟨b, hb, hz, hc⟩ := e3.own i c q2 q3
        refine ⟨b, (h2old i q1).trans hb, fun hz2 => ?_, q4 ▸ renC_rel hρ (fun _ => hZ2) hc⟩
        rcases hz2 with hz2 | ⟨j, hj, hjb⟩
        · exact hz hz2
        · obtain ⟨cj, hcj, hlj⟩ := hlive j hj
          have := e3.inj i j c cj b q2 q3 hcj hlj hb hjb
          have := hge' j hj
          omega
      · obtain ⟨c, q1, q2, q3, _⟩ := hcls i ci hi hli
        obtain ⟨c', q1', q2', q3', _⟩ := hcls j cj hj hlj
        rw [h2old i q1] at hgi
        rw [h2old j q1'] at hgj
        exact e3.inj i j c c' b q2 q3 q2' q3' hgi hgj
      · simp only [γ2] at hb
        split at hb
        · exact e3.rng i b hb
        · cases hb
      · rcases hb with hb | ⟨i, _, hb⟩
        · exact e3.zrng b hb
        · exact e3.rng i b hb
      · rw [hH2] at hi
        simp only [γ2]
        split at hi
        · rename_i h2
          rw [if_pos h2]
          cases hg : H'.get i with
          | none => exact e3.dom i hg
          | some c => rw [hg] at hi; cases hi
        · rename_i h2; rw [if_neg h2]
    · rw [h2old i (hlt i b hb)]; exact e4.gam i b hb
    · obtain ⟨ch, q1, q2⟩ := hl
      obtain ⟨c, q3, q4, q5, _⟩ := hcls i ch q1 q2
      exact e4.gnew i b ⟨c, q4, q5⟩ ((h2old i q3) ▸ hb)
    · rcases hb with hb | ⟨i, hi, hb⟩
      · exact e4.znew b hb
      · rcases e4.gnew i b (hlive i hi) hb with h | h
        · exact .inr (.inr h)
        · exact .inr (.inl h)⟩

/-! # Slices of no elements, nil or not -/
theorem SOK.empty {E : Env} {f : FuncId} {sc' : SC} (h : SOK E f sc') {sz : Nat} {g : Nat → List AV}
    (hr : ∀ a c, sc' [.raw (.slice a 0 c)] .e 0 (fun r H' n => Wk r (.isl sz 0 none g) ∧ (∀ i, H'.get i = none) ∧ n = 0)) :
    SOK E f (scN 0 fun args L k => match args, L with
      | [.isl _ 0 _ _], [] => k (.isl sz 0 none g) .e 0
      | _, _ => False) :=
  ⟨h.fn, fun args H nid k hfr hk => by
    unfold scN at hk
    split at hk
    rotate_left
    · exact hk.elim
    rename_i hb
    have := Nat.eq_of_beq_eq_true hb
    subst this
    split at hk
    rotate_left
    · exact hk.elim
    rename_i sz' cap f' _
    have hHe : ∀ i, H.get i = (Tr.e : Heap).get i := fun i => by rw [hfr i (Nat.zero_le _), Tr.get_e]
    refine ⟨_, _, _, hk, fun i _ => Tr.get_e i, fun Z γ w vs hs hg hsz hv => ?_⟩
    match vs, hsz with
    | ⟨[v]⟩, _ =>
      have hv0 := hv 0 _ v rfl rfl
      have ⟨a, c, hvc⟩ : ∃ a c, v = .slice a 0 c := by
        cases hv0
        · rename_i a c vs h1 h2 h3 h4 h5 h6; exact ⟨_, _, rfl⟩
        · exact ⟨_, _, rfl⟩
      subst hvc
      obtain ⟨r, H', nid', ⟨h1, h2, h3⟩, _, h5⟩ := h.run _ _ _ _ (fun i _ => Tr.get_e i) (hr a c)
      refine (h5 Z γ w ⟨[.slice a 0 c]⟩ (hs.congrZ fun i => (hHe i).symm) hg rfl fun i c' v' hc hv' => ?_).mono fun e w' ⟨v, Z', γ', q1, q2, q3, q4⟩ => ⟨v, Z', γ', q1, h1 _ _ _ _ q2, q3.congrZ fun i => by rw [h2 i, Tr.get_e], ?_⟩
      · cases i with
        | zero => simp at hc hv'; subst hc; subst hv'; exact .raw
        | succ i => simp at hc
      · exact (q4.congrL fun i => hHe i).congr fun i => by rw [h2 i, Tr.get_e]⟩

def wk0SC (sz : Nat) (g : Nat → List AV) (sc : SC) : SC := fun args H nid k => sc args H nid (fun r H' n => Wk r (.isl sz 0 none g) ∧ k (.isl sz 0 none g) H' n)
theorem wk0SC_ok {E : Env} {f : FuncId} {sc : SC} (h : SOK E f sc) {sz : Nat} {g : Nat → List AV} : SOK E f (wk0SC sz g sc) :=
  ⟨h.fn, fun args H nid k hfr hk => by
    obtain ⟨r, H', nid', ⟨hw, h1⟩, h2, h3⟩ := h.run args H nid _ hfr hk
    exact ⟨_, H', nid', h1, h2, fun Z γ w vs hs hg hsz hv => (h3 Z γ w vs hs hg hsz hv).mono fun e w' ⟨v, Z', γ', g1, g2, g3, g4⟩ => ⟨v, Z', γ', g1, hw _ _ _ _ g2, g3, g4⟩⟩⟩

/-- Two contracts of one function. -/
theorem SOK.or {E : Env} {f : FuncId} {a b c : SC} (ha : SOK E f a) (hb : SOK E f b) (h : ∀ args H nid k, c args H nid k → a args H nid k ∨ b args H nid k) : SOK E f c :=
  ⟨ha.fn, fun args H nid k hfr hk => by
    rcases h args H nid k hk with h | h
    · exact ha.run args H nid k hfr h
    · exact hb.run args H nid k hfr h⟩

theorem Wk.sl0 {id b s sz sz' : Nat} {cap : Option Nat} {g : Nat → List AV} : Wk (.sl id b s sz 0 cap) (.isl sz' 0 none g) := fun _ _ _ _ h => by
  cases h
  · exact .isl0 rfl (fun _ h => by cases h)
  · exact .isl0 rfl (fun _ h => by cases h)
theorem Wk.nils {sz : Nat} {g : Nat → List AV} : Wk .nils (.isl sz 0 none g) := fun _ _ _ _ h => by
  cases h; exact .isl0 rfl (fun _ h => by cases h)
theorem Wk.isl0 {sz sz' : Nat} {cap : Option Nat} {f g : Nat → List AV} : Wk (.isl sz 0 cap f) (.isl sz' 0 none g) := fun _ _ _ _ h => by
  cases h
  · exact .isl0 rfl (fun _ h => by cases h)
  · exact .isl0 rfl (fun _ h => by cases h)
theorem Wk.cap {sz n : Nat} {cap : Option Nat} {f : Nat → List AV} : Wk (.isl sz n cap f) (.isl sz n none f) := fun _ _ _ _ h => by
  cases h
  · rename_i a c vs h1 h2 h3 h4 h5 h6
    exact .isl (vs := vs) (by assumption) (by assumption) (by assumption) (fun _ h => by cases h) (by assumption) (by assumption)
  · exact .isl0 (by assumption) (fun _ h => by cases h)

end Go.Sx

namespace Go.Sx
open Go.Sort Go.RowKit

/-! # The library's sort and Compact, of ints -/
theorem Sat.turnG {Z γ H w w'} (h : Sat Z γ H w) {i b : Nat} {c0 ch : Chunk} (hi : H.get i = some c0) (hl : c0.live = true) (hb : γ i = some b)
    (hsz : w.heap.size ≤ w'.heap.size) (ho : ∀ k, k < w.heap.size → k ≠ b → w'.heap[k]? = w.heap[k]?) (hs : ∀ k, k < w.heap.size → w'.shape? k = w.shape? k)
    (hc : CRel Z w' γ b ch) : Sat Z γ (H.put i ch) w' := by
  obtain ⟨b', hb', hz, _⟩ := h.own i c0 hi hl
  rw [hb] at hb'; cases hb'
  refine ⟨?_, ?_, ?_, ?_, ?_⟩
  · intro j cj hj hlj
    rw [Tr.get_put] at hj
    by_cases e : j = i
    · subst e; rw [if_pos rfl] at hj; cases hj; exact ⟨b, hb, hz, hc⟩
    · rw [if_neg e] at hj
      obtain ⟨k, hk, hzk, hck⟩ := h.own j cj hj hlj
      have hne : k ≠ b := fun e' => e (h.inj j i cj c0 b hj hlj hi hl (e' ▸ hk) hb)
      exact ⟨k, hk, hzk, hck.mono (ho k (h.rng j k hk) hne) (fun q hq => ⟨hq, ho q (h.zrng q hq) (fun e' => hz (e' ▸ hq))⟩) (fun _ _ h => h) (fun j q hq => hs q (h.rng j q hq))⟩
  · intro j k cj ck q hj hlj hk hlk hgj hgk
    rw [Tr.get_put] at hj hk
    by_cases ej : j = i <;> by_cases ek : k = i
    · omega
    · subst ej; rw [if_neg ek] at hk; exact h.inj j k c0 ck q hi hl hk hlk hgj hgk
    · subst ek; rw [if_neg ej] at hj; exact h.inj j k cj c0 q hj hlj hi hl hgj hgk
    · rw [if_neg ej] at hj; rw [if_neg ek] at hk; exact h.inj j k cj ck q hj hlj hk hlk hgj hgk
  · intro j q hj; exact Nat.lt_of_lt_of_le (h.rng j q hj) hsz
  · intro q hq; exact Nat.lt_of_lt_of_le (h.zrng q hq) hsz
  · intro j hj
    rw [Tr.get_put] at hj
    by_cases e : j = i
    · simp [e] at hj
    · rw [if_neg e] at hj; exact h.dom j hj

theorem Run.turnG {Z γ H w w'} {i b : Nat} {c0 ch : Chunk} (hi : H.get i = some c0) (hl : c0.live = true) (hb : γ i = some b)
    (hsz : w.heap.size ≤ w'.heap.size) (ho : ∀ k, k < w.heap.size → k ≠ b → w'.heap[k]? = w.heap[k]?) (hs : ∀ k, k < w.heap.size → w'.shape? k = w.shape? k)
    (ht : w'.tape = w.tape) (hos : w'.os = w.os) (hout : w'.output = w.output) : Run Z γ H w Z γ (H.put i ch) w' where
  gam _ _ h := h
  zed _ h := h
  size := hsz
  keep k hk hn := ho k hk fun e => hn i ⟨c0, hi, hl⟩ (e ▸ hb)
  shape k hk := hs k hk
  gnew j k hlj hk := by
    obtain ⟨c, h1, h2⟩ := hlj
    rw [Tr.get_put] at h1
    by_cases e : j = i
    · subst e; exact .inl ⟨j, ⟨c0, hi, hl⟩, hk⟩
    · rw [if_neg e] at h1; exact .inl ⟨j, ⟨c, h1, h2⟩, hk⟩
  znew _ h := .inl h
  tape := ht
  os := hos
  output := hout

def intOf : AV → Int
  | .int _ _ x => x
  | _ => 0

def allInt : List AV → Bool
  | [] => true
  | .int _ .i64 _ :: l => allInt l
  | _ => false

theorem allInt_get {l : List AV} (h : allInt l = true) : ∀ (i : Nat) a, l[i]? = some a → ∃ b x, a = .int b .i64 x := by
  induction l with
  | nil => intro i a h; simp at h
  | cons a l ih =>
    intro i x hx
    unfold allInt at h
    split at h
    · rename_i h1; cases h1
    · rename_i b n l' h1
      cases h1
      cases i with
      | zero => simp at hx; subst hx; exact ⟨_, _, rfl⟩
      | succ i => exact ih h i x (by simpa using hx)
    · cases h

def srtd (zs : List Int) (i : Nat) : Int := (zs.mergeSort fun x y => decide (x ≤ y)).getD i 0

def okSort (n : Nat) (cs : List AV) : Bool :=
  match Nat.beq cs.length n, Nat.blt 0 n, Nat.ble n 1099511627776, allInt cs with
  | true, true, true, true => true
  | _, _, _, _ => false

def sortS : SC := fun args H nid k => match args with
  | [.sl id 0 0 1 n _] => match H.get id with
    | some (.cells ty cs) => match okSort n cs with
      | true => k (.tup []) (H.put id (.row ty 1 n fun i => [.int false .i64 (srtd (cs.map intOf) i)])) nid
      | false => False
    | _ => False
  | _ => False

theorem grow_heap_old (w : World) (os : Array Obj) (k : Nat) (h : k < w.heap.size) : (grow w os).heap[k]? = w.heap[k]? := by
  simp [grow, Array.getElem?_append, h]

theorem mapBlock_other (w : World) (b k : Nat) (f : Array Value → Array Value) (h : k ≠ b) : (mapBlock w b f).heap[k]? = w.heap[k]? := by
  simp only [mapBlock]
  rw [Array.getElem?_modify, if_neg (Ne.symm h)]

theorem mapBlock_at {w : World} {b : Nat} {f : Array Value → Array Value} {arr : Array Value} {ty : TypeId} {fr : Nat × Nat} (h : w.heap[b]? = some (.cells arr ty fr)) : (mapBlock w b f).heap[b]? = some (.cells (f arr) ty fr) := by
  simp only [mapBlock]
  rw [Array.getElem?_modify, if_pos rfl, h]
  rfl

/-- What a row put anew is to the state. -/
theorem put_row {Z γ} {H : Heap} {w : World} (hs : Sat Z γ H w) {id b : Nat} {c0 : Chunk} (hi : H.get id = some c0) (hl : c0.live = true) (hb : γ id = some b) {arr : Array Value} {ty : TypeId} (ha : w.heap[b]? = some (.cells arr ty (0, 0)))
    (zs : List Int) (q : Nat) (os : Array Obj) {ch : Chunk} (hc : ∀ w', w'.heap[b]? = some (.cells (putCells (Value.int .i64) 0 zs.toArray arr) ty (0, 0)) → CRel Z w' γ b ch) :
    Sat Z γ (H.put id ch) (grow (putRow (Value.int .i64) (Sort.ahead w q) b 0 zs.toArray) os) ∧ Run Z γ H w Z γ (H.put id ch) (grow (putRow (Value.int .i64) (Sort.ahead w q) b 0 zs.toArray) os) := by
  have hb1 : b < w.heap.size := hs.rng id b hb
  have hsz0 : (putRow (Value.int .i64) (Sort.ahead w q) b 0 zs.toArray).heap.size = w.heap.size := by simp
  have hsz : w.heap.size ≤ (grow (putRow (Value.int .i64) (Sort.ahead w q) b 0 zs.toArray) os).heap.size := by simp [grow]
  have ho : ∀ k, k < w.heap.size → k ≠ b → (grow (putRow (Value.int .i64) (Sort.ahead w q) b 0 zs.toArray) os).heap[k]? = w.heap[k]? := fun k hk hne => by
    rw [grow_heap_old _ _ _ (by rw [hsz0]; exact hk)]
    exact mapBlock_other _ _ _ _ hne
  have hbb : (grow (putRow (Value.int .i64) (Sort.ahead w q) b 0 zs.toArray) os).heap[b]? = some (.cells (putCells (Value.int .i64) 0 zs.toArray arr) ty (0, 0)) := by
    rw [grow_heap_old _ _ _ (by rw [hsz0]; exact hb1)]
    exact mapBlock_at (w := Sort.ahead w q) ha
  have hsh : ∀ k, k < w.heap.size → (grow (putRow (Value.int .i64) (Sort.ahead w q) b 0 zs.toArray) os).shape? k = w.shape? k := fun k hk => by
    by_cases e : k = b
    · subst e
      simp only [World.shape?, hbb, ha]
      simp [putCells]
    · exact shape_of_block (ho k hk e)
  exact ⟨hs.turnG hi hl hb hsz ho hsh (hc _ hbb), Run.turnG hi hl hb hsz ho hsh rfl rfl rfl⟩

theorem putCells_get (zs : List Int) (arr : Array Value) (j : Nat) (hj : j < zs.length) (hz : zs.length ≤ arr.size) : (putCells (Value.int .i64) 0 zs.toArray arr)[j]? = some (.int .i64 (zs.getD j 0)) := by
  have : j < arr.size := by omega
  simp [putCells, this, hj]

theorem sort_ok {E : Env} {f : FuncId} (hfn : ∃ fn, E.P.funcs[f]? = some fn ∧ (fn.name == "runtime.NumGoroutine") = false ∧ fn.body.isNone = false)
    (hc : ∀ (blk off cap : Nat) (zs : List Int) (w : World), Holds (Value.int .i64) w blk off zs.toArray → blk < w.heap.size → zs.length < 4611686018427387904 →
      Calls E.P f #[.slice (some ⟨blk, off, none⟩) zs.length cap] w fun e w' => e = .returned (.tuple #[]) ∧ ∃ n os, w' = grow (putRow (Value.int .i64) (Sort.ahead w n) blk off (zs.mergeSort fun x y => decide (x ≤ y)).toArray) os) : SOK E f sortS :=
  ⟨hfn, fun args H nid k hfr hk => by
    unfold sortS at hk
    split at hk
    rotate_left
    · exact hk.elim
    rename_i id n cap
    split at hk
    rotate_left
    · exact hk.elim
    rename_i ty cs hid
    split at hk
    rotate_left
    · exact hk.elim
    rename_i hok
    unfold okSort at hok
    split at hok
    rotate_left
    · cases hok
    rename_i h1 h2 h3 h4
    have h1 := Nat.eq_of_beq_eq_true h1
    have h2 : 0 < n := Nat.le_of_ble_eq_true h2
    have h3 := Nat.le_of_ble_eq_true h3
    refine ⟨_, _, _, hk, fun i hi => ?_, fun Z γ w vs hs hg hsz hv => ?_⟩
    · rw [Tr.get_put]
      have : i ≠ id := fun e => by rw [e] at hi; rw [hfr id hi] at hid; cases hid
      rw [if_neg this]; exact hfr i hi
    match vs, hsz with
    | ⟨[v]⟩, _ =>
      have hv0 := hv 0 _ v rfl rfl
      obtain ⟨b, hb, hzb, arr, ha, hasz, hrel⟩ := hs.own id _ hid rfl
      cases hv0
      rotate_left
      · omega
      rename_i b' c q0 q1 q2 q3 q4
      have hb' : γ id = some b' := q0
      rw [hb] at hb'; cases hb'
      have hzl : (cs.map intOf).length = n := by simp [h1]
      have harr : ∀ j, j < n → arr[j]? = some (.int .i64 ((cs.map intOf).getD j 0)) := fun j hj => by
        have hlt : j < arr.size := by omega
        have hcj : j < cs.length := by omega
        obtain ⟨bb, x, hx⟩ := allInt_get h4 j _ (List.getElem?_eq_getElem hcj)
        have := hrel j _ _ (List.getElem?_eq_getElem hcj) (Array.getElem?_eq_getElem hlt)
        rw [hx] at this
        rw [Array.getElem?_eq_getElem hlt]
        generalize arr[j] = y at this
        cases this
        simp [List.getD, hcj, hx, intOf]
      have hH : Holds (Value.int .i64) w b (0 + 0 * 1) (cs.map intOf).toArray := fun j hj => by
        have hj' : j < n := by simpa [h1] using hj
        refine ⟨?_, frozen_of_row w b _ arr ty ha⟩
        rw [cell_of_row w b _ arr ty _ ha]
        have := harr j hj'
        simp only [Nat.zero_mul, Nat.add_zero, Nat.zero_add] at this ⊢
        rw [this]
        congr 2
        simp [List.getD, h1, hj']
      have hlen : ((cs.map intOf).mergeSort fun x y => decide (x ≤ y)).length = n := by rw [List.length_mergeSort]; exact hzl
      have := hc b (0 + 0 * 1) c (cs.map intOf) w hH (hs.rng id b hb) (by omega)
      rw [hzl] at this
      refine this.mono ?_
      rintro e w' ⟨rfl, q, os, rfl⟩
      obtain ⟨g1, g2⟩ := put_row hs hid rfl hb ha ((cs.map intOf).mergeSort fun x y => decide (x ≤ y)) q os (ch := .row ty 1 n fun i => [.int false .i64 (srtd (cs.map intOf) i)]) (fun w' hw' => by
        refine ⟨_, hw', ?_, fun i j x v hi hj hx hv => ?_⟩
        · simp [putCells]; omega
        · have hj0 : j = 0 := by omega
          subst hj0
          simp at hx
          subst hx
          rw [Nat.mul_one, Nat.add_zero, putCells_get _ _ _ (by omega) (by omega)] at hv
          cases hv
          exact .int)
      exact ⟨_, Z, γ, rfl, .tup rfl (fun i c v h => by simp at h), g1, g2⟩⟩

def compZs (f : Nat → List AV) (n : Nat) : List Int := (List.range n).map (geti f)

def compS : SC := fun args H nid k => match args with
  | [.sl id 0 0 1 n cap] => match H.get id with
    | some (.row ty 1 m f) => (Ints .i64 f n ∧ 0 < n ∧ n ≤ m ∧ Len n) ∧ k (.sl id 0 0 1 (Lib.compact (compZs f n)).length cap) (H.put id (.row ty 1 n fun _ => [.any])) nid
    | _ => False
  | _ => False

theorem compact_le (zs : List Int) : (Lib.compact zs).length ≤ zs.length := by
  unfold Lib.compact Lib.compactUpTo
  rw [List.length_map]
  exact Nat.le_trans (List.length_filter_le _ _) (by simp)

theorem comp_ok {E : Env} {f : FuncId} (hfn : ∃ fn, E.P.funcs[f]? = some fn ∧ (fn.name == "runtime.NumGoroutine") = false ∧ fn.body.isNone = false)
    (hc : ∀ (blk off cap : Nat) (zs : List Int) (w : World), Holds (Value.int .i64) w blk off zs.toArray → zs.length ≤ 9223372036854775807 → zs.length ≤ cap →
      Calls E.P f #[.slice (some ⟨blk, off, none⟩) zs.length cap] w fun e w' => e = .returned (.slice (some ⟨blk, off, none⟩) (Lib.compact zs).length cap) ∧ ∃ q, w' = putRow (Value.int .i64) (Sort.ahead w q) blk off (Lib.compact zs ++ List.replicate (zs.length - (Lib.compact zs).length) 0).toArray) : SOK E f compS :=
  ⟨hfn, fun args H nid k hfr hk => by
    unfold compS at hk
    split at hk
    rotate_left
    · exact hk.elim
    rename_i id n cap
    split at hk
    rotate_left
    · exact hk.elim
    rename_i ty m g hid
    obtain ⟨⟨h1, h2, h3, h4⟩, hk⟩ := hk
    unfold Len at h4
    refine ⟨_, _, _, hk, fun i hi => ?_, fun Z γ w vs hs hg hsz hv => ?_⟩
    · rw [Tr.get_put]
      have : i ≠ id := fun e => by rw [e] at hi; rw [hfr id hi] at hid; cases hid
      rw [if_neg this]; exact hfr i hi
    match vs, hsz with
    | ⟨[v]⟩, _ =>
      have hv0 := hv 0 _ v rfl rfl
      obtain ⟨b, hb, hzb, arr, ha, hasz, hrel⟩ := hs.own id _ hid rfl
      cases hv0
      rotate_left
      · omega
      rename_i b' c q0 q1 q2 q3 q4
      have hb' : γ id = some b' := q0
      rw [hb] at hb'; cases hb'
      have hnc : n ≤ c := by assumption
      have hcap : ∀ c0, cap = some c0 → c = c0 := by assumption
      have hshape : ∀ ty m, w.shape? b = some (ty, m) → 0 + (0 + c) * 1 ≤ m := by assumption
      have hzl : (compZs g n).length = n := by simp [compZs]
      have harr : ∀ j, j < n → arr[j]? = some (.int .i64 ((compZs g n).getD j 0)) := fun j hj => by
        have hlt : j < arr.size := by omega
        have := hrel j 0 (.int false .i64 (geti g j)) arr[j] (by omega) (by omega) (by rw [h1 j hj]; rfl) (by simp [hlt])
        rw [Array.getElem?_eq_getElem hlt]
        generalize arr[j] = y at this
        cases this
        simp [List.getD, compZs, hj]
      have hH : Holds (Value.int .i64) w b (0 + 0 * 1) (compZs g n).toArray := fun j hj => by
        have hj' : j < n := by simpa [hzl] using hj
        refine ⟨?_, frozen_of_row w b _ arr ty ha⟩
        rw [cell_of_row w b _ arr ty _ ha]
        have := harr j hj'
        simp only [Nat.zero_mul, Nat.add_zero, Nat.zero_add] at this ⊢
        rw [this]
        congr 2
        simp [List.getD, hzl, hj']
      have hle := compact_le (compZs g n)
      rw [hzl] at hle
      have := hc b (0 + 0 * 1) c (compZs g n) w hH (by omega) (by omega)
      rw [hzl] at this
      refine this.mono ?_
      rintro e w' ⟨rfl, q, rfl⟩
      have hl2 : (Lib.compact (compZs g n) ++ List.replicate (n - (Lib.compact (compZs g n)).length) 0).length = n := by simp; omega
      obtain ⟨g1, g2⟩ := put_row hs hid rfl hb ha (Lib.compact (compZs g n) ++ List.replicate (n - (Lib.compact (compZs g n)).length) 0) q #[] (ch := .row ty 1 n fun _ => [.any]) (fun w' hw' => by
        refine ⟨_, hw', ?_, fun i j x v hi hj hx hv => ?_⟩
        · simp [putCells]; omega
        · have hj0 : j = 0 := by omega
          subst hj0
          simp at hx
          subst hx
          exact .any)
      rw [grow_empty] at g1 g2
      refine ⟨_, Z, γ, rfl, ?_, g1, g2⟩
      exact .sl hb (by omega) hcap (fun ty m hm => hshape ty m (by rw [← g2.shape b (hs.rng id b hb)]; exact hm))⟩

end Go.Sx
