/- Part of an own symbolic executor for the model's code, proved sound, and of the proof of one statement (see the text of the claimed theorem). -/
import Derived.Test.YtkpkfccgbehilaaGreatDoorSxAE
namespace Go.Sx

/-! # Loops by invariants: between two rounds the state is laid anew -/
def getT (t : Tr AV) : List Nat → Option (List AV)
  | [] => some []
  | d :: l => match t.get d, getT t l with
    | some a, some as => some (a :: as)
    | _, _ => none

def putT : List Nat → List AV → Tr AV → Tr AV
  | d :: l, a :: as, t => putT l as (t.put d a)
  | _, _, t => t

theorem getT_get {t : Tr AV} : ∀ {l : List Nat} {as : List AV}, getT t l = some as → as.length = l.length ∧ ∀ (j d : Nat) (x : AV), l[j]? = some d → as[j]? = some x → t.get d = some x
  | [], as, h => by simp only [getT] at h; cases h; exact ⟨rfl, fun j d x h => by simp at h⟩
  | d :: l, as, h => by
    simp only [getT] at h
    split at h
    · rename_i a as' h1 h2
      cases h
      obtain ⟨g1, g2⟩ := getT_get h2
      refine ⟨by simp [g1], fun j e x hj hx => ?_⟩
      cases j with
      | zero => simp at hj hx; subst hj; subst hx; exact h1
      | succ j => exact g2 j e x (by simpa using hj) (by simpa using hx)
    · cases h

theorem putT_get : ∀ {l : List Nat} {as : List AV} {t : Tr AV} {i : Nat} {x : AV}, (putT l as t).get i = some x → t.get i = some x ∨ ∃ j : Nat, l[j]? = some i ∧ as[j]? = some x
  | [], as, t, i, x, h => .inl (by simpa [putT] using h)
  | d :: l, [], t, i, x, h => .inl (by simpa [putT] using h)
  | d :: l, a :: as, t, i, x, h => by
    rw [putT] at h
    rcases putT_get h with h | ⟨j, h1, h2⟩
    · rw [Tr.get_put] at h
      split at h
      · rename_i e; cases h; exact .inr ⟨0, by simp [e], by simp⟩
      · exact .inl h
    · exact .inr ⟨j + 1, by simpa using h1, by simpa using h2⟩

/-- Numbers no longer marked as written out. -/
def clr : Nat → AV → AV
  | 0, a => a
  | n + 1, a => match a with
    | .int _ k x => .int false k x
    | .agg cs => .agg (mapA (clr n) cs)
    | .tup cs => .tup (mapA (clr n) cs)
    | .iface t v => .iface t (clr n v)
    | .iref cs => .iref (mapA (clr n) cs)
    | .isl sz m cap f => .isl sz m cap (fun i => mapA (clr n) (f i))
    | a => a

theorem clr_rel {Z : Nat → Prop} {w : World} {γ : Gam} : ∀ (n : Nat) {a : AV} {v : Value}, VRel Z w γ a v → VRel Z w γ (clr n a) v
  | 0, _, _, h => h
  | n + 1, a, v, h => by
    cases a <;> first
      | exact h
      | (cases h; exact .int)
      | (cases h; rename_i h1 h2
         first
          | exact .agg (by rw [mapA_length]; exact h1) fun i c u hc hu => by
              obtain ⟨x, hx, rfl⟩ := mapA_get _ _ _ _ hc
              exact clr_rel n (h2 i x u hx hu)
          | exact .tup (by rw [mapA_length]; exact h1) fun i c u hc hu => by
              obtain ⟨x, hx, rfl⟩ := mapA_get _ _ _ _ hc
              exact clr_rel n (h2 i x u hx hu))
      | (cases h; rename_i h1; exact .iface (clr_rel n h1))
      | (cases h; rename_i a vs h1 h2 h3 h4
         refine .iref (vs := vs) (by assumption) (by assumption) (fun i c hc => ?_) (fun i c hc => ?_)
         · obtain ⟨x, hx, rfl⟩ := mapA_get _ _ _ _ hc
           first | exact h3 i x hx | exact h4 i x hx | exact h1 i x hx | exact h2 i x hx
         · obtain ⟨x, hx, rfl⟩ := mapA_get _ _ _ _ hc
           refine clr_rel n ?_
           first | exact h3 i x hx | exact h4 i x hx | exact h1 i x hx | exact h2 i x hx)
      | (cases h
         · rename_i a c vs h1 h2 h3 h4 h5 h6
           refine .isl (vs := vs) (by assumption) (by assumption) (by assumption) (by assumption) (fun i j x hi hx => ?_) (fun i j x hi hx => ?_)
           · obtain ⟨y, hy, rfl⟩ := mapA_get _ _ _ _ hx
             first | exact h5 i j y hi hy | exact h6 i j y hi hy | exact h1 i j y hi hy | exact h2 i j y hi hy
           · obtain ⟨y, hy, rfl⟩ := mapA_get _ _ _ _ hx
             refine clr_rel n ?_
             first | exact h5 i j y hi hy | exact h6 i j y hi hy | exact h1 i j y hi hy | exact h2 i j y hi hy
         · exact .isl0 (by assumption) (by assumption))

/-- What lies there, in order. -/
def liveL (H : Heap) : List Nat → List (Nat × Chunk)
  | [] => []
  | i :: l => match H.get i with
    | some ch => (i, ch) :: liveL H l
    | none => liveL H l

def renL (ρ : Nat → Option Nat) : List (Nat × Chunk) → List (Nat × Chunk)
  | [] => []
  | (i, c) :: l => (i, renC ρ false c) :: renL ρ l

theorem liveL_mem {H : Heap} : ∀ {l : List Nat} {p : Nat × Chunk}, p ∈ liveL H l → p.1 ∈ l ∧ H.get p.1 = some p.2
  | [], p, h => by cases h
  | i :: l, p, h => by
    simp only [liveL] at h
    split at h
    · rename_i ch hc
      rcases List.mem_cons.1 h with rfl | h
      · exact ⟨List.mem_cons_self, hc⟩
      · have := liveL_mem h; exact ⟨List.mem_cons_of_mem _ this.1, this.2⟩
    · have := liveL_mem h; exact ⟨List.mem_cons_of_mem _ this.1, this.2⟩

theorem puts_liveL {ρ : Nat → Option Nat} {H : Heap} : ∀ (l : List Nat) (G : Heap) (i : Nat), (G.puts (renL ρ (liveL H l))).get i = if i ∈ l ∧ (H.get i).isSome = true then (H.get i).map (renC ρ false) else G.get i
  | [], G, i => by simp [liveL, renL, Tr.puts]
  | a :: l, G, i => by
    simp only [liveL]
    cases ha : H.get a with
    | none =>
      simp only
      rw [puts_liveL l G i]
      by_cases e : i = a
      · subst e; simp [ha]
      · simp [e]
    | some ch =>
      simp only [renL, Tr.puts]
      rw [puts_liveL l _ i, Tr.get_put]
      by_cases e : i = a
      · subst e; simp [ha]
      · simp [e]

theorem mem_count : ∀ (n k i : Nat), i ∈ count k n ↔ k ≤ i ∧ i < k + n
  | 0, k, i => by simp [count]
  | n + 1, k, i => by simp only [count, List.mem_cons, mem_count n (k + 1) i]; omega

def allGe (lo : Nat) : List Nat → Bool
  | [] => true
  | a :: l => match Nat.ble lo a with
    | true => allGe lo l
    | false => false

theorem allGe_spec {lo : Nat} : ∀ {l : List Nat}, allGe lo l = true → ∀ (q a : Nat), l[q]? = some a → lo ≤ a
  | [], _, q, a, h => by simp at h
  | b :: l, h, q, a, hq => by
    unfold allGe at h
    split at h
    · rename_i hb
      cases q with
      | zero => simp at hq; subst hq; exact Nat.le_of_ble_eq_true hb
      | succ q => exact allGe_spec h q a (by simpa using hq)
    · cases h

def gcR (nid0 : Nat) (N : List Nat) (i : Nat) : Option Nat :=
  match Nat.blt i nid0 with
  | true => some i
  | false => (tabFrom nid0 N .e).get i

def gcGo (nid0 : Nat) (keep : List Nat) (xs : List AV) (st : St) (N : List Nat) : Option St :=
  match chunksOf st.H N, nodupB N, allGe nid0 N with
  | some cs, true, true => some ⟨putT keep (mapA (clr deep) (mapA (ren (gcR nid0 N) false deep) xs)) .e, Tr.puts (Tr.puts .e (renL (gcR nid0 N) (liveL st.H (count 0 nid0)))) (layFrom (gcR nid0 N) false nid0 cs), nid0 + N.length, st.nt, none⟩
  | _, _, _ => none

/-- The state laid anew: of the slots those of 'keep'; of what was laid behind 'nid0' what is led to. -/
def gcS (nid0 : Nat) (keep : List Nat) (st : St) : Option St :=
  match st.dm, getT st.t keep with
  | none, some xs => gcGo nid0 keep xs st ((reach st.H reachFuel 0 (idsL (ids deep) xs (count 0 nid0))).drop nid0)
  | _, _ => none

theorem gc_core {st : Heap} {nid0 : Nat} {N : List Nat} {cs : List Chunk} (hcs : chunksOf st N = some cs) (hnd : nodupB N = true) (hge : allGe nid0 N = true) :
    (∀ i, nid0 + N.length ≤ i → (Tr.puts (Tr.puts (.e : Heap) (renL (gcR nid0 N) (liveL st (count 0 nid0)))) (layFrom (gcR nid0 N) false nid0 cs)).get i = none) ∧ ∀ {Z γ H w Z1 γ1 w1}, Sat Z1 γ1 st w1 → Run Z γ H w Z1 γ1 st w1 → (∀ i b, γ i = some b → i < nid0) →
    ∃ γ2, Sat Z1 γ2 (Tr.puts (Tr.puts (.e : Heap) (renL (gcR nid0 N) (liveL st (count 0 nid0)))) (layFrom (gcR nid0 N) false nid0 cs)) w1 ∧ (∀ (n : Nat) (a : AV) (v : Value), VRel Z1 w1 γ1 a v → VRel Z1 w1 γ2 (ren (gcR nid0 N) false n a) v) ∧
      Run Z γ H w Z1 γ2 (Tr.puts (Tr.puts (.e : Heap) (renL (gcR nid0 N) (liveL st (count 0 nid0)))) (layFrom (gcR nid0 N) false nid0 cs)) w1 := by
  obtain ⟨hlen, hget⟩ := chunksOf_get hcs
  have hnd := nodupB_spec hnd
  have hge := allGe_spec hge
  generalize hρe : gcR nid0 N = ρ
  have hH2 : ∀ i, (Tr.puts (Tr.puts (.e : Heap) (renL ρ (liveL st (count 0 nid0)))) (layFrom ρ false nid0 cs)).get i =
      if nid0 ≤ i ∧ i < nid0 + N.length then (cs[i - nid0]?).map (renC ρ false) else if i < nid0 then (st.get i).map (renC ρ false) else none := fun i => by
    rw [layFrom_get, hlen, puts_liveL, Tr.get_e]
    by_cases h1 : nid0 ≤ i ∧ i < nid0 + N.length
    · rw [if_pos h1, if_pos h1]
    · rw [if_neg h1, if_neg h1]
      by_cases h2 : i < nid0
      · rw [if_pos h2]
        cases hg : st.get i with
        | none => simp
        | some c => rw [if_pos ⟨(mem_count _ _ _).2 (by omega), rfl⟩]
      · rw [if_neg h2, if_neg (fun h => h2 (by have := (mem_count _ _ _).1 h.1; omega))]
  refine ⟨fun i hi => ?_, fun {Z γ H w Z1 γ1 w1} hs hr hlt => ?_⟩
  · rw [hH2, if_neg (by omega), if_neg (by omega)]
  let γ2 : Gam := fun i => if nid0 ≤ i ∧ i < nid0 + N.length then (N[i - nid0]?).bind γ1 else if i < nid0 then γ1 i else none
  have h2old : ∀ i, i < nid0 → γ2 i = γ1 i := fun i hi => by simp only [γ2]; rw [if_neg (by omega), if_pos hi]
  have h2new : ∀ (q i : Nat), N[q]? = some i → γ2 (nid0 + q) = γ1 i := fun q i hq => by
    have := (List.getElem?_eq_some_iff.1 hq).1
    simp only [γ2]; rw [if_pos (by omega)]; simp [hq]
  have hρ : ∀ i j, ρ i = some j → γ2 j = γ1 i := fun i j hij => by
    rw [← hρe] at hij
    unfold gcR at hij
    split at hij
    · rename_i hb; cases hij; exact h2old i (Nat.le_of_ble_eq_true hb)
    · rcases tabFrom_get _ _ _ _ _ hij with h | ⟨q, h1, rfl⟩
      · rw [Tr.get_e] at h; cases h
      · exact h2new q i h1
  have hcls : ∀ i ch, (Tr.puts (Tr.puts (.e : Heap) (renL ρ (liveL st (count 0 nid0)))) (layFrom ρ false nid0 cs)).get i = some ch → ch.live = true →
      ∃ j c, st.get j = some c ∧ c.live = true ∧ ch = renC ρ false c ∧ γ2 i = γ1 j ∧ ((i < nid0 ∧ j = i) ∨ (nid0 ≤ i ∧ N[i - nid0]? = some j)) := fun i ch hi hl => by
    rw [hH2] at hi
    split at hi
    · rename_i h1
      have hq : N[i - nid0]? = some N[i - nid0] := List.getElem?_eq_getElem (by omega)
      obtain ⟨c, e1, e2, e3⟩ := hget _ _ hq
      rw [e1] at hi; simp at hi
      have := h2new _ _ hq
      rw [show nid0 + (i - nid0) = i by omega] at this
      exact ⟨_, c, e2, e3, hi.symm, this, .inr ⟨h1.1, hq⟩⟩
    · split at hi
      · rename_i h1 h2
        cases hg : st.get i with
        | none => rw [hg] at hi; cases hi
        | some c =>
          rw [hg] at hi; simp at hi
          refine ⟨i, c, hg, ?_, hi.symm, h2old i h2, .inl ⟨h2, rfl⟩⟩
          rw [← hi] at hl
          cases c <;> first | rfl | exact hl
      · cases hi
  have hsat : Sat Z1 γ2 (Tr.puts (Tr.puts (.e : Heap) (renL ρ (liveL st (count 0 nid0)))) (layFrom ρ false nid0 cs)) w1 := by
    refine ⟨fun i ch hi hl => ?_, fun i j ci cj b hi hli hj hlj hgi hgj => ?_, fun i b hb => ?_, hs.zrng, fun i hi => ?_⟩
    · obtain ⟨j, c, e1, e2, e3, e4, _⟩ := hcls i ch hi hl
      obtain ⟨b, hb, hz, hc⟩ := hs.own j c e1 e2
      exact ⟨b, e4.trans hb, hz, e3 ▸ renC_rel hρ (fun _ _ h => h) hc⟩
    · obtain ⟨q, c, e1, e2, _, e4, e5⟩ := hcls i ci hi hli
      obtain ⟨q', c', e1', e2', _, e4', e5'⟩ := hcls j cj hj hlj
      rw [e4] at hgi; rw [e4'] at hgj
      have := hs.inj q q' c c' b e1 e2 e1' e2' hgi hgj
      subst this
      rcases e5 with ⟨h1, h2⟩ | ⟨h1, h2⟩ <;> rcases e5' with ⟨h1', h2'⟩ | ⟨h1', h2'⟩
      · omega
      · have := hge _ _ h2'; omega
      · have := hge _ _ h2; omega
      · have := hnd _ _ _ h2 h2'; omega
    · simp only [γ2] at hb
      split at hb
      · cases hq : N[i - nid0]? with
        | none => rw [hq] at hb; cases hb
        | some q => rw [hq] at hb; exact hs.rng q b hb
      · split at hb
        · exact hs.rng i b hb
        · cases hb
    · rw [hH2] at hi
      split at hi
      · rename_i h1
        have hq : N[i - nid0]? = some N[i - nid0] := List.getElem?_eq_getElem (by omega)
        obtain ⟨c, e1, _⟩ := hget _ _ hq
        rw [e1] at hi; cases hi
      · rename_i h1
        simp only [γ2]; rw [if_neg h1]
        split at hi
        · rename_i h2
          rw [if_pos h2]
          cases hg : st.get i with
          | none => exact hs.dom i hg
          | some c => rw [hg] at hi; cases hi
        · rename_i h2; rw [if_neg h2]
  refine ⟨γ2, hsat, fun n a v hv => ren_rel hρ (fun _ _ h => h) n hv, ⟨fun i b hb => ?_, hr.zed, hr.size, hr.keep, hr.shape, fun i b hl hb => ?_, hr.znew, hr.tape, hr.os, hr.output⟩⟩
  · rw [h2old i (hlt i b hb)]; exact hr.gam i b hb
  · obtain ⟨ch, h1, h2⟩ := hl
    obtain ⟨j, c, e1, e2, _, e4, _⟩ := hcls i ch h1 h2
    exact hr.gnew j b ⟨c, e1, e2⟩ (e4 ▸ hb)

theorem gc_ok {E : Env} {nid0 : Nat} {keep : List Nat} {st st2 : St} (h : gcS nid0 keep st = some st2) :
    (∀ i, st2.nid ≤ i → st2.H.get i = none) ∧ st2.nt = st.nt ∧ ∀ {Z γ H w Z1 γ1 w1} {a : Act}, SatSt E Z1 γ1 st a w1 → Run Z γ H w Z1 γ1 st.H w1 → (∀ i b, γ i = some b → i < nid0) →
    ∃ γ2, SatSt E Z1 γ2 st2 a w1 ∧ Run Z γ H w Z1 γ2 st2.H w1 := by
  unfold gcS at h
  split at h
  rotate_left
  · cases h
  rename_i xs hdm hxs
  generalize (reach st.H reachFuel 0 (idsL (ids deep) xs (count 0 nid0))).drop nid0 = N at h
  unfold gcGo at h
  split at h
  rotate_left
  · cases h
  rename_i cs hcs hnd hge
  cases h
  obtain ⟨hxl, hxg⟩ := getT_get hxs
  obtain ⟨h1, h2⟩ := gc_core hcs hnd hge
  refine ⟨h1, rfl, fun {Z γ H w Z1 γ1 w1 a} hs hr hlt => ?_⟩
  obtain ⟨γ2, g1, g2, g3⟩ := h2 hs.sat hr hlt
  refine ⟨γ2, ⟨g1, fun i x hi => ?_, hs.size, ?_, h1, hs.glob⟩, g3⟩
  · rcases putT_get hi with h | ⟨j, h1, h2⟩
    · rw [Tr.get_e] at h; cases h
    · obtain ⟨z, hz, rfl⟩ := mapA_get _ _ _ _ h2
      obtain ⟨y, hy, rfl⟩ := mapA_get _ _ _ _ hz
      exact clr_rel _ (g2 _ _ _ (hs.tmp i y (hxg j i y h1 hy)))
  · have := hs.defs; rw [hdm] at this; exact this

/-- What laying anew may do. -/
def GcOk (E : Env) (nid0 : Nat) (g : St → Option St) : Prop :=
  ∀ st st2, g st = some st2 → (∀ i, st.nid ≤ i → st.H.get i = none) → (∀ i, st2.nid ≤ i → st2.H.get i = none) ∧ ∀ {Z γ H w Z1 γ1 w1} {a : Act}, SatSt E Z1 γ1 st a w1 → Run Z γ H w Z1 γ1 st.H w1 → (∀ i b, γ i = some b → i < nid0) →
    ∃ γ2, SatSt E Z1 γ2 st2 a w1 ∧ Run Z γ H w Z1 γ2 st2.H w1

theorem gcS_ok {E : Env} (nid0 : Nat) (keep : List Nat) : GcOk E nid0 (gcS nid0 keep) := fun _ _ h _ => by
  obtain ⟨h1, _, h3⟩ := gc_ok (E := E) h
  exact ⟨h1, h3⟩

/-- Of the slots those of 'keep'; the heap as it is. -/
def gcT (keep : List Nat) (st : St) : Option St :=
  match st.dm, getT st.t keep with
  | none, some xs => some ⟨putT keep (mapA (clr deep) xs) .e, st.H, st.nid, st.nt, none⟩
  | _, _ => none

theorem gcT_ok {E : Env} (nid0 : Nat) (keep : List Nat) : GcOk E nid0 (gcT keep) := fun st st2 h hfr => by
  unfold gcT at h
  split at h
  rotate_left
  · cases h
  rename_i xs hdm hxs
  cases h
  obtain ⟨_, hg⟩ := getT_get hxs
  refine ⟨hfr, fun {Z γ H w Z1 γ1 w1 a} hs hr _ => ⟨γ1, ⟨hs.sat, fun i x hi => ?_, hs.size, (by have := hs.defs; rw [hdm] at this; exact this), hs.fresh, hs.glob⟩, hr⟩⟩
  rcases putT_get hi with h | ⟨j, h1, h2⟩
  · rw [Tr.get_e] at h; cases h
  · obtain ⟨y, hy, rfl⟩ := mapA_get _ _ _ _ h2
    exact clr_rel _ (hs.tmp i y (hg j i y h1 hy))

/-- One round. -/
def roundG (E : Env) (F : Fs) (c : Code) (ls : List LC) (g : St → Option St) (next : St → Prop) (k : Exit → St → Prop) (st : St) : Prop :=
  exec E F c ls st (fun e st' => match e with
    | .normal => match g st' with
      | some st2 => next st2
      | none => False
    | e => k e st')

def roundsG (E : Env) (F : Fs) (c : Code) (ls : List LC) (g : St → Option St) (k : Exit → St → Prop) : Nat → St → Prop
  | 0 => fun _ => False
  | n + 1 => roundG E F c ls g (roundsG E F c ls g k n) k

def loopG (E : Env) (F : Fs) (c : Code) (ls : List LC) (g : Nat → St → Option St) : LC := fun st k => ∃ n, roundsG E F c ls (g st.nid) k n st

theorem loopG_ok {E : Env} {rd : Bool} {F : Fs} (hE : FsEnv E F) {c : Code} {ls : List LC} (hl : LAll E rd c ls) {g : Nat → St → Option St} (hg : ∀ n, GcOk E n (g n)) (st : St) (k : Exit → St → Prop) (h : loopG E F c ls g st k) : COK E rd (.loop c) st k := by
  obtain ⟨n, h⟩ := h
  intro hfr
  have key : ∀ (n : Nat) (st1 : St), roundsG E F c ls (g st.nid) k n st1 → (∀ i, st1.nid ≤ i → st1.H.get i = none) → ∃ e st', k e st' ∧ (∀ i, st'.nid ≤ i → st'.H.get i = none) ∧
      ∀ R, (rd = false → R = none) → ∀ Z γ w, (∀ i b, γ i = some b → i < st.nid) → ∀ Z1 γ1 a1 w1, SatSt E Z1 γ1 st1 a1 w1 → Run Z γ st.H w Z1 γ1 st1.H w1 → ∀ Q : Exit → Act → World → Prop, (∀ Z' γ' a' w', SatSt E Z' γ' st' a' w' → Run Z γ st.H w Z' γ' st'.H w' → Q e a' w') → Code.roundsIn (FR R) 0 E.P c Q n a1 w1 := by
    intro n
    induction n with
    | zero => intro st1 h; exact h.elim
    | succ n ih =>
      intro st1 h hfr1
      unfold roundsG roundG at h
      obtain ⟨e, st', h1, h2, h3⟩ := exec_ok hE c ls st1 _ hl h hfr1
      have stop : e ≠ .normal → k e st' → ∃ e st', k e st' ∧ (∀ i, st'.nid ≤ i → st'.H.get i = none) ∧
          ∀ R, (rd = false → R = none) → ∀ Z γ w, (∀ i b, γ i = some b → i < st.nid) → ∀ Z1 γ1 a1 w1, SatSt E Z1 γ1 st1 a1 w1 → Run Z γ st.H w Z1 γ1 st1.H w1 → ∀ Q : Exit → Act → World → Prop, (∀ Z' γ' a' w', SatSt E Z' γ' st' a' w' → Run Z γ st.H w Z' γ' st'.H w' → Q e a' w') → Code.roundsIn (FR R) 0 E.P c Q (n + 1) a1 w1 := fun hne hk =>
        ⟨e, st', hk, h2, fun R hR Z γ w hlt Z1 γ1 a1 w1 hs hr Q hq => wpIn_mono (h3 R hR Z1 γ1 a1 w1 hs) fun e' a' w' ⟨e1, Z', γ', g1, g2⟩ => by
          subst e1
          cases e' <;> first | exact absurd rfl hne | exact hq Z' γ' a' w' g1 (hr.trans g2)⟩
      cases e with
      | normal =>
        simp only at h1
        split at h1
        · rename_i st2 hgs
          obtain ⟨hf2, hg2⟩ := hg _ _ _ hgs h2
          obtain ⟨e2, st3, k1, k2, k3⟩ := ih st2 h1 hf2
          refine ⟨e2, st3, k1, k2, fun R hR Z γ w hlt Z1 γ1 a1 w1 hs hr Q hq => wpIn_mono (h3 R hR Z1 γ1 a1 w1 hs) fun e' a' w' ⟨e1, Z', γ', g1, g2⟩ => ?_⟩
          subst e1
          obtain ⟨γ2, q1, q2⟩ := hg2 g1 (hr.trans g2) hlt
          exact k3 R hR Z γ w hlt Z' γ2 a' w' q1 q2 Q hq
        · exact h1.elim
      | _ => exact stop (by intro h; cases h) h1
  obtain ⟨e, st', h1, h2, h3⟩ := key n st h hfr
  refine ⟨e, st', h1, h2, fun R hR Z γ a w hs => wpIn_loop_rounds n (h3 R hR Z γ w (fun i b hb => ?_) Z γ a w hs (Run.refl ..) _ fun Z' γ' a' w' g1 g2 => ⟨rfl, Z', γ', g1, g2⟩)⟩
  apply Classical.byContradiction; intro hge
  have := hs.sat.dom i (hfr i (by omega)); rw [this] at hb; cases hb

/-- Round by round to an end; 'S i': the state ahead of round 'i'; 'D i': what is left to be shown there. -/
theorem loop_ind {E : Env} {F : Fs} {c : Code} {ls : List LC} {g : Nat → St → Option St} {k : Exit → St → Prop} (S : Nat → St) (D : Nat → Prop) (n : Nat)
    (hstep : ∀ i, i < n → D i → ∀ next : St → Prop, (D (i + 1) → next (S (i + 1))) → roundG E F c ls (g (S 0).nid) next k (S i)) (hend : D n → ∀ next : St → Prop, roundG E F c ls (g (S 0).nid) next k (S n)) (h0 : D 0) :
    loopG E F c ls g (S 0) k := by
  have key : ∀ (m i : Nat), i + m = n → D i → roundsG E F c ls (g (S 0).nid) k (m + 1) (S i) := by
    intro m
    induction m with
    | zero => intro i hi hd; have : i = n := by omega
              subst this; exact hend hd _
    | succ m ih => intro i hi hd; exact hstep i (by omega) hd _ fun hd' => ih (i + 1) (by omega) hd'
  exact ⟨n + 1, key n 0 (by omega) h0⟩

/-! ## what a loop comes to, as a function of slots and heap -/
abbrev LSC := List AV → Heap → Nat → (Exit → List AV → Heap → Nat → Prop) → Prop

def LCd (nt : Nat) (ins outs : List Nat) (ls : LSC) : LC := fun st k =>
  match st.dm, getT st.t ins, Nat.beq st.nt nt with
  | none, some args, true => ls (mapA (clr deep) args) st.H st.nid (fun e rs H' nid' => k e ⟨putT outs rs .e, H', nid', nt, none⟩)
  | _, _, _ => False

/-- what holds at a loop's end -/
def endK (outs : List Nat) (nt : Nat) (K : Exit → List AV → Heap → Nat → Prop) (e : Exit) (st' : St) : Prop :=
  match getT st'.t outs, st'.dm, Nat.beq st'.nt nt with
  | some rs, none, true => K e rs st'.H st'.nid
  | _, _, _ => False

def LSOK (E : Env) (rd : Bool) (c : Code) (nt : Nat) (ins outs : List Nat) (ls : LSC) : Prop :=
  ∀ args H nid K, (∀ i, nid ≤ i → H.get i = none) → ls args H nid K → COK E rd c ⟨putT ins args .e, H, nid, nt, none⟩ (endK outs nt K)

/-- At the end the state is laid anew, too. -/
theorem COK.gc {E : Env} {rd : Bool} {c : Code} {st : St} {k : Exit → St → Prop} (outs : List Nat) (h : COK E rd c st (fun e st' => match gcS st.nid outs st' with
    | some st2 => k e st2
    | none => False)) : COK E rd c st k := by
  intro hfr
  obtain ⟨e, st', h1, h2, h3⟩ := h hfr
  split at h1
  rotate_left
  · exact h1.elim
  rename_i st2 hg
  obtain ⟨g1, g2, g3⟩ := gc_ok (E := E) hg
  refine ⟨e, st2, h1, g1, fun R hR Z γ a w hs => wpIn_mono (h3 R hR Z γ a w hs) fun e' a' w' ⟨e1, Z', γ', q1, q2⟩ => ?_⟩
  obtain ⟨γ2, r1, r2⟩ := g3 q1 q2 (fun i b hb => by
    apply Classical.byContradiction; intro hge
    have := hs.sat.dom i (hfr i (by omega)); rw [this] at hb; cases hb)
  exact ⟨e1, Z', γ2, r1, r2⟩

def endG (nid : Nat) (outs : List Nat) (nt : Nat) (K : Exit → List AV → Heap → Nat → Prop) (e : Exit) (st' : St) : Prop :=
  match gcS nid outs st' with
  | some st2 => endK outs nt K e st2
  | none => False

theorem COK.gcE {E : Env} {rd : Bool} {c : Code} {st : St} {outs : List Nat} {nt : Nat} {K : Exit → List AV → Heap → Nat → Prop} (nid : Nat) (hn : st.nid = nid) (h : COK E rd c st (endG nid outs nt K)) : COK E rd c st (endK outs nt K) := by
  subst hn
  exact COK.gc outs h

theorem SatSt.less {E Z γ st a w} (h : SatSt E Z γ st a w) {t : Tr AV} (ht : ∀ i x, t.get i = some x → st.t.get i = some x) : SatSt E Z γ { st with t := t } a w :=
  ⟨h.sat, fun i x hi => h.tmp i x (ht i x hi), h.size, h.defs, h.fresh, h.glob⟩

theorem LCd_ok {E : Env} {rd : Bool} {c : Code} {ins outs : List Nat} {nt : Nat} {ls : LSC} (h : LSOK E rd c nt ins outs ls) (st : St) (k : Exit → St → Prop) (hk : LCd nt ins outs ls st k) : COK E rd c st k := by
  unfold LCd at hk
  split at hk
  rotate_left
  · exact hk.elim
  rename_i args hdm hargs hnt0
  have hnt0 := Nat.eq_of_beq_eq_true hnt0
  subst hnt0
  obtain ⟨hl, hg⟩ := getT_get hargs
  intro hfr
  obtain ⟨e, st', h1, h2, h3⟩ := h _ st.H st.nid _ hfr hk hfr
  unfold endK at h1
  split at h1
  rotate_left
  · exact h1.elim
  rename_i rs hrs hdm' hnt
  have hnt := Nat.eq_of_beq_eq_true hnt
  obtain ⟨hrl, hrg⟩ := getT_get hrs
  have hless : ∀ i x, (putT ins (mapA (clr deep) args) .e).get i = some x → ∃ y, st.t.get i = some y ∧ x = clr deep y := fun i x hi => by
    rcases putT_get hi with h | ⟨j, h4, h5⟩
    · rw [Tr.get_e] at h; cases h
    · obtain ⟨y, hy, rfl⟩ := mapA_get _ _ _ _ h5
      exact ⟨y, hg j i y h4 hy, rfl⟩
  have hless2 : ∀ i x, (putT outs rs .e).get i = some x → st'.t.get i = some x := fun i x hi => by
    rcases putT_get hi with h | ⟨j, h4, h5⟩
    · rw [Tr.get_e] at h; cases h
    · exact hrg j i x h4 h5
  refine ⟨e, _, h1, h2, fun R hR Z γ a w hs => ?_⟩
  have hs1 : SatSt E Z γ ⟨putT ins (mapA (clr deep) args) .e, st.H, st.nid, st.nt, none⟩ a w :=
    ⟨hs.sat, fun i x hi => by
      obtain ⟨y, h4, rfl⟩ := hless i x hi
      exact clr_rel _ (hs.tmp i y h4), hs.size, (by have := hs.defs; rw [hdm] at this; exact this), hs.fresh, hs.glob⟩
  refine wpIn_mono (h3 R hR Z γ a w hs1) fun e' a' w' ⟨e1, Z', γ', g1, g2⟩ => ⟨e1, Z', γ', ?_, g2⟩
  have := g1.less hless2
  rw [hdm', hnt] at this; exact this

/-! ## a state of a known shape -/
theorem Sat.congr' {Z γ w} {H H' : Heap} (e : ∀ i, H'.get i = H.get i) : Sat Z γ H w ↔ Sat Z γ H' w :=
  ⟨fun h => h.congrZ e, fun h => h.congrZ fun i => (e i).symm⟩

theorem Run.congrL {Z γ H w Z' γ' H' w' H2} (h : Run Z γ H w Z' γ' H' w') (e : ∀ i, H2.get i = H.get i) : Run Z γ H2 w Z' γ' H' w' where
  gam := h.gam
  zed := h.zed
  size := h.size
  keep b hb hn := h.keep b hb fun i hl => hn i ((Live.congr e).2 hl)
  shape := h.shape
  gnew i b hl hb := by
    rcases h.gnew i b hl hb with ⟨j, h1, h2⟩ | h1
    · exact .inl ⟨j, (Live.congr e).2 h1, h2⟩
    · exact .inr h1
  znew b hb := by
    rcases h.znew b hb with h1 | h1 | ⟨j, h1, h2⟩
    · exact .inl h1
    · exact .inr (.inl h1)
    · exact .inr (.inr ⟨j, (Live.congr e).2 h1, h2⟩)
  tape := h.tape
  os := h.os
  output := h.output

theorem COK.heap {E : Env} {rd : Bool} {c : Code} {st : St} {k : Exit → St → Prop} {H : Heap} (h : COK E rd c { st with H := H } k) (e : ∀ i, H.get i = st.H.get i) : COK E rd c st k := by
  intro hfr
  obtain ⟨x, st', h1, h2, h3⟩ := h (fun i hi => (e i).trans (hfr i hi))
  refine ⟨x, st', h1, h2, fun R hR Z γ a w hs => wpIn_mono (h3 R hR Z γ a w ⟨hs.sat.congrZ e, hs.tmp, hs.size, hs.defs, fun i hi => (e i).trans (hs.fresh i hi), hs.glob⟩) fun e' a' w' ⟨e1, Z', γ', g1, g2⟩ => ⟨e1, Z', γ', g1, g2.congrL fun i => (e i).symm⟩⟩

theorem puts_live (H : Heap) : ∀ (l : List Nat) (G : Heap) (i : Nat), (G.puts (liveL H l)).get i = if i ∈ l ∧ (H.get i).isSome = true then H.get i else G.get i
  | [], G, i => by simp [liveL, Tr.puts]
  | a :: l, G, i => by
    simp only [liveL]
    cases ha : H.get a with
    | none =>
      simp only
      rw [puts_live H l G i]
      by_cases e : i = a
      · subst e; simp [ha]
      · simp [e]
    | some ch =>
      simp only [Tr.puts]
      rw [puts_live H l _ i, Tr.get_put]
      by_cases e : i = a
      · subst e; simp [ha]
      · simp [e]

theorem live_all {H : Heap} {nid : Nat} (hfr : ∀ i, nid ≤ i → H.get i = none) (i : Nat) : (Tr.puts (.e : Heap) (liveL H (count 0 nid))).get i = H.get i := by
  rw [puts_live]
  by_cases h : i < nid
  · cases hg : H.get i with
    | none => simp [Tr.get_e]
    | some c => rw [if_pos ⟨(mem_count _ _ _).2 (by omega), by simp⟩]
  · rw [hfr i (by omega), if_neg (fun h => by simp at h), Tr.get_e]

/-- A heap of just so many names, by what lies there. -/
abbrev LSP := List AV → List (Nat × Chunk) → (Exit → List AV → Heap → Nat → Prop) → Prop

def atN (N : Nat) (sp : LSP) : LSC := fun args H nid K =>
  match Nat.beq nid N with
  | true => sp args (liveL H (count 0 N)) K
  | false => False

theorem LSOK_at {E : Env} {rd : Bool} {c : Code} {ins outs : List Nat} {N : Nat} {sp : LSP} {nt : Nat} (h : ∀ args L K, (∀ i, N ≤ i → (Tr.puts (.e : Heap) L).get i = none) → sp args L K → COK E rd c ⟨putT ins args .e, Tr.puts .e L, N, nt, none⟩ (endK outs nt K)) : LSOK E rd c nt ins outs (atN N sp) := by
  intro args H nid K hfr hs
  unfold atN at hs
  split at hs
  rotate_left
  · exact hs.elim
  rename_i hb
  have := Nat.eq_of_beq_eq_true hb
  subst this
  exact COK.heap (st := ⟨putT ins args .e, H, nid, nt, none⟩) (h args _ K (fun i hi => (live_all hfr i).trans (hfr i hi)) hs) (live_all hfr)

/-! # Functions -/
theorem SOK.of {E : Env} {f : FuncId} {sc sc' : SC} (h : SOK E f sc') (imp : ∀ args H nid k, (∀ i, nid ≤ i → H.get i = none) → sc args H nid k → sc' args H nid k) : SOK E f sc :=
  ⟨h.fn, fun args H nid k hfr hk => h.run args H nid k hfr (imp args H nid k hfr hk)⟩

/-- Numbers that come and go are not marked. -/
def clrSC (sc : SC) : SC := fun args H nid k => sc (mapA (clr deep) args) H nid (fun r H' n => k (clr deep r) H' n)

theorem clrSC_ok {E : Env} {f : FuncId} {sc : SC} (h : SOK E f sc) : SOK E f (clrSC sc) :=
  ⟨h.fn, fun args H nid k hfr hk => by
    obtain ⟨r, H', nid', h1, h2, h3⟩ := h.run _ H nid _ hfr hk
    refine ⟨_, H', nid', h1, h2, fun Z γ w vs hs hg hsz hv => (h3 Z γ w vs hs hg (by rw [mapA_length]; exact hsz) fun i c v hc hv' => ?_).mono fun e w' ⟨v, Z', γ', g1, g2, g3, g4⟩ => ⟨v, Z', γ', g1, clr_rel _ g2, g3, g4⟩⟩
    obtain ⟨x, hx, rfl⟩ := mapA_get _ _ _ _ hc
    exact clr_rel _ (hv i x v hx hv')⟩

def endGo (nid0 : Nat) (r : AV) (H' : Heap) (k : AV → Heap → Nat → Prop) (N : List Nat) : Prop :=
  match chunksOf H' N, nodupB N, allGe nid0 N with
  | some cs, true, true => k (ren (gcR nid0 N) false deep r) (Tr.puts (Tr.puts .e (renL (gcR nid0 N) (liveL H' (count 0 nid0)))) (layFrom (gcR nid0 N) false nid0 cs)) (nid0 + N.length)
  | _, _, _ => False

/-- At the end what is led to of what was laid is laid anew; the rest is let go. -/
def gcSC (sc : SC) : SC := fun args H nid k => sc args H nid (fun r H' _ => endGo nid r H' k ((reach H' reachFuel 0 (ids deep r (count 0 nid))).drop nid))

theorem gcSC_ok {E : Env} {f : FuncId} {sc : SC} (h : SOK E f sc) : SOK E f (gcSC sc) :=
  ⟨h.fn, fun args H nid k hfr hk => by
    obtain ⟨r, H', nid', h1, _, h3⟩ := h.run args H nid _ hfr hk
    generalize (reach H' reachFuel 0 (ids deep r (count 0 nid))).drop nid = N at h1
    unfold endGo at h1
    split at h1
    rotate_left
    · exact h1.elim
    rename_i cs hcs hnd hge
    obtain ⟨g1, g2⟩ := gc_core hcs hnd hge
    refine ⟨_, _, _, h1, g1, fun Z γ w vs hs hg hsz hv => (h3 Z γ w vs hs hg hsz hv).mono fun e w' ⟨v, Z', γ', e1, e2, e3, e4⟩ => ?_⟩
    obtain ⟨γ2, q1, q2, q3⟩ := g2 e3 e4 (fun i b hb => by
      apply Classical.byContradiction; intro hge
      have := hs.dom i (hfr i (by omega)); rw [this] at hb; cases hb)
    exact ⟨v, Z', γ2, e1, q2 _ _ _ e2, q1, q3⟩⟩

/-- From a heap of just so many names. -/
abbrev SCP := List AV → List (Nat × Chunk) → (AV → Heap → Nat → Prop) → Prop

def scN (N : Nat) (sp : SCP) : SC := fun args H nid k =>
  match Nat.beq nid N with
  | true => sp args (liveL H (count 0 N)) k
  | false => False

theorem SOK.heap {E : Env} {f : FuncId} {N : Nat} {sp : SCP} {sc : SC} (h : SOK E f sc)
    (imp : ∀ args L k, (∀ i, N ≤ i → (Tr.puts (.e : Heap) L).get i = none) → sp args L k → sc args (Tr.puts .e L) N k) : SOK E f (scN N sp) :=
  ⟨h.fn, fun args H nid k hfr hk => by
    unfold scN at hk
    split at hk
    rotate_left
    · exact hk.elim
    rename_i hb
    have := Nat.eq_of_beq_eq_true hb
    subst this
    have hall := live_all hfr
    have hfr' : ∀ i, nid ≤ i → (Tr.puts (.e : Heap) (liveL H (count 0 nid))).get i = none := fun i hi => (hall i).trans (hfr i hi)
    obtain ⟨r, H', nid', h1, h2, h3⟩ := h.run _ _ nid k hfr' (imp _ _ k hfr' hk)
    exact ⟨r, H', nid', h1, h2, fun Z γ w vs hs hg hsz hv => (h3 Z γ w vs (hs.congrZ hall) hg hsz hv).mono fun e w' ⟨v, Z', γ', g1, g2, g3, g4⟩ => ⟨v, Z', γ', g1, g2, g3, g4.congrL fun i => (hall i).symm⟩⟩⟩

end Go.Sx

namespace Go.Sx

/-! # A value said in weaker words -/
def Wk (a a' : AV) : Prop := ∀ Z w γ v, VRel Z w γ a v → VRel Z w γ a' v

theorem Wk.refl (a : AV) : Wk a a := fun _ _ _ _ h => h
theorem Wk.trans {a b c : AV} (h : Wk a b) (k : Wk b c) : Wk a c := fun Z w γ v hv => k Z w γ v (h Z w γ v hv)
theorem Wk.int {l l' k n} : Wk (.int l k n) (.int l' k n) := fun _ _ _ _ h => by cases h; exact .int
theorem Wk.any {a} : Wk a .any := fun _ _ _ _ _ => .any

theorem Wk.isl {sz n cap f f'} (h : ∀ i, i < n → f i = f' i) : Wk (.isl sz n cap f) (.isl sz n cap f') := fun Z w γ v hv => by
  cases hv
  · rename_i a c vs h1 h2 h3 h4 h5 h6
    exact .isl (vs := vs) (by assumption) (by assumption) (by assumption) (by assumption)
      (fun i j x hi hx => by rw [← h i hi] at hx; first | exact h5 i j x hi hx | exact h6 i j x hi hx | exact h1 i j x hi hx | exact h2 i j x hi hx)
      (fun i j x hi hx => by rw [← h i hi] at hx; first | exact h5 i j x hi hx | exact h6 i j x hi hx | exact h1 i j x hi hx | exact h2 i j x hi hx)
  · exact .isl0 (by assumption) (by assumption)

theorem Wk.agg {cs cs' : List AV} (hl : cs'.length = cs.length) (h : ∀ (i : Nat) c c', cs[i]? = some c → cs'[i]? = some c' → Wk c c') : Wk (.agg cs) (.agg cs') := fun Z w γ v hv => by
  cases hv
  rename_i vs h1 h2
  refine .agg (by rw [hl]; assumption) fun i c v hc hv => ?_
  have hlt : i < cs.length := by rw [← hl]; exact (List.getElem?_eq_some_iff.1 hc).1
  have hx := List.getElem?_eq_getElem hlt
  exact h i _ c hx hc Z w γ v (by first | exact h2 i _ v hx hv | exact h1 i _ v hx hv)

inductive WkL : List AV → List AV → Prop
  | nil : WkL [] []
  | cons {a b l m} : Wk a b → WkL l m → WkL (a :: l) (b :: m)

theorem WkL.get {l m : List AV} (h : WkL l m) : m.length = l.length ∧ ∀ (i : Nat) b, m[i]? = some b → ∃ a, l[i]? = some a ∧ Wk a b := by
  induction h with
  | nil => exact ⟨rfl, fun i b h => by simp at h⟩
  | cons h1 _ ih =>
    refine ⟨by simp [ih.1], fun i b hb => ?_⟩
    cases i with
    | zero => simp at hb; subst hb; exact ⟨_, rfl, h1⟩
    | succ i => exact ih.2 i b (by simpa using hb)

theorem WkL.refl : ∀ l : List AV, WkL l l
  | [] => .nil
  | a :: l => .cons (.refl a) (.refl l)

theorem WkL.agg {l m : List AV} (h : WkL l m) : Wk (.agg l) (.agg m) :=
  Wk.agg h.get.1 fun i c c' hc hc' => by
    obtain ⟨a, h1, h2⟩ := h.get.2 i c' hc'
    rw [hc] at h1; cases h1; exact h2

/-- Arguments in weaker words. -/
theorem SOK.wk {E : Env} {f : FuncId} {sc sc' : SC} (h : SOK E f sc') (imp : ∀ args H nid k, (∀ i, nid ≤ i → H.get i = none) → sc args H nid k → ∃ args', WkL args args' ∧ sc' args' H nid k) : SOK E f sc :=
  ⟨h.fn, fun args H nid k hfr hk => by
    obtain ⟨args', hw, hk'⟩ := imp args H nid k hfr hk
    obtain ⟨r, H', nid', h1, h2, h3⟩ := h.run args' H nid k hfr hk'
    refine ⟨r, H', nid', h1, h2, fun Z γ w vs hs hg hsz hv => h3 Z γ w vs hs hg (by rw [hw.get.1]; exact hsz) fun i c v hc hv' => ?_⟩
    obtain ⟨a, e1, e2⟩ := hw.get.2 i c hc
    exact e2 _ _ _ _ (hv i a v e1 hv')⟩

/-- The result in weaker words. -/
theorem SOK.res {E : Env} {f : FuncId} {sc sc' : SC} (h : SOK E f sc') (imp : ∀ args H nid k, (∀ i, nid ≤ i → H.get i = none) → sc args H nid k → sc' args H nid (fun r H' nid' => ∃ r', Wk r r' ∧ k r' H' nid')) : SOK E f sc :=
  ⟨h.fn, fun args H nid k hfr hk => by
    obtain ⟨r, H', nid', ⟨r', hw, h1⟩, h2, h3⟩ := h.run args H nid _ hfr (imp args H nid k hfr hk)
    exact ⟨r', H', nid', h1, h2, fun Z γ w vs hs hg hsz hv => (h3 Z γ w vs hs hg hsz hv).mono fun e w' ⟨v, Z', γ', g1, g2, g3, g4⟩ => ⟨v, Z', γ', g1, hw _ _ _ _ g2, g3, g4⟩⟩⟩

/-- A contract out of what the function's code comes to. -/
theorem SOK.spec {E : Env} {f : FuncId} {sc sc' : SC} (h : SOK E f sc') (imp : ∀ args H nid k, (∀ i, nid ≤ i → H.get i = none) → sc args H nid k → ∃ args', WkL args args' ∧ sc' args' H nid (fun r H' nid' => ∃ r', Wk r r' ∧ k r' H' nid')) : SOK E f sc :=
  (h.res (sc := fun args H nid k => sc' args H nid (fun r H' nid' => ∃ r', Wk r r' ∧ k r' H' nid')) fun _ _ _ _ _ h => h).wk imp

/-- A contract from an empty heap. -/
theorem SOK.spec0 {E : Env} {f : FuncId} {sp : SCP} {sc' : SC} (h : SOK E f sc') (imp : ∀ args L k, sp args L k → L = [] ∧ ∃ args', WkL args args' ∧ sc' args' .e 0 (fun r H' nid' => ∃ r', Wk r r' ∧ k r' H' nid')) : SOK E f (scN 0 sp) :=
  (h.spec (sc := fun args H nid k => ∃ args', WkL args args' ∧ sc' args' H nid (fun r H' nid' => ∃ r', Wk r r' ∧ k r' H' nid')) fun _ _ _ _ _ h => h).heap fun args L k _ hk => by
    obtain ⟨rfl, h⟩ := imp args L k hk
    exact h

theorem putT_rel : ∀ {ins : List Nat} {args args' : List AV}, WkL args args' → ∀ {t t' : Tr AV}, (∀ i x, t'.get i = some x → ∃ y, t.get i = some y ∧ Wk y x) →
    ∀ i x, (putT ins args' t').get i = some x → ∃ y, (putT ins args t).get i = some y ∧ Wk y x
  | [], _, _, _, _, _, h, i, x, hx => by simp only [putT] at hx ⊢; exact h i x hx
  | d :: l, _, _, .nil, _, _, h, i, x, hx => by simp only [putT] at hx ⊢; exact h i x hx
  | d :: l, _, _, .cons h1 h2, t, t', h, i, x, hx => by
    simp only [putT] at hx ⊢
    refine putT_rel h2 (fun j y hy => ?_) i x hx
    rw [Tr.get_put] at hy ⊢
    split at hy
    · rename_i e; cases hy; exact ⟨_, by rw [if_pos e], h1⟩
    · rename_i e; rw [if_neg e]; exact h j y hy

theorem LSOK.wk {E : Env} {rd : Bool} {c : Code} {nt : Nat} {ins outs : List Nat} {ls ls' : LSC} (h : LSOK E rd c nt ins outs ls') (imp : ∀ args H nid K, (∀ i, nid ≤ i → H.get i = none) → ls args H nid K → ∃ args', WkL args args' ∧ ls' args' H nid K) :
    LSOK E rd c nt ins outs ls := by
  intro args H nid K hfr hk
  obtain ⟨args', hw, hk'⟩ := imp args H nid K hfr hk
  intro hfr'
  obtain ⟨e, st', h1, h2, h3⟩ := h args' H nid K hfr hk' hfr'
  refine ⟨e, st', h1, h2, fun R hR Z γ a w hs => h3 R hR Z γ a w ⟨hs.sat, fun i x hi => ?_, hs.size, hs.defs, hs.fresh, hs.glob⟩⟩
  obtain ⟨y, e1, e2⟩ := putT_rel (t := .e) hw (fun i x h => by rw [Tr.get_e] at h; cases h) i x hi
  exact e2 _ _ _ _ (hs.tmp i y e1)

/-- Slots in weaker words. -/
theorem COK.less {E : Env} {rd : Bool} {c : Code} {ins : List Nat} {args args' : List AV} {H : Heap} {nid nt : Nat} {k : Exit → St → Prop} (hw : WkL args args') (h : COK E rd c ⟨putT ins args' .e, H, nid, nt, none⟩ k) : COK E rd c ⟨putT ins args .e, H, nid, nt, none⟩ k := by
  intro hfr
  obtain ⟨e, st', h1, h2, h3⟩ := h hfr
  refine ⟨e, st', h1, h2, fun R hR Z γ a w hs => h3 R hR Z γ a w ⟨hs.sat, fun i x hi => ?_, hs.size, hs.defs, hs.fresh, hs.glob⟩⟩
  obtain ⟨y, e1, e2⟩ := putT_rel (t := .e) hw (fun i x h => by rw [Tr.get_e] at h; cases h) i x hi
  exact e2 _ _ _ _ (hs.tmp i y e1)

/-! # The loops of a function's code -/
def items : Code → List Code
  | .seq a b => items a ++ items b
  | .cond _ a b => items a ++ items b
  | .block _ b => items b
  | .scope b => match hasGoto b with
    | true => [.scope b]
    | false => items b
  | .loop b => [.loop b]
  | .rangeFunc f p a b => [.rangeFunc f p a b]
  | _ => []

theorem items_length : ∀ c, (items c).length = nl c
  | .seq a b => by simp [items, nl, items_length a, items_length b]
  | .cond _ a b => by simp [items, nl, items_length a, items_length b]
  | .block _ b => by simp [items, nl, items_length b]
  | .scope b => by
    simp only [items, nl]
    split <;> simp [*, items_length b]
  | .loop _ => rfl
  | .rangeFunc _ _ _ _ => rfl
  | .skip | .region _ _ _ | .exit _ | .label _ | .ret | .goto _ | .refuse _ => rfl

def LItems (E : Env) (rd : Bool) (cs : List Code) (ls : List LC) : Prop := ∀ (i : Nat) c lc, cs[i]? = some c → ls[i]? = some lc → ∀ st k, lc st k → COK E rd c st k

theorem LItems.nil {E rd cs} : LItems E rd cs [] := fun i c lc _ h => by simp at h
theorem LItems.cons {E rd c cs lc ls} (h : ∀ st k, lc st k → COK E rd c st k) (k : LItems E rd cs ls) : LItems E rd (c :: cs) (lc :: ls) := fun i x y hx hy => by
  cases i with
  | zero => simp at hx hy; subst hx; subst hy; exact h
  | succ i => exact k i x y (by simpa using hx) (by simpa using hy)

theorem LItems.left {E rd a b ls} (h : LItems E rd (a ++ b) ls) : LItems E rd a ls := fun i c lc hc hl =>
  h i c lc (by rw [List.getElem?_append_left (List.getElem?_eq_some_iff.1 hc).1]; exact hc) hl

theorem LItems.right {E rd a b ls} (h : LItems E rd (a ++ b) ls) : LItems E rd b (ls.drop a.length) := fun i c lc hc hl =>
  h (a.length + i) c lc (by rw [List.getElem?_append_right (by omega)]; simpa using hc) (by simpa using hl)

theorem LAll_items {E : Env} {rd : Bool} : ∀ (c : Code) (ls : List LC), LItems E rd (items c) ls → LAll E rd c ls
  | .seq a b, ls, h => ⟨LAll_items a ls h.left, items_length a ▸ LAll_items b _ h.right⟩
  | .cond _ a b, ls, h => ⟨LAll_items a ls h.left, items_length a ▸ LAll_items b _ h.right⟩
  | .block _ b, ls, h => LAll_items b ls h
  | .scope b, ls, h => by
    unfold items at h
    unfold LAll
    split
    · rename_i hg
      simp only [hg] at h
      split
      · rename_i lc l; exact h 0 _ lc rfl rfl
      · trivial
    · rename_i hg
      simp only [hg] at h
      exact LAll_items b ls h
  | .loop _, ls, h => by
    unfold LAll
    split
    · rename_i lc l; exact h 0 _ lc rfl rfl
    · trivial
  | .rangeFunc _ _ _ _, ls, h => by
    unfold LAll
    split
    · rename_i lc l; exact h 0 _ lc rfl rfl
    · trivial
  | .skip, _, _ | .region _ _ _, _, _ | .exit _, _, _ | .label _, _, _ | .ret, _, _ | .goto _, _, _ | .refuse _, _, _ => trivial

def loopB : Code → Code
  | .loop b => b
  | c => c

/-- A function gone through by its loops' contracts. -/
theorem fun_ok {E : Env} {F : Fs} (hE : FsEnv E F) {T : Tr Func} (hT : TabOk E.P T) {f : FuncId} {fn : Func} (hf : T.get f = some fn) {ls : List LC} (hl : LItems E false (items (bodyOf fn)) ls) : SOK E f (sexec E F fn ls) := by
  obtain ⟨h1, h2, h3⟩ := hT.get f fn hf
  exact sexec_ok hE h1 h2 h3 (LAll_items _ _ hl)

/-- A loop whose rounds leave the heap as it is. -/
theorem loop_T {E : Env} {rd : Bool} {F : Fs} (hE : FsEnv E F) {c : Code} {ls : List LC} (hl : LItems E rd (items c) ls) (keep : List Nat) {k : Exit → St → Prop} (S : Nat → St) (D : Nat → Prop) (n : Nat)
    (hstep : ∀ i, i < n → D i → ∀ next : St → Prop, (D (i + 1) → next (S (i + 1))) → roundG E F c ls (gcT keep) next k (S i)) (hend : D n → ∀ next : St → Prop, roundG E F c ls (gcT keep) next k (S n)) (h0 : D 0) : COK E rd (.loop c) (S 0) k :=
  loopG_ok hE (LAll_items _ _ hl) (g := fun _ => gcT keep) (fun _ => gcT_ok _ _) _ _ (loop_ind S D n hstep hend h0)

/-- A loop that lays blocks. -/
theorem loop_S {E : Env} {rd : Bool} {F : Fs} (hE : FsEnv E F) {c : Code} {ls : List LC} (hl : LItems E rd (items c) ls) (nid : Nat) (keep : List Nat) {k : Exit → St → Prop} (S : Nat → St) (D : Nat → Prop) (n : Nat) (hn : (S 0).nid = nid)
    (hstep : ∀ i, i < n → D i → ∀ next : St → Prop, (D (i + 1) → next (S (i + 1))) → roundG E F c ls (gcS nid keep) next k (S i)) (hend : D n → ∀ next : St → Prop, roundG E F c ls (gcS nid keep) next k (S n)) (h0 : D 0) : COK E rd (.loop c) (S 0) k := by
  subst hn
  exact loopG_ok hE (LAll_items _ _ hl) (g := fun n => gcS n keep) (fun n => gcS_ok n _) _ _ (loop_ind S D n hstep hend h0)

/-! # Tables of contracts -/
def look {α : Type} : List (Nat × α) → Nat → Option α
  | [], _ => none
  | (i, x) :: l, j => match Nat.beq i j with
    | true => some x
    | false => look l j

theorem look_mem {α : Type} : ∀ {l : List (Nat × α)} {j : Nat} {x : α}, look l j = some x → (j, x) ∈ l
  | [], j, x, h => by cases h
  | (i, y) :: l, j, x, h => by
    unfold look at h
    split at h
    · rename_i hb; cases h; rw [Nat.eq_of_beq_eq_true hb]; exact List.mem_cons_self
    · exact List.mem_cons_of_mem _ (look_mem h)

/-- Functions by their contracts: some as calls, some gone through in place. -/
def FE (s : Op → List AV → Prop) (fs : List (Nat × FC)) (il : List (Nat × SC)) : Fs := ⟨⟨look fs, s⟩, look il, fun _ _ _ _ _ => False⟩

inductive AllF (E : Env) : List (Nat × FC) → Prop
  | nil : AllF E []
  | cons {f fc l} : FOK E f fc → AllF E l → AllF E ((f, fc) :: l)

inductive AllS (E : Env) : List (Nat × SC) → Prop
  | nil : AllS E []
  | cons {f sc l} : SOK E f sc → AllS E l → AllS E ((f, sc) :: l)

theorem AllF.get {E : Env} {l : List (Nat × FC)} (h : AllF E l) : ∀ p, p ∈ l → FOK E p.1 p.2 := by
  induction h with
  | nil => intro p h; cases h
  | cons h1 _ ih => intro p hp; rcases List.mem_cons.1 hp with rfl | hp
                    · exact h1
                    · exact ih p hp

theorem AllS.get {E : Env} {l : List (Nat × SC)} (h : AllS E l) : ∀ p, p ∈ l → SOK E p.1 p.2 := by
  induction h with
  | nil => intro p h; cases h
  | cons h1 _ ih => intro p hp; rcases List.mem_cons.1 hp with rfl | hp
                    · exact h1
                    · exact ih p hp

theorem FE_ok {E : Env} (ok : E.Ok) {fs : List (Nat × FC)} {il : List (Nat × SC)} (hf : AllF E fs) (hi : AllS E il) : FsEnv E (FE (fun _ _ => False) fs il) :=
  ⟨⟨ok, fun _ _ h => h, fun _ _ h => hf.get _ (look_mem h)⟩, fun _ _ _ _ _ _ h => h.elim, fun _ _ h => hi.get _ (look_mem h)⟩

end Go.Sx
