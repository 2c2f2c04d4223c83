/- Part of an own symbolic executor for the model's code, proved sound, and of the proof of one statement (see the text of the claimed theorem). -/
import Derived.Test.YtkpkfccgbehilaaGreatDoorSxAC
import Derived.Test.YtkpkfccgbehilaaGreatDoorSxAB
import Derived.LoopN
import Derived.ScopeJumps
namespace Go.Sx

/-! # A call that may change what it is lent -/
def eqL (g : AV → AV → Bool) : List AV → List AV → Bool
  | [], [] => true
  | a :: l, b :: m => match g a b with
    | true => eqL g l m
    | false => false
  | _, _ => false

theorem eqL_spec {g : AV → AV → Bool} (hg : ∀ a b, g a b = true → a = b) : ∀ {l m : List AV}, eqL g l m = true → l = m
  | [], [], _ => rfl
  | [], _ :: _, h => by simp [eqL] at h
  | _ :: _, [], h => by simp [eqL] at h
  | a :: l, b :: m, h => by
    unfold eqL at h
    split at h
    · rename_i h1; rw [hg a b h1, eqL_spec hg h]
    · cases h

def eqO (a b : Option Nat) : Bool :=
  match a, b with
  | none, none => true
  | some x, some y => Nat.beq x y
  | _, _ => false

theorem eqO_spec {a b : Option Nat} (h : eqO a b = true) : a = b := by
  unfold eqO at h
  split at h
  · rfl
  · rw [Nat.eq_of_beq_eq_true h]
  · cases h

def beq2 (a b : Bool) : Bool :=
  match a with
  | true => b
  | false => match b with
    | true => false
    | false => true

theorem beq2_spec {a b : Bool} (h : beq2 a b = true) : a = b := by cases a <;> cases b <;> simp_all [beq2]

def andB (a b : Bool) : Bool :=
  match a with
  | true => b
  | false => false

theorem andB_spec {a b : Bool} (h : andB a b = true) : a = true ∧ b = true := by cases a <;> simp_all [andB]

/-- The same value, surely. -/
def eqA : Nat → AV → AV → Bool
  | 0, _, _ => false
  | n + 1, a, b => match a, b with
    | .any, .any => true
    | .bool x, .bool y => beq2 x y
    | .int l k x, .int l' k' y => andB (beq2 l l') (andB (decide (k = k')) (decide (x = y)))
    | .agg l, .agg m => eqL (eqA n) l m
    | .tup l, .tup m => eqL (eqA n) l m
    | .nilp, .nilp => true
    | .ptr i o, .ptr j q => andB (Nat.beq i j) (Nat.beq o q)
    | .nils, .nils => true
    | .sl i a1 a2 a3 a4 c, .sl j b1 b2 b3 b4 d => andB (Nat.beq i j) (andB (Nat.beq a1 b1) (andB (Nat.beq a2 b2) (andB (Nat.beq a3 b3) (andB (Nat.beq a4 b4) (eqO c d)))))
    | .nilfn, .nilfn => true
    | .iface t x, .iface u y => andB (Nat.beq t u) (eqA n x y)
    | .nilif, .nilif => true
    | .mp i, .mp j => Nat.beq i j
    | .nilm, .nilm => true
    | _, _ => false

theorem eqA_spec : ∀ (n : Nat) {a b : AV}, eqA n a b = true → a = b
  | 0, _, _, h => by simp [eqA] at h
  | n + 1, a, b, h => by
    unfold eqA at h
    split at h
    · rfl
    · rw [beq2_spec h]
    · obtain ⟨h1, h2⟩ := andB_spec h
      obtain ⟨h2, h3⟩ := andB_spec h2
      rw [beq2_spec h1, of_decide_eq_true h2, of_decide_eq_true h3]
    · rw [eqL_spec (fun a b => eqA_spec n) h]
    · rw [eqL_spec (fun a b => eqA_spec n) h]
    · rfl
    · obtain ⟨h1, h2⟩ := andB_spec h
      rw [Nat.eq_of_beq_eq_true h1, Nat.eq_of_beq_eq_true h2]
    · rfl
    · obtain ⟨h1, h2⟩ := andB_spec h
      obtain ⟨h2, h3⟩ := andB_spec h2
      obtain ⟨h3, h4⟩ := andB_spec h3
      obtain ⟨h4, h5⟩ := andB_spec h4
      obtain ⟨h5, h6⟩ := andB_spec h5
      rw [Nat.eq_of_beq_eq_true h1, Nat.eq_of_beq_eq_true h2, Nat.eq_of_beq_eq_true h3, Nat.eq_of_beq_eq_true h4, Nat.eq_of_beq_eq_true h5, eqO_spec h6]
    · rfl
    · obtain ⟨h1, h2⟩ := andB_spec h
      rw [Nat.eq_of_beq_eq_true h1, eqA_spec n h2]
    · rfl
    · rw [Nat.eq_of_beq_eq_true h]
    · rfl
    · cases h

def eqC (E : Env) (a b : Chunk) : Bool :=
  match E.lit with
  | false => false
  | true => match a, b with
    | .cells t l, .cells u m => andB (Nat.beq t u) (eqL (eqA deep) l m)
    | _, _ => false

theorem eqC_spec {E : Env} {a b : Chunk} (h : eqC E a b = true) : a = b := by
  unfold eqC at h
  split at h
  · cases h
  · split at h
    · obtain ⟨h1, h2⟩ := andB_spec h
      rw [Nat.eq_of_beq_eq_true h1, eqL_spec (fun a b => eqA_spec deep) h2]
    · cases h

/-- What has changed of what was lent. -/
def layAt (E : Env) (ρ : Nat → Option Nat) : List Nat → List Chunk → List Chunk → List (Nat × Chunk)
  | i :: l, c :: cs, o :: os => match eqC E o (renC ρ false c) with
    | true => layAt E ρ l cs os
    | false => (i, renC ρ false c) :: layAt E ρ l cs os
  | _, _, _ => []

theorem layAt_mem {E ρ} : ∀ {S : List Nat} {cs os : List Chunk} {p : Nat × Chunk}, p ∈ layAt E ρ S cs os → p.1 ∈ S
  | [], _, _, p, h => by simp [layAt] at h
  | i :: l, [], _, p, h => by simp [layAt] at h
  | i :: l, c :: cs, [], p, h => by simp [layAt] at h
  | i :: l, c :: cs, o :: os, p, h => by
    rw [layAt] at h
    split at h
    · exact List.mem_cons_of_mem _ (layAt_mem h)
    · rcases List.mem_cons.1 h with rfl | h
      · exact List.mem_cons_self
      · exact List.mem_cons_of_mem _ (layAt_mem h)

theorem layAt_get {E ρ} : ∀ {S : List Nat} {cs os : List Chunk} (H : Heap), os.length = S.length → (∀ (q i : Nat) o, S[q]? = some i → os[q]? = some o → H.get i = some o) → (∀ (i j x : Nat), S[i]? = some x → S[j]? = some x → i = j) →
    ∀ (q i : Nat) (c : Chunk), S[q]? = some i → cs[q]? = some c → (H.puts (layAt E ρ S cs os)).get i = some (renC ρ false c)
  | [], _, _, H, _, _, _, q, i, c, h, _ => by simp at h
  | s :: l, [], _, H, _, _, _, q, i, c, _, h => by simp at h
  | s :: l, c0 :: cs, [], H, hl, _, _, q, i, c, _, h => by simp at hl
  | s :: l, c0 :: cs, o :: os, H, hl, ho, hn, q, i, c, h1, h2 => by
    have hn' : ∀ (i j x : Nat), l[i]? = some x → l[j]? = some x → i = j := fun i j x a b => by
      have := hn (i + 1) (j + 1) x (by simpa using a) (by simpa using b); omega
    have hsn : ∀ p, p ∈ layAt E ρ l cs os → p.1 ≠ s := fun p hp e => by
      have := layAt_mem hp
      obtain ⟨j, hj⟩ := List.getElem?_of_mem this
      have := hn 0 (j + 1) p.1 (by simp [e]) (by simpa using hj)
      omega
    rw [layAt]
    split
    · rename_i heq
      cases q with
      | zero =>
        simp at h1 h2; subst h1; subst h2
        rw [puts_get_not _ _ _ hsn, ho 0 s o rfl rfl, eqC_spec heq]
      | succ q => exact layAt_get H (by simpa using hl) (fun q i o a b => ho (q + 1) i o (by simpa using a) (by simpa using b)) hn' q i c (by simpa using h1) (by simpa using h2)
    · rw [Tr.puts]
      cases q with
      | zero =>
        simp at h1 h2; subst h1; subst h2
        rw [puts_get_not _ _ _ hsn, Tr.get_put, if_pos rfl]
      | succ q =>
        have hi : i ≠ s := fun e => by have := hn (q + 1) 0 i (by simpa using h1) (by simp [e]); omega
        refine layAt_get _ (by simpa using hl) (fun q i o a b => ?_) hn' q i c (by simpa using h1) (by simpa using h2)
        rw [Tr.get_put]
        have : i ≠ s := fun e => by have := hn (q + 1) 0 i (by simpa using a) (by simp [e]); omega
        rw [if_neg this]
        exact ho (q + 1) i o (by simpa using a) (by simpa using b)

theorem puts_append : ∀ (a b : List (Nat × Chunk)) (H : Heap), H.puts (a ++ b) = (H.puts a).puts b
  | [], b, H => rfl
  | (i, c) :: a, b, H => by rw [List.cons_append, Tr.puts, Tr.puts, puts_append a b]

/-- 0, 1, .. -/
def count : Nat → Nat → List Nat
  | _, 0 => []
  | k, n + 1 => k :: count (k + 1) n

theorem count_get : ∀ (n k q : Nat), q < n → (count k n)[q]? = some (k + q)
  | 0, k, q, h => by omega
  | n + 1, k, 0, h => rfl
  | n + 1, k, q + 1, h => by rw [count, List.getElem?_cons_succ, count_get n (k + 1) q (by omega)]; congr 1; omega
theorem count_length : ∀ (n k : Nat), (count k n).length = n
  | 0, _ => rfl
  | n + 1, k => by simp [count, count_length n]

/-- canonical names back -/
def tabAt : Nat → List Nat → Tr Nat → Tr Nat
  | _, [], t => t
  | k, i :: l, t => tabAt (k + 1) l (t.put k i)

theorem tabAt_get : ∀ (l : List Nat) (k : Nat) (t : Tr Nat) (i j : Nat), (tabAt k l t).get i = some j → t.get i = some j ∨ ∃ q, l[q]? = some j ∧ i = k + q
  | [], k, t, i, j, h => .inl h
  | a :: l, k, t, i, j, h => by
    rw [tabAt] at h
    rcases tabAt_get l (k + 1) _ i j h with h | ⟨q, h1, h2⟩
    · rw [Tr.get_put] at h
      split at h
      · rename_i e; cases h; exact .inr ⟨0, rfl, by omega⟩
      · exact .inl h
    · exact .inr ⟨q + 1, by simpa using h1, by omega⟩

/-- What comes back of a callee that was lent the blocks 'S' by the names 0, 1, ..: 'N' are its new ones. -/
def endCall (E : Env) (os : List Chunk) (S : List Nat) (nid : Nat) (k : Out → Prop) (r : AV) (H2 : Heap) (N : List Nat) : Prop :=
  match chunksOf H2 (count 0 S.length), chunksOf H2 N, nodupB (count 0 S.length ++ N), Nat.ble N.length room with
  | some c0, some cs, true, true => k ⟨none, S, ren (tabFrom nid N (tabAt 0 S .e)).get false deep r, layAt E (tabFrom nid N (tabAt 0 S .e)).get S c0 os ++ layFrom (tabFrom nid N (tabAt 0 S .e)).get false nid cs⟩
  | _, _, _, _ => False

def startCall (E : Env) (sc : SC) (args : List AV) (S : List Nat) (cs : List Chunk) (nid : Nat) (k : Out → Prop) : Prop :=
  sc (mapA (ren (tabFrom 0 S .e).get false deep) args) (Tr.puts .e (layFrom (tabFrom 0 S .e).get false 0 cs)) S.length (fun r H2 _ => endCall E cs S nid k r H2 ((reach H2 reachFuel 0 (ids deep r (count 0 S.length))).drop S.length))

def fcall (E : Env) (sc : SC) : FC := fun args H nid k =>
  match chunksOf H (reach H reachFuel 0 (idsL (ids deep) args [])), nodupB (reach H reachFuel 0 (idsL (ids deep) args [])) with
  | some cs, true => startCall E sc args (reach H reachFuel 0 (idsL (ids deep) args [])) cs nid k
  | _, _ => False

theorem fcall_ok {E : Env} {f : FuncId} {sc : SC} (h : SOK E f sc) : FOK E f (fcall E sc) := by
  refine ⟨h.fn, fun args H nid k hk => ?_⟩
  unfold fcall at hk
  generalize hS : reach H reachFuel 0 (idsL (ids deep) args []) = S at hk
  split at hk
  rotate_left
  · exact hk.elim
  rename_i cs hcs hnd
  obtain ⟨hlen, hget⟩ := chunksOf_get hcs
  have hnd := nodupB_spec hnd
  unfold startCall at hk
  have hH1 : ∀ i, (Tr.puts (.e : Heap) (layFrom (tabFrom 0 S .e).get false 0 cs)).get i = if i < S.length then (cs[i]?).map (renC (tabFrom 0 S .e).get false) else none := fun i => by
    rw [layFrom_get, hlen, Tr.get_e]; simp
  obtain ⟨r, H2, nid2, hcb, _, hcall⟩ := h.run _ _ _ _ (fun i hi => by rw [hH1, if_neg (by omega)]) hk
  generalize hN : (reach H2 reachFuel 0 (ids deep r (count 0 S.length))).drop S.length = N at hcb
  unfold endCall at hcb
  split at hcb
  rotate_left
  · exact hcb.elim
  rename_i c0 cN hc0 hcN hndN hle
  have hle := Nat.le_of_ble_eq_true hle
  obtain ⟨hlen0, hget0⟩ := chunksOf_get hc0
  obtain ⟨hlenN, hgetN⟩ := chunksOf_get hcN
  rw [count_length] at hlen0
  have hndN := nodupB_spec hndN
  have hN1 : ∀ (q i : Nat), N[q]? = some i → S.length ≤ i := fun q i hq => by
    apply Classical.byContradiction; intro hlt
    have := hndN (S.length + q) i i (by rw [List.getElem?_append_right (by rw [count_length]; omega), count_length]; simpa using hq)
      (by rw [List.getElem?_append_left (by rw [count_length]; omega), count_get _ _ _ (by omega)]; simp)
    omega
  have hN2 : ∀ (q q' i : Nat), N[q]? = some i → N[q']? = some i → q = q' := fun q q' i h1 h2 => by
    have := hndN (S.length + q) (S.length + q') i (by rw [List.getElem?_append_right (by rw [count_length]; omega), count_length]; simpa using h1)
      (by rw [List.getElem?_append_right (by rw [count_length]; omega), count_length]; simpa using h2)
    omega
  have hSl : ∀ (q i : Nat), S[q]? = some i → ∃ ch, cs[q]? = some ch ∧ H.get i = some ch ∧ ch.live = true := hget
  refine ⟨_, hcb, ⟨fun p hp => ?_, fun i hi => ?_⟩, ?_⟩
  · rcases List.mem_append.1 hp with hp | hp
    · exact .inl (layAt_mem hp)
    · have := layFrom_mem hp; exact .inr ⟨this.1, by omega⟩
  · obtain ⟨q, hq⟩ := List.getElem?_of_mem hi
    obtain ⟨ch, _, h2, h3⟩ := hSl q i hq
    exact ⟨ch, h2, h3⟩
  intro Z γ H' w vs hs hg hsz hvr hn hfr
  let γ1 : Gam := fun i => (S[i]?).bind γ
  have hSi : ∀ (q i : Nat), S[q]? = some i → i ∈ S := fun q i h => List.mem_of_getElem? h
  have hSown : ∀ (q i : Nat), S[q]? = some i → ∃ ch b, cs[q]? = some ch ∧ H'.get i = some ch ∧ ch.live = true ∧ γ i = some b ∧ ¬ Z b ∧ CRel Z w γ b ch := fun q i hq => by
    obtain ⟨ch, h1, h2, h3⟩ := hSl q i hq
    have h2' := (hn i (hSi q i hq)).trans h2
    obtain ⟨b, h4, h5, h6⟩ := hs.own i ch h2' h3
    exact ⟨ch, b, h1, h2', h3, h4, h5, h6⟩
  have hρ1 : ∀ i j, (tabFrom 0 S .e).get i = some j → γ1 j = γ i := fun i j hij => by
    rcases tabFrom_get _ _ _ _ _ hij with h | ⟨q, h1, rfl⟩
    · rw [Tr.get_e] at h; cases h
    · simp only [γ1, Nat.zero_add, h1]; rfl
  have hs1 : Sat Z γ1 (Tr.puts .e (layFrom (tabFrom 0 S .e).get false 0 cs)) w := by
    refine ⟨fun i ch hi hl => ?_, fun i j ci cj b hi hli hj hlj hgi hgj => ?_, fun i b hb => ?_, hs.zrng, fun i hi => ?_⟩
    · rw [hH1] at hi
      split at hi
      · rename_i hlt
        have hq : S[i]? = some S[i] := List.getElem?_eq_getElem hlt
        obtain ⟨c, b, h1, h2, h3, h4, h5, h6⟩ := hSown i _ hq
        rw [h1] at hi; simp at hi; subst hi
        exact ⟨b, by simp only [γ1, hq]; exact h4, h5, renC_rel hρ1 (fun _ _ h => h) h6⟩
      · cases hi
    · have hlti : i < S.length := by apply Classical.byContradiction; intro hh; rw [hH1, if_neg hh] at hi; cases hi
      have hltj : j < S.length := by apply Classical.byContradiction; intro hh; rw [hH1, if_neg hh] at hj; cases hj
      have hqi : S[i]? = some S[i] := List.getElem?_eq_getElem hlti
      have hqj : S[j]? = some S[j] := List.getElem?_eq_getElem hltj
      obtain ⟨c, _, _, h2, h3, _⟩ := hSown i _ hqi
      obtain ⟨c', _, _, h2', h3', _⟩ := hSown j _ hqj
      simp only [γ1, hqi] at hgi
      simp only [γ1, hqj] at hgj
      have := hs.inj _ _ _ _ b h2 h3 h2' h3' hgi hgj
      exact hnd i j _ hqi (this ▸ hqj)
    · simp only [γ1] at hb
      cases hq : S[i]? with
      | none => rw [hq] at hb; cases hb
      | some x => rw [hq] at hb; exact hs.rng x b hb
    · rw [hH1] at hi
      split at hi
      · rename_i hlt
        have hq : S[i]? = some S[i] := List.getElem?_eq_getElem hlt
        obtain ⟨c, b, h1, _⟩ := hSown i _ hq
        rw [h1] at hi; cases hi
      · rename_i hlt
        simp only [γ1]; rw [List.getElem?_eq_none (by omega)]; rfl
  have hL1 : ∀ i b, Live (Tr.puts (.e : Heap) (layFrom (tabFrom 0 S .e).get false 0 cs)) i → γ1 i = some b → ∃ j, j ∈ S ∧ γ j = some b := fun i b _ hb => by
    simp only [γ1] at hb
    cases hq : S[i]? with
    | none => rw [hq] at hb; cases hb
    | some x => rw [hq] at hb; exact ⟨x, hSi i x hq, hb⟩
  refine (hcall Z γ1 w vs hs1 hg (by rw [mapA_length]; exact hsz) (fun i c v hc hv => ?_)).mono ?_
  · obtain ⟨x, hx, rfl⟩ := mapA_get _ _ _ _ hc
    exact ren_rel hρ1 (fun _ _ h => h) _ (hvr i x v hx hv)
  rintro e w' ⟨v, Z2, γ2, he, hv2, hs2, hr⟩
  let γ' : Gam := fun i => if nid ≤ i ∧ i < nid + N.length then (N[i - nid]?).bind γ2 else γ i
  have hnew : ∀ i, nid ≤ i ∧ i < nid + N.length → γ i = none := fun i hi => hs.dom i (hfr i hi.1 (by omega))
  have hold : ∀ i b, γ i = some b → ¬ (nid ≤ i ∧ i < nid + N.length) := fun i b hb hi => by rw [hnew i hi] at hb; cases hb
  have hg2 : ∀ (q i : Nat), S[q]? = some i → γ2 q = γ i := fun q i hq => by
    obtain ⟨_, b, _, _, _, h4, _⟩ := hSown q i hq
    rw [h4]; exact hr.gam q b (by simp only [γ1, hq]; exact h4)
  have hρ : ∀ i j, (tabFrom nid N (tabAt 0 S .e)).get i = some j → γ' j = γ2 i := fun i j hij => by
    rcases tabFrom_get _ _ _ _ _ hij with h | ⟨q, h1, rfl⟩
    · rcases tabAt_get _ _ _ _ _ h with h | ⟨q, h1, rfl⟩
      · rw [Tr.get_e] at h; cases h
      · obtain ⟨_, b, _, _, _, h4, _⟩ := hSown q j h1
        simp only [γ', Nat.zero_add]
        rw [if_neg (hold j b h4), hg2 q j h1]
    · have hq := (List.getElem?_eq_some_iff.1 h1).1
      simp only [γ']
      rw [if_pos (by omega)]
      simp [h1]
  have hnewb : ∀ i b, nid ≤ i ∧ i < nid + N.length → γ' i = some b → ∃ q ch, N[i - nid]? = some q ∧ cN[i - nid]? = some ch ∧ H2.get q = some ch ∧ ch.live = true ∧ γ2 q = some b := fun i b hi hb => by
    simp only [γ'] at hb
    rw [if_pos hi] at hb
    have hq : N[i - nid]? = some N[i - nid] := List.getElem?_eq_getElem (by omega)
    rw [hq] at hb
    obtain ⟨ch, e1, e2, e3⟩ := hgetN _ _ hq
    exact ⟨_, ch, hq, e1, e2, e3, hb⟩
  have hγ'old : ∀ i, ¬ (nid ≤ i ∧ i < nid + N.length) → γ' i = γ i := fun i hi => by simp only [γ']; rw [if_neg hi]
  have hgetnew : ∀ i, nid ≤ i ∧ i < nid + N.length → (H'.puts (layAt E (tabFrom nid N (tabAt 0 S .e)).get S c0 cs ++ layFrom (tabFrom nid N (tabAt 0 S .e)).get false nid cN)).get i = (cN[i - nid]?).map (renC (tabFrom nid N (tabAt 0 S .e)).get false) := fun i hi => by
    rw [puts_append, layFrom_get, hlenN, if_pos hi]
  have hgetS : ∀ (q i : Nat), S[q]? = some i → ∃ c, c0[q]? = some c ∧ H2.get q = some c ∧ c.live = true ∧ (H'.puts (layAt E (tabFrom nid N (tabAt 0 S .e)).get S c0 cs ++ layFrom (tabFrom nid N (tabAt 0 S .e)).get false nid cN)).get i = some (renC (tabFrom nid N (tabAt 0 S .e)).get false c) := fun q i hq => by
    obtain ⟨_, b, _, _, _, h4, _⟩ := hSown q i hq
    have hqlt := (List.getElem?_eq_some_iff.1 hq).1
    obtain ⟨c, e1, e2, e3⟩ := hget0 q q (by rw [count_get _ _ _ hqlt]; simp)
    refine ⟨c, e1, e2, e3, ?_⟩
    rw [puts_append, layFrom_get, hlenN, if_neg (hold i b h4)]
    refine layAt_get _ hlen (fun q i o a b => ?_) hnd q i c hq e1
    obtain ⟨ch, _, h1, h2, _⟩ := hSown q i a
    rw [h1] at b; cases b; exact h2
  have hgetold : ∀ i, ¬ (nid ≤ i ∧ i < nid + N.length) → i ∉ S → (H'.puts (layAt E (tabFrom nid N (tabAt 0 S .e)).get S c0 cs ++ layFrom (tabFrom nid N (tabAt 0 S .e)).get false nid cN)).get i = H'.get i := fun i hi hS => by
    rw [puts_append, layFrom_get, hlenN, if_neg hi]
    exact puts_get_not _ _ _ fun p hp e => hS (e ▸ layAt_mem hp)
  have hkeep : ∀ i ch b, H'.get i = some ch → ch.live = true → γ i = some b → i ∉ S → ∀ j, Live (Tr.puts (.e : Heap) (layFrom (tabFrom 0 S .e).get false 0 cs)) j → γ1 j ≠ some b := fun i ch b hi hl hb hS j hj hjb => by
    simp only [γ1] at hjb
    cases hq : S[j]? with
    | none => rw [hq] at hjb; cases hjb
    | some x =>
      rw [hq] at hjb
      obtain ⟨c, _, _, h2, h3, _⟩ := hSown j x hq
      have := hs.inj i x ch c b hi hl h2 h3 hb hjb
      exact hS (this ▸ hSi j x hq)
  -- which id of the callee's an id of ours is
  have hcls : ∀ i b, γ' i = some b → (∃ ch, (H'.puts (layAt E (tabFrom nid N (tabAt 0 S .e)).get S c0 cs ++ layFrom (tabFrom nid N (tabAt 0 S .e)).get false nid cN)).get i = some ch ∧ ch.live = true) →
      (∃ q ch, γ2 q = some b ∧ H2.get q = some ch ∧ ch.live = true ∧ ((q < S.length ∧ S[q]? = some i) ∨ (S.length ≤ q ∧ nid ≤ i ∧ i < nid + N.length ∧ N[i - nid]? = some q))) ∨
      (i ∉ S ∧ ¬ (nid ≤ i ∧ i < nid + N.length) ∧ γ i = some b ∧ ∃ ch, H'.get i = some ch ∧ ch.live = true) := fun i b hb hex => by
    by_cases h1 : nid ≤ i ∧ i < nid + N.length
    · obtain ⟨q, ch, e1, _, e2, e3, e4⟩ := hnewb i b h1 hb
      exact .inl ⟨q, ch, e4, e2, e3, .inr ⟨hN1 _ _ e1, h1.1, h1.2, e1⟩⟩
    · rw [hγ'old i h1] at hb
      by_cases hS : i ∈ S
      · obtain ⟨q, hq⟩ := List.getElem?_of_mem hS
        obtain ⟨c, _, e2, e3, _⟩ := hgetS q i hq
        exact .inl ⟨q, c, (hg2 q i hq).trans hb, e2, e3, .inl ⟨(List.getElem?_eq_some_iff.1 hq).1, hq⟩⟩
      · rw [hgetold i h1 hS] at hex
        exact .inr ⟨hS, h1, hb, hex⟩
  refine ⟨v, Z2, γ', he, ren_rel hρ (fun _ _ h => h) _ hv2, ?_, ⟨fun i b hb => ?_, hr.zed, hr.size, fun b hb hne => ?_, hr.shape, fun i b hb => ?_, fun b hb => ?_, hr.tape, hr.os, hr.output⟩, fun i h1 h2 => ?_⟩
  · refine ⟨fun i ch hi hl => ?_, fun i j ci cj b hi hli hj hlj hgi hgj => ?_, fun i b hb => ?_, hs2.zrng, fun i hi => ?_⟩
    · by_cases h1 : nid ≤ i ∧ i < nid + N.length
      · rw [hgetnew i h1] at hi
        have hq : N[i - nid]? = some N[i - nid] := List.getElem?_eq_getElem (by omega)
        obtain ⟨c, e1, e2, e3⟩ := hgetN _ _ hq
        rw [e1] at hi; simp at hi; subst hi
        obtain ⟨b, hb, hzb, hc⟩ := hs2.own _ c e2 e3
        exact ⟨b, by simp only [γ']; rw [if_pos h1, hq]; exact hb, hzb, renC_rel hρ (fun _ _ h => h) hc⟩
      · by_cases hS : i ∈ S
        · obtain ⟨q, hq⟩ := List.getElem?_of_mem hS
          obtain ⟨c, _, e2, e3, e4⟩ := hgetS q i hq
          rw [e4] at hi; cases hi
          obtain ⟨b, hb, hzb, hc⟩ := hs2.own q c e2 e3
          exact ⟨b, by rw [hγ'old i h1, ← hg2 q i hq]; exact hb, hzb, renC_rel hρ (fun _ _ h => h) hc⟩
        · rw [hgetold i h1 hS] at hi
          obtain ⟨b, hb, hzb, hc⟩ := hs.own i ch hi hl
          have hlt := hs.rng i b hb
          have hk := hkeep i ch b hi hl hb hS
          refine ⟨b, by rw [hγ'old i h1]; exact hb, fun hz => ?_, ?_⟩
          · rcases hr.znew b hz with h | h | ⟨j, hj, hjb⟩
            · exact hzb h
            · omega
            · exact hk j hj hjb
          · refine hc.mono (hr.keep b hlt hk) (fun b hb => ⟨hr.zed b hb, hr.keep b (hs.zrng b hb) (fun j hj hjb => ?_)⟩) (fun j b hj => by rw [hγ'old j (hold j b hj)]; exact hj) (fun j b hj => hr.shape b (hs.rng j b hj))
            obtain ⟨ch1, hj1, hj2⟩ := hj
            obtain ⟨b', e1, e2, _⟩ := hs1.own j ch1 hj1 hj2
            rw [hjb] at e1; cases e1; exact e2 hb
    · rcases hcls i b hgi ⟨ci, hi, hli⟩ with ⟨q, c, e1, e2, e3, e4⟩ | ⟨e1, e2, e3, c, e4, e5⟩
      · rcases hcls j b hgj ⟨cj, hj, hlj⟩ with ⟨q', c', e1', e2', e3', e4'⟩ | ⟨e1', e2', e3', c', e4', e5'⟩
        · have hqq := hs2.inj q q' c c' b e2 e3 e2' e3' e1 e1'
          subst hqq
          rcases e4 with ⟨_, h1⟩ | ⟨h0, h1, h2, h3⟩ <;> rcases e4' with ⟨_, h1'⟩ | ⟨h0', h1', h2', h3'⟩
          · rw [h1] at h1'; cases h1'; rfl
          · omega
          · omega
          · have := hN2 _ _ _ h3 h3'; omega
        · exfalso
          rcases hr.gnew q b ⟨c, e2, e3⟩ e1 with ⟨k, hk1, hk2⟩ | h
          · exact hkeep j c' b e4' e5' e3' e1' k hk1 hk2
          · have := hs.rng j b e3'; omega
      · rcases hcls j b hgj ⟨cj, hj, hlj⟩ with ⟨q', c', e1', e2', e3', e4'⟩ | ⟨e1', e2', e3', c', e4', e5'⟩
        · exfalso
          rcases hr.gnew q' b ⟨c', e2', e3'⟩ e1' with ⟨k, hk1, hk2⟩ | h
          · exact hkeep i c b e4 e5 e3 e1 k hk1 hk2
          · have := hs.rng i b e3; omega
        · exact hs.inj i j c c' b e4 e5 e4' e5' e3 e3'
    · by_cases h1 : nid ≤ i ∧ i < nid + N.length
      · obtain ⟨q, c1, _, _, _, _, e4⟩ := hnewb i b h1 hb
        exact hs2.rng q b e4
      · rw [hγ'old i h1] at hb
        exact Nat.lt_of_lt_of_le (hs.rng i b hb) hr.size
    · by_cases h1 : nid ≤ i ∧ i < nid + N.length
      · rw [hgetnew i h1] at hi
        have hq : N[i - nid]? = some N[i - nid] := List.getElem?_eq_getElem (by omega)
        obtain ⟨c, e1, _⟩ := hgetN _ _ hq
        rw [e1] at hi; cases hi
      · by_cases hS : i ∈ S
        · obtain ⟨q, hq⟩ := List.getElem?_of_mem hS
          obtain ⟨c, _, _, _, e4⟩ := hgetS q i hq
          rw [e4] at hi; cases hi
        · rw [hgetold i h1 hS] at hi
          rw [hγ'old i h1]; exact hs.dom i hi
  · rw [hγ'old i (hold i b hb)]; exact hb
  · exact hr.keep b hb fun i hl hi => by
      obtain ⟨j, h1, h2⟩ := hL1 i b hl hi
      exact hne j h1 h2
  · by_cases h1 : nid ≤ i ∧ i < nid + N.length
    · obtain ⟨q, c, _, _, e2, e3, e4⟩ := hnewb i b h1 hb
      rcases hr.gnew q b ⟨c, e2, e3⟩ e4 with ⟨j, hj1, hj2⟩ | h
      · exact .inr (.inr (hL1 j b hj1 hj2))
      · exact .inr (.inl h)
    · rw [hγ'old i h1] at hb; exact .inl hb
  · rcases hr.znew b hb with h | h | ⟨j, hj1, hj2⟩
    · exact .inl h
    · exact .inr (.inl h)
    · exact .inr (.inr (hL1 j b hj1 hj2))
  · apply Classical.byContradiction; intro hh
    exact h2 (by rw [hγ'old i (fun h => hh ⟨h.1, by omega⟩)]; exact h1)

end Go.Sx

namespace Go.Sx

/-! # Loops gone through round by round; calls gone through in place -/
def unroll (E : Env) (F : Fs) (c : Code) (ls : List LC) : Nat → LC
  | 0 => fun _ _ => False
  | n + 1 => fun st k => exec E F c ls st (fun e st' => match e with
    | .normal => unroll E F c ls n st' k
    | e => k e st')

theorem unroll_ok {E : Env} {rd : Bool} {F : Fs} (hE : FsEnv E F) {c : Code} {ls : List LC} (hl : LAll E rd c ls) : ∀ (n : Nat) (st : St) (k : Exit → St → Prop), unroll E F c ls n st k → COK E rd (.loop c) st k := by
  intro n st k h hfr
  have key : ∀ (n : Nat) (st : St), unroll E F c ls n st k → (∀ i, st.nid ≤ i → st.H.get i = none) → ∃ e st', k e st' ∧ (∀ i, st'.nid ≤ i → st'.H.get i = none) ∧
      ∀ R, (rd = false → R = none) → ∀ Z γ a w, SatSt E Z γ st a w → ∀ Q : Exit → Act → World → Prop, (∀ Z' γ' a' w', SatSt E Z' γ' st' a' w' → Run Z γ st.H w Z' γ' st'.H w' → Q e a' w') → Code.roundsIn (FR R) 0 E.P c Q n a w := by
    intro n
    induction n with
    | zero => intro st h; exact h.elim
    | succ n ih =>
      intro st h hfr
      obtain ⟨e, st1, h1, h2, h3⟩ := exec_ok hE c ls st _ hl h hfr
      have stop : e ≠ .normal → k e st1 → ∃ e st', k e st' ∧ (∀ i, st'.nid ≤ i → st'.H.get i = none) ∧
          ∀ R, (rd = false → R = none) → ∀ Z γ a w, SatSt E Z γ st a w → ∀ Q : Exit → Act → World → Prop, (∀ Z' γ' a' w', SatSt E Z' γ' st' a' w' → Run Z γ st.H w Z' γ' st'.H w' → Q e a' w') → Code.roundsIn (FR R) 0 E.P c Q (n + 1) a w := fun hne hk =>
        ⟨e, st1, hk, h2, fun R hR Z γ a w hs Q hq => wpIn_mono (h3 R hR Z γ a w hs) fun e' a' w' ⟨e1, Z', γ', g1, g2⟩ => by
          subst e1
          cases e' <;> first | exact absurd rfl hne | exact hq Z' γ' a' w' g1 g2⟩
      cases e with
      | normal =>
        obtain ⟨e2, st2, k1, k2, k3⟩ := ih st1 h1 h2
        refine ⟨e2, st2, k1, k2, fun R hR Z γ a w hs Q hq => wpIn_mono (h3 R hR Z γ a w hs) fun e' a' w' ⟨e1, Z', γ', g1, g2⟩ => ?_⟩
        subst e1
        exact k3 R hR Z' γ' a' w' g1 Q fun Z2 γ2 a2 w2 g3 g4 => hq Z2 γ2 a2 w2 g3 (g2.trans g4)
      | _ => exact stop (by intro h; cases h) h1
  obtain ⟨e, st', h1, h2, h3⟩ := key n st h hfr
  exact ⟨e, st', h1, h2, fun R hR Z γ a w hs => wpIn_loop_rounds n (h3 R hR Z γ a w hs _ fun Z' γ' a' w' g1 g2 => ⟨rfl, Z', γ', g1, g2⟩)⟩

/-! ## jumps -/
def jumps (E : Env) (F : Fs) (l : Nat) (rest : Code) (ls : List LC) : Nat → LC
  | 0 => fun _ _ => False
  | n + 1 => fun st k => exec E F rest ls st (fun e st' => match e with
    | .goto l' => match Nat.beq l' l with
      | true => jumps E F l rest ls n st' k
      | false => False
    | e => k e st')

def scopeLC (E : Env) (F : Fs) (c : Code) (lc : List LC) (l : Nat) (rest : Code) (lr : List LC) (n : Nat) : LC := fun st k =>
  exec E F c lc st (fun e st' => match e with
    | .goto l' => match Nat.beq l' l with
      | true => jumps E F l rest lr n st' k
      | false => False
    | e => k e st')

/-- what holds at a jump: so many passes are left -/
def JumpN (F : Fence) (P : Program) (l : Nat) (rest : Code) (Q : Exit → Act → World → Prop) : Nat → Act → World → Prop
  | 0, _, _ => False
  | n + 1, a, w => rest.wpIn F 0 P (Exit.jump l (JumpN F P l rest Q n) Q) a w

theorem jump_mono {l : Nat} {J J' : Act → World → Prop} {Q : Exit → Act → World → Prop} (h : ∀ a w, J a w → J' a w) : ∀ e a w, Exit.jump l J Q e a w → Exit.jump l J' Q e a w
  | .goto _, a, w, h' => ⟨h'.1, h a w h'.2⟩
  | .normal, _, _, h' => h'
  | .exit _, _, _, h' => h'
  | .ret, _, _, h' => h'
  | .panic _, _, _, h' => h'
  | .outgrown, _, _, h' => h'

theorem least {p : Nat → Prop} (h : ∃ n, p n) : ∃ n, p n ∧ ∀ m, p m → n ≤ m := by
  obtain ⟨n, hn⟩ := h
  induction n using Nat.strongRecOn with
  | _ n ih =>
    by_cases hex : ∃ m, m < n ∧ p m
    · obtain ⟨m, h1, h2⟩ := hex; exact ih m h1 h2
    · exact ⟨n, hn, fun m hm => Nat.le_of_not_lt fun h => hex ⟨m, h, hm⟩⟩

open Classical in
theorem wp_scope_jumpN {F : Fence} {P : Program} {c rest : Code} {l : Nat} {Q : Exit → Act → World → Prop} {a : Act} {w : World} (hf : findLabel c l = some rest) (n : Nat) (h : c.wpIn F 0 P (Exit.jump l (JumpN F P l rest Q n) Q) a w) : (Code.scope c).wpIn F 0 P Q a w := by
  let μ : Act → World → Nat := fun a w => if hex : ∃ n, JumpN F P l rest Q n a w then Classical.choose (least hex) else 0
  refine wpIn_scope_jumps l (fun a w => ∃ n, JumpN F P l rest Q n a w) μ hf (wpIn_mono h (jump_mono fun a w hj => ⟨n, hj⟩)) fun a w hex => ?_
  have hmin := (Classical.choose_spec (least hex)).1
  have hμ : μ a w = Classical.choose (least hex) := by simp only [μ, dif_pos hex]
  generalize hm : Classical.choose (least hex) = m at hmin hμ
  cases m with
  | zero => exact hmin.elim
  | succ m =>
    refine wpIn_mono hmin (jump_mono fun a' w' hj => ⟨⟨m, hj⟩, ?_⟩)
    have hex' : ∃ n, JumpN F P l rest Q n a' w' := ⟨m, hj⟩
    have : μ a' w' = Classical.choose (least hex') := by simp only [μ, dif_pos hex']
    rw [this, hμ]
    exact Nat.lt_succ_of_le ((Classical.choose_spec (least hex')).2 m hj)

theorem scopeLC_ok {E : Env} {rd : Bool} {F : Fs} (hE : FsEnv E F) {c rest : Code} {l : Nat} (hf : findLabel c l = some rest) {lc lr : List LC} (hlc : LAll E rd c lc) (hlr : LAll E rd rest lr) (n : Nat) (st : St) (k : Exit → St → Prop)
    (h : scopeLC E F c lc l rest lr n st k) : COK E rd (.scope c) st k := by
  have key : ∀ (n : Nat) (st : St), jumps E F l rest lr n st k → (∀ i, st.nid ≤ i → st.H.get i = none) → ∃ e st', k e st' ∧ (∀ i, st'.nid ≤ i → st'.H.get i = none) ∧ (∀ l', e ≠ .goto l') ∧
      ∀ R, (rd = false → R = none) → ∀ Z γ a w, SatSt E Z γ st a w → ∀ Q : Exit → Act → World → Prop, (∀ Z' γ' a' w', SatSt E Z' γ' st' a' w' → Run Z γ st.H w Z' γ' st'.H w' → Q e a' w') → JumpN (FR R) E.P l rest Q n a w := by
    intro n
    induction n with
    | zero => intro st h; exact h.elim
    | succ n ih =>
      intro st h hfr
      obtain ⟨e, st1, h1, h2, h3⟩ := exec_ok hE rest lr st _ hlr h hfr
      have stop : (∀ l', e ≠ .goto l') → k e st1 → ∃ e st', k e st' ∧ (∀ i, st'.nid ≤ i → st'.H.get i = none) ∧ (∀ l', e ≠ .goto l') ∧
          ∀ R, (rd = false → R = none) → ∀ Z γ a w, SatSt E Z γ st a w → ∀ Q : Exit → Act → World → Prop, (∀ Z' γ' a' w', SatSt E Z' γ' st' a' w' → Run Z γ st.H w Z' γ' st'.H w' → Q e a' w') → JumpN (FR R) E.P l rest Q (n + 1) a w := fun hne hk =>
        ⟨e, st1, hk, h2, hne, fun R hR Z γ a w hs Q hq => wpIn_mono (h3 R hR Z γ a w hs) fun e' a' w' ⟨e1, Z', γ', g1, g2⟩ => by
          subst e1
          cases e' <;> first | exact absurd rfl (hne _) | exact hq Z' γ' a' w' g1 g2⟩
      cases e with
      | goto l' =>
        simp only at h1
        split at h1
        · rename_i hb
          have hb := Nat.eq_of_beq_eq_true hb
          subst hb
          obtain ⟨e2, st2, k1, k2, k3, k4⟩ := ih st1 h1 h2
          refine ⟨e2, st2, k1, k2, k3, fun R hR Z γ a w hs Q hq => wpIn_mono (h3 R hR Z γ a w hs) fun e' a' w' ⟨e1, Z', γ', g1, g2⟩ => ?_⟩
          subst e1
          exact ⟨rfl, k4 R hR Z' γ' a' w' g1 Q fun Z2 γ2 a2 w2 g3 g4 => hq Z2 γ2 a2 w2 g3 (g2.trans g4)⟩
        · exact h1.elim
      | _ => exact stop (by intro l' h; cases h) h1
  intro hfr
  obtain ⟨e, st1, h1, h2, h3⟩ := exec_ok hE c lc st _ hlc h hfr
  have stop : (∀ l', e ≠ .goto l') → k e st1 → ∃ e st', k e st' ∧ (∀ i, st'.nid ≤ i → st'.H.get i = none) ∧
      ∀ R, (rd = false → R = none) → ∀ Z γ a w, SatSt E Z γ st a w → (Code.scope c).wpIn (FR R) 0 E.P (fun e' a' w' => e' = e ∧ ∃ Z' γ', SatSt E Z' γ' st' a' w' ∧ Run Z γ st.H w Z' γ' st'.H w') a w := fun hne hk =>
    ⟨e, st1, hk, h2, fun R hR Z γ a w hs => wp_scope_jumpN hf 0 (wpIn_mono (h3 R hR Z γ a w hs) fun e' a' w' ⟨e1, g⟩ => by
      subst e1
      cases e' <;> first | exact absurd rfl (hne _) | exact ⟨rfl, g⟩)⟩
  cases e with
  | goto l' =>
    simp only at h1
    split at h1
    · rename_i hb
      have hb := Nat.eq_of_beq_eq_true hb
      subst hb
      obtain ⟨e2, st2, k1, k2, k3, k4⟩ := key n st1 h1 h2
      refine ⟨e2, st2, k1, k2, fun R hR Z γ a w hs => wp_scope_jumpN hf n (wpIn_mono (h3 R hR Z γ a w hs) fun e' a' w' ⟨e1, Z', γ', g1, g2⟩ => ?_)⟩
      subst e1
      exact ⟨rfl, k4 R hR Z' γ' a' w' g1 _ fun Z2 γ2 a2 w2 g3 g4 => ⟨rfl, Z2, γ2, g3, g2.trans g4⟩⟩
    · exact h1.elim
  | _ => exact stop (by intro l' h; cases h) h1

/-! ## loop contracts without a word -/
def firstLabel : Code → Option Nat
  | .label l => some l
  | .seq a b => match firstLabel a with
    | some l => some l
    | none => firstLabel b
  | .block _ c => firstLabel c
  | .cond _ a b => match firstLabel a with
    | some l => some l
    | none => firstLabel b
  | _ => none

def noLC (F : Fs) : LC := fun _ _ => F.F.st (.move (.const (.int .i64 777))) []

/-- Loops alone. -/
def auto0 (E : Env) (F : Fs) (n : Nat) : Code → List LC
  | .seq a b => auto0 E F n a ++ auto0 E F n b
  | .cond _ a b => auto0 E F n a ++ auto0 E F n b
  | .block _ c => auto0 E F n c
  | .scope c => match hasGoto c with
    | true => [noLC F]
    | false => auto0 E F n c
  | .loop c => [unroll E F c (auto0 E F n c) n]
  | .rangeFunc _ _ _ _ => [noLC F]
  | _ => []

/-- Loops, and scopes with a label. -/
def auto (E : Env) (F : Fs) (n : Nat) : Code → List LC
  | .seq a b => auto E F n a ++ auto E F n b
  | .cond _ a b => auto E F n a ++ auto E F n b
  | .block _ c => auto E F n c
  | .scope c => match hasGoto c with
    | true => [match firstLabel c with
      | some l => match findLabel c l with
        | some rest => scopeLC E F c (auto E F n c) l rest (auto0 E F n rest) n
        | none => noLC F
      | none => noLC F]
    | false => auto E F n c
  | .loop c => [unroll E F c (auto E F n c) n]
  | .rangeFunc g ps a b => [rangeLC E F g ps a b]
  | _ => []

theorem auto0_ok {E : Env} {rd : Bool} {F : Fs} (hE : FsEnv E F) (n : Nat) : ∀ (c : Code), (auto0 E F n c).length = nl c ∧ ∀ r, LAll E rd c (auto0 E F n c ++ r)
  | .seq a b => by
    obtain ⟨h1, h2⟩ := auto0_ok hE n a
    obtain ⟨h3, h4⟩ := auto0_ok hE n b
    refine ⟨by simp [auto0, nl, h1, h3], fun r => ⟨by rw [auto0, List.append_assoc]; exact h2 _, ?_⟩⟩
    rw [auto0, List.append_assoc, ← h1, List.drop_left]; exact h4 r
  | .cond _ a b => by
    obtain ⟨h1, h2⟩ := auto0_ok hE n a
    obtain ⟨h3, h4⟩ := auto0_ok hE n b
    refine ⟨by simp [auto0, nl, h1, h3], fun r => ⟨by rw [auto0, List.append_assoc]; exact h2 _, ?_⟩⟩
    rw [auto0, List.append_assoc, ← h1, List.drop_left]; exact h4 r
  | .block _ c => auto0_ok hE n c
  | .scope c => by
    cases hg : hasGoto c
    · simp only [auto0, nl, LAll, hg]; exact auto0_ok hE n c
    · simp only [auto0, nl, LAll, hg]; exact ⟨rfl, fun r _ _ h => (hE.base.no _ _ h).elim⟩
  | .loop c => ⟨rfl, fun r => fun st k h => unroll_ok hE (by have := (auto0_ok (rd := rd) hE n c).2 []; simpa using this) n st k h⟩
  | .rangeFunc _ _ _ _ => ⟨rfl, fun r => fun _ _ h => (hE.base.no _ _ h).elim⟩
  | .skip => ⟨rfl, fun _ => trivial⟩
  | .region _ _ _ => ⟨rfl, fun _ => trivial⟩
  | .exit _ => ⟨rfl, fun _ => trivial⟩
  | .label _ => ⟨rfl, fun _ => trivial⟩
  | .ret => ⟨rfl, fun _ => trivial⟩
  | .goto _ => ⟨rfl, fun _ => trivial⟩
  | .refuse _ => ⟨rfl, fun _ => trivial⟩

theorem auto_ok {E : Env} {F : Fs} (hE : FsEnv E F) (n : Nat) : ∀ (c : Code), (auto E F n c).length = nl c ∧ ∀ r, LAll E false c (auto E F n c ++ r)
  | .seq a b => by
    obtain ⟨h1, h2⟩ := auto_ok hE n a
    obtain ⟨h3, h4⟩ := auto_ok hE n b
    refine ⟨by simp [auto, nl, h1, h3], fun r => ⟨by rw [auto, List.append_assoc]; exact h2 _, ?_⟩⟩
    rw [auto, List.append_assoc, ← h1, List.drop_left]; exact h4 r
  | .cond _ a b => by
    obtain ⟨h1, h2⟩ := auto_ok hE n a
    obtain ⟨h3, h4⟩ := auto_ok hE n b
    refine ⟨by simp [auto, nl, h1, h3], fun r => ⟨by rw [auto, List.append_assoc]; exact h2 _, ?_⟩⟩
    rw [auto, List.append_assoc, ← h1, List.drop_left]; exact h4 r
  | .block _ c => auto_ok hE n c
  | .scope c => by
    obtain ⟨h1, h2⟩ := auto_ok hE n c
    cases hg : hasGoto c
    · simp only [auto, nl, LAll, hg]; exact ⟨h1, h2⟩
    · simp only [auto, nl, LAll, hg]
      refine ⟨rfl, fun r st k h => ?_⟩
      cases hl : firstLabel c with
      | none => simp only [hl] at h; exact (hE.base.no _ _ h).elim
      | some l =>
        simp only [hl] at h
        cases hf : findLabel c l with
        | none => simp only [hf] at h; exact (hE.base.no _ _ h).elim
        | some rest =>
          simp only [hf] at h
          refine scopeLC_ok hE hf (by have := h2 []; simpa using this) (by have := (auto0_ok (rd := false) hE n rest).2 []; simpa using this) n st k h
  | .loop c => ⟨rfl, fun r => fun st k h => unroll_ok hE (by have := (auto_ok hE n c).2 []; simpa using this) n st k h⟩
  | .rangeFunc _ _ _ _ => ⟨rfl, fun r => fun st k h => rangeLC_ok hE st k h⟩
  | .skip => ⟨rfl, fun _ => trivial⟩
  | .region _ _ _ => ⟨rfl, fun _ => trivial⟩
  | .exit _ => ⟨rfl, fun _ => trivial⟩
  | .label _ => ⟨rfl, fun _ => trivial⟩
  | .ret => ⟨rfl, fun _ => trivial⟩
  | .goto _ => ⟨rfl, fun _ => trivial⟩
  | .refuse _ => ⟨rfl, fun _ => trivial⟩

/-! ## tables -/
def okFn (fn : Func) : Bool :=
  match fn.body with
  | some _ => !(fn.name == "runtime.NumGoroutine")
  | none => false

def fnTab : Nat → List Func → Tr Func → Tr Func
  | _, [], t => t
  | k, f :: l, t => match okFn f with
    | true => fnTab (k + 1) l (t.put k f)
    | false => fnTab (k + 1) l t

theorem fnTab_get : ∀ (l : List Func) (k : Nat) (t : Tr Func) (i : Nat) (fn : Func), (fnTab k l t).get i = some fn → t.get i = some fn ∨ ∃ q, l[q]? = some fn ∧ i = k + q ∧ okFn fn = true
  | [], k, t, i, fn, h => .inl h
  | f :: l, k, t, i, fn, h => by
    rw [fnTab] at h
    split at h
    · rename_i hf
      rcases fnTab_get l (k + 1) _ i fn h with h | ⟨q, h1, h2, h3⟩
      · rw [Tr.get_put] at h
        split at h
        · rename_i e; cases h; exact .inr ⟨0, rfl, by omega, hf⟩
        · exact .inl h
      · exact .inr ⟨q + 1, by simpa using h1, by omega, h3⟩
    · rcases fnTab_get l (k + 1) _ i fn h with h | ⟨q, h1, h2, h3⟩
      · exact .inl h
      · exact .inr ⟨q + 1, by simpa using h1, by omega, h3⟩

/-- What a table of functions is to a program. -/
structure TabOk (P : Program) (T : Tr Func) : Prop where
  get : ∀ f fn, T.get f = some fn → P.funcs[f]? = some fn ∧ (fn.name == "runtime.NumGoroutine") = false ∧ fn.body.isSome = true

theorem tabOk_of {P : Program} {T : Tr Func} (h : T = fnTab 0 P.funcs.toList .e) : TabOk P T := ⟨fun f fn hf => by
  rw [h] at hf
  rcases fnTab_get _ _ _ _ _ hf with h | ⟨q, h1, h2, h3⟩
  · rw [Tr.get_e] at h; cases h
  · unfold okFn at h3
    have h4 : f = q := by omega
    subst h4
    split at h3
    · rename_i hb; exact ⟨by simpa using h1, by simpa using h3, by rw [hb]; rfl⟩
    · cases h3⟩

/-- All functions of the table, gone through in place, to a depth; 'mu': in a region whose order is open, a callee that changes what it is lent. -/
def fsOf (E : Env) (T : Tr Func) (n : Nat) (mu : Nat → Bool) (B : Fs) : Nat → Fs
  | 0 => B
  | d + 1 =>
    { I := fun f => match B.I f with
        | some sc => some sc
        | none => match T.get f with
          | some fn => some (sexec E (fsOf E T n mu B d) fn (auto E (fsOf E T n mu B d) n (bodyOf fn)))
          | none => none
      Y := fun lid => yexec E (fsOf E T n mu B d) (auto0 E (fsOf E T n mu B d) n) lid
      F := { st := B.F.st, f := fun f => match B.F f with
        | some fc => some fc
        | none => match T.get f with
          | some fn => match mu f with
            | true => some (fcall E (sexec E (fsOf E T n mu B d) fn (auto E (fsOf E T n mu B d) n (bodyOf fn))))
            | false => some (vcall (sexec E (fsOf E T n mu B d) fn (auto E (fsOf E T n mu B d) n (bodyOf fn))))
          | none => none } }

theorem fsOf_ok {E : Env} {T : Tr Func} (ok : E.Ok) (hT : TabOk E.P T) (n : Nat) (mu : Nat → Bool) {B : Fs} (hB : FsEnv E B) : ∀ d, FsEnv E (fsOf E T n mu B d)
  | 0 => hB
  | d + 1 => by
    have ih := fsOf_ok ok hT n mu hB d
    have hs : ∀ f fn, T.get f = some fn → SOK E f (sexec E (fsOf E T n mu B d) fn (auto E (fsOf E T n mu B d) n (bodyOf fn))) := fun f fn hf => by
      obtain ⟨h1, h2, h3⟩ := hT.get f fn hf
      exact sexec_ok ih h1 h2 h3 (by have := (auto_ok ih n (bodyOf fn)).2 []; simpa using this)
    refine ⟨⟨ok, hB.base.no, fun f fc h => ?_⟩, fun lid => yexec_ok ih (fun c => by have := (auto0_ok (rd := true) ih n c).2 []; simpa using this) lid, fun f sc h => ?_⟩
    · simp only [fsOf] at h
      split at h
      · rename_i h'; cases h; exact hB.base.fns f _ h'
      · split at h
        · rename_i hf
          split at h
          · cases h; exact fcall_ok (hs f _ hf)
          · cases h; exact vcall_ok (hs f _ hf)
        · cases h
    · simp only [fsOf] at h
      split at h
      · rename_i h'; cases h; exact hB.inl f _ h'
      · split at h
        · rename_i hf
          cases h; exact hs f _ hf
        · cases h

theorem ofList_get {α : Type} : ∀ (l : List α) (k : Nat) (t : Tr α) (i : Nat), (Tr.ofList k l t).get i = if k ≤ i ∧ i < k + l.length then l[i - k]? else t.get i
  | [], k, t, i => by simp [Tr.ofList]; omega
  | a :: l, k, t, i => by
    rw [Tr.ofList, ofList_get l (k + 1) _ i, Tr.get_put]
    simp only [List.length_cons]
    by_cases h1 : k + 1 ≤ i ∧ i < k + 1 + l.length
    · rw [if_pos h1, if_pos (by omega)]
      have : i - k = (i - (k + 1)) + 1 := by omega
      rw [this]; simp
    · rw [if_neg h1]
      by_cases e : i = k
      · subst e; rw [if_pos rfl, if_pos (by omega)]; simp
      · rw [if_neg e, if_neg (by omega)]

theorem info_of {P : Program} {T : Tr TypeInfo} (h : T = Tr.ofList 0 P.types.toList .e) : ∀ t i, T.get t = some i → P.info? t = some i := fun t i hi => by
  rw [h, ofList_get] at hi
  split at hi
  · rename_i hlt
    have h1 : P.types[t]? = some i := by simpa using hi
    have h2 : t < P.types.size := by simpa using hlt.2
    unfold Tables.info?
    rw [if_pos h2, h1]
  · rw [Tr.get_e] at hi; cases hi

end Go.Sx
