/- Part of an own symbolic executor for the model's code, proved sound, and of the proof of one statement (see the text of the claimed theorem). -/
import Derived.Test.YtkpkfccgbehilaaGreatDoorSxQ
import Derived.ScopeJumps
namespace Go.Sx
section
variable {F : Fence} {n : Nat} {P : Program} {Q : Exit → Act → World → Prop} {a : Act} {w : World}

theorem stepR_scope {b : Frame} {a : Act} {k : List Item} {cs : List Frame} {w : World} {c : Code} : step P (lone (b.atR a (.code (.scope c) :: k)) cs w) = .next (lone (b.atR a (.code c :: .inScope c :: k)) cs w) :=
  step_lone_go (by simp [stepG, stepG.exec, Frame.atR])
theorem stepR_inScope {b : Frame} {a : Act} {k : List Item} {cs : List Frame} {w : World} {c : Code} : step P (lone (b.atR a (.inScope c :: k)) cs w) = .next (lone (b.atR a k) cs w) :=
  step_lone_go (by simp [stepG, stepG.exec, Frame.atR])

/-- A run within a scope that is left otherwise than by a jump to the label. -/
theorem out_scope {I : Machine → Prop} {m : Machine} {b : Frame} {c : Code} {k : List Item} {cs : List Frame} {e : Exit} {a : Act} {w : World} (hc : I (lone (b.atR a (.inScope c :: k)) cs w)) (hg : ∀ l, e ≠ .goto l)
    (h : ArrivesIn I P m b (.inScope c :: k) cs e a w) : ArrivesIn I P m b k cs e a w := by
  cases e with
  | normal => exact StepsIn.trans h (.one hc stepR_inScope)
  | exit id =>
    have hx : exitTo id (.inScope c :: k) = exitTo id k := by simp [exitTo]
    exact ⟨fun k' hk => h.1 k' (by rw [hx]; exact hk), fun hr hk => h.2 hr (by rw [hx]; exact hk)⟩
  | goto l => exact absurd rfl (hg l)
  | ret => exact h
  | panic ch => exact h
  | outgrown => exact h

theorem wpIn_scope_straight {c : Code} (h : c.wpIn F n P (Exit.noGoto Q) a w) : (Code.scope c).wpIn F n P Q a w := by
  intro b k cs hro hb hr
  obtain ⟨e, a₁, w₁, hq, harr⟩ := h b (.inScope c :: k) cs hro hb hr
  have h0 : (lone (b.atR a (.code (.scope c) :: k)) cs w).fenced P F := fenced_calm hb hr rfl
  have fin : (∀ l, e ≠ .goto l) → Q e a₁ w₁ → ∃ e a' w', Q e a' w' ∧ ArrivesIn (Machine.fenced P F) P (lone (b.atR a (.code (.scope c) :: k)) cs w) b k cs e a' w' := fun hne hq =>
    ⟨e, a₁, w₁, hq, .of_steps (.one h0 stepR_scope) (out_scope (fenced_calm hb hr rfl) hne harr)⟩
  cases e with
  | goto l => exact hq.elim
  | _ => exact fin (by intro l h; cases h) hq

theorem wpIn_scope_jumps {c rest : Code} (l : Nat) (J : Act → World → Prop) (μ : Act → World → Nat) (hf : findLabel c l = some rest)
    (first : c.wpIn F n P (Exit.jump l J Q) a w)
    (pass : ∀ a w, J a w → rest.wpIn F n P (Exit.jump l (fun a' w' => J a' w' ∧ μ a' w' < μ a w) Q) a w) : (Code.scope c).wpIn F n P Q a w := by
  intro b k cs hro hb hr
  have hg : gotoIn l (.inScope c :: k) = some (.code rest :: .inScope c :: k) := by simp [gotoIn, hf]
  have key : ∀ m a w, μ a w = m → J a w → ∃ e a' w', Q e a' w' ∧ ArrivesIn (Machine.fenced P F) P (lone (b.atR a (.code rest :: .inScope c :: k)) cs w) b k cs e a' w' := by
    intro m
    induction m using Nat.strongRecOn with
    | _ m ih =>
      intro a w hm hJ
      obtain ⟨e, a₁, w₁, hq, harr⟩ := pass a w hJ b (.inScope c :: k) cs hro hb hr
      have fin : (∀ l, e ≠ .goto l) → Q e a₁ w₁ → ∃ e a' w', Q e a' w' ∧ ArrivesIn (Machine.fenced P F) P (lone (b.atR a (.code rest :: .inScope c :: k)) cs w) b k cs e a' w' := fun hne hq =>
        ⟨e, a₁, w₁, hq, out_scope (fenced_calm hb hr rfl) hne harr⟩
      cases e with
      | goto l' =>
        obtain ⟨rfl, hJ', hlt⟩ := hq
        obtain ⟨e₂, a₂, w₂, hq₂, harr₂⟩ := ih _ (by omega) a₁ w₁ rfl hJ'
        exact ⟨e₂, a₂, w₂, hq₂, .of_steps (harr.1 _ hg) harr₂⟩
      | _ => exact fin (by intro l h; cases h) hq
  obtain ⟨e, a₁, w₁, hq, harr⟩ := first b (.inScope c :: k) cs hro hb hr
  have h0 : (lone (b.atR a (.code (.scope c) :: k)) cs w).fenced P F := fenced_calm hb hr rfl
  have fin : (∀ l, e ≠ .goto l) → Q e a₁ w₁ → ∃ e a' w', Q e a' w' ∧ ArrivesIn (Machine.fenced P F) P (lone (b.atR a (.code (.scope c) :: k)) cs w) b k cs e a' w' := fun hne hq =>
    ⟨e, a₁, w₁, hq, .of_steps (.one h0 stepR_scope) (out_scope (fenced_calm hb hr rfl) hne harr)⟩
  cases e with
  | goto l' =>
    obtain ⟨rfl, hJ'⟩ := hq
    obtain ⟨e₂, a₂, w₂, hq₂, harr₂⟩ := key _ a₁ w₁ rfl hJ'
    exact ⟨e₂, a₂, w₂, hq₂, .of_steps (.one h0 stepR_scope) (.of_steps (harr.1 _ hg) harr₂)⟩
  | _ => exact fin (by intro l h; cases h) hq
end
end Go.Sx

namespace Go.Sx

/-! # Regions that draw their order -/

abbrev TF := Nat → Option AV

def evf (G : List (Nat × List AV)) (t : TF) (ds : List Nat) : Operand → AV
  | .tmp i => match memb i ds with
    | true => match t i with
      | some a => a
      | none => .any
    | false => .any
  | .const v => ofVal v
  | .global g => match lookG G g with
    | some cs => .iref cs
    | none => .raw (.pointer (some ⟨g, 0, none⟩))
  | .func f => .fn (.func f) [] []

def tmpsIn : List Operand → List Nat
  | [] => []
  | .tmp i :: l => i :: tmpsIn l
  | _ :: l => tmpsIn l

inductive Ent where
  | skip
  | did (u : Out)

def updT (t : TF) (dst : Option Tmp) (r : AV) : TF :=
  match dst with
  | none => t
  | some d => fun i => if i = d then some r else t i

def Ent.val : Ent → AV
  | .skip => .tup []
  | .did u => u.r

def Ent.wr : Ent → List (Nat × Chunk)
  | .skip => []
  | .did u => u.wr

def Ent.nd : Ent → List Nat
  | .skip => []
  | .did u => u.nd

def gdOk (all : List Oper) (t : TF) (o : Oper) (want : Bool) : Prop :=
  match o.guard with
  | none => want = true
  | some (j, w) => ∃ d, dstAt all j = some d ∧ ((∃ b, t d = some (.bool b) ∧ want = (b == w)) ∨ (t d = some (.tup []) ∧ want = false))

inductive Trace (E : Env) (all : List Oper) (base nt : Nat) : Nat → TF → Heap → List Oper → List Ent → TF → Heap → Prop
  | nil {i t H} : Trace E all base nt i t H [] [] t H
  | did {i t H o rest log tE HE u} : dstOk nt o.dst = true → ValidG E o (evf E.G t (tmpsIn o.op.operands.toList)) H (base + room * i) u → u.Wf H (base + room * i) → gdOk all t o true →
      Trace E all base nt (i + 1) (updT t o.dst u.r) (H.puts u.wr) rest log tE HE → Trace E all base nt i t H (o :: rest) (.did u :: log) tE HE
  | skip {i t H o rest log tE HE} : dstOk nt o.dst = true → gdOk all t o false →
      Trace E all base nt (i + 1) (updT t o.dst (.tup [])) H rest log tE HE → Trace E all base nt i t H (o :: rest) (.skip :: log) tE HE

/-- The run in the text's order; what each operation did is noted. -/
def dOp (E : Env) (F : FT) (i : Nat) (o : Oper) (st : St) (k : St → Ent → Prop) : Prop :=
  match dstOk st.nt o.dst with
  | true => stepF E F (st.nid + room * i) (evf E.G st.t.get (tmpsIn o.op.operands.toList)) st.H o.op (fun u => k (({ st with H := st.H.puts u.wr } : St).set o.dst u.r) (.did u))
  | false => False

def dSkip (o : Oper) (st : St) (k : St → Ent → Prop) : Prop :=
  match dstOk st.nt o.dst with
  | true => k (st.set o.dst (.tup [])) .skip
  | false => False

def runD (E : Env) (F : FT) (all : List Oper) : Nat → List Oper → St → List Ent → (St → List Ent → Prop) → Prop
  | _, [], st, log, k => k st log
  | i, o :: rest, st, log, k => match o.guard with
    | none => dOp E F i o st (fun st' e => runD E F all (i + 1) rest st' (e :: log) k)
    | some (j, want) => match dstAt all j with
      | none => False
      | some d => match st.t.get d with
        | some (.bool b) => bcase b
            (match want with
              | true => dOp E F i o { st with t := st.t.put d (.bool true) } (fun st' e => runD E F all (i + 1) rest st' (e :: log) k)
              | false => dSkip o { st with t := st.t.put d (.bool true) } (fun st' e => runD E F all (i + 1) rest st' (e :: log) k))
            (match want with
              | true => dSkip o { st with t := st.t.put d (.bool false) } (fun st' e => runD E F all (i + 1) rest st' (e :: log) k)
              | false => dOp E F i o { st with t := st.t.put d (.bool false) } (fun st' e => runD E F all (i + 1) rest st' (e :: log) k))
        | some (.tup []) => dSkip o st (fun st' e => runD E F all (i + 1) rest st' (e :: log) k)
        | _ => False

theorem get_set_tf (st : St) (dst : Option Tmp) (r : AV) : (st.set dst r).t.get = updT st.t.get dst r := by
  funext i
  cases dst with
  | none => rfl
  | some d => simp only [St.set, updT, Tr.get_put]

theorem put_same {t : Tr AV} {d : Nat} {x : AV} (h : t.get d = some x) : (t.put d x).get = t.get := by
  funext i; rw [Tr.get_put]; split
  · rename_i e; rw [e, h]
  · rfl

theorem runD_trace {E : Env} {F : FT} (hE : FEnv E F) (all : List Oper) (k : St → List Ent → Prop) : ∀ (rest : List Oper) (i : Nat) (st : St) (log : List Ent), runD E F all i rest st log k →
    ∃ st' log', k st' (log'.reverse ++ log) ∧ st'.nt = st.nt ∧ st'.nid = st.nid ∧ Trace E all st.nid st.nt i st.t.get st.H rest log' st'.t.get st'.H
  | [], i, st, log, h => ⟨st, [], h, rfl, rfl, .nil⟩
  | o :: rest, i, st, log, h => by
    have did : ∀ st0 : St, dOp E F i o st0 (fun st' e => runD E F all (i + 1) rest st' (e :: log) k) → st0.t.get = st.t.get → st0.H = st.H → st0.nid = st.nid → st0.nt = st.nt → gdOk all st.t.get o true →
        ∃ st' log', k st' (log'.reverse ++ log) ∧ st'.nt = st.nt ∧ st'.nid = st.nid ∧ Trace E all st.nid st.nt i st.t.get st.H (o :: rest) log' st'.t.get st'.H := by
      intro st0 h ht hH hn hnt hg
      unfold dOp at h
      split at h
      · rename_i hd
        obtain ⟨u, hk, hw, hv⟩ := stepF_ok hE h
        obtain ⟨st', log', h1, h2, h3, h4⟩ := runD_trace hE all k rest (i + 1) _ _ hk
        have e1 : (({ st0 with H := st0.H.puts u.wr } : St).set o.dst u.r).nt = st.nt := by unfold St.set; split <;> exact hnt
        have e2 : (({ st0 with H := st0.H.puts u.wr } : St).set o.dst u.r).nid = st.nid := by unfold St.set; split <;> exact hn
        have e3 : (({ st0 with H := st0.H.puts u.wr } : St).set o.dst u.r).H = st.H.puts u.wr := by unfold St.set; split <;> (rw [← hH])
        rw [e1, e2, e3, get_set_tf] at h4
        refine ⟨st', .did u :: log', by simpa using h1, h2.trans e1, h3.trans e2, ?_⟩
        refine .did (by rw [← hnt]; exact hd) (by rw [← ht, ← hH, ← hn]; exact hv) (by rw [← hH, ← hn]; exact hw) hg ?_
        have : ({ st0 with H := st0.H.puts u.wr } : St).t.get = st.t.get := ht
        rwa [this] at h4
      · exact h.elim
    have skip : ∀ st0 : St, dSkip o st0 (fun st' e => runD E F all (i + 1) rest st' (e :: log) k) → st0.t.get = st.t.get → st0.H = st.H → st0.nid = st.nid → st0.nt = st.nt → gdOk all st.t.get o false →
        ∃ st' log', k st' (log'.reverse ++ log) ∧ st'.nt = st.nt ∧ st'.nid = st.nid ∧ Trace E all st.nid st.nt i st.t.get st.H (o :: rest) log' st'.t.get st'.H := by
      intro st0 h ht hH hn hnt hg
      unfold dSkip at h
      split at h
      · rename_i hd
        obtain ⟨st', log', h1, h2, h3, h4⟩ := runD_trace hE all k rest (i + 1) _ _ h
        have e1 : (st0.set o.dst (.tup [])).nt = st.nt := by unfold St.set; split <;> exact hnt
        have e2 : (st0.set o.dst (.tup [])).nid = st.nid := by unfold St.set; split <;> exact hn
        have e3 : (st0.set o.dst (.tup [])).H = st.H := by unfold St.set; split <;> exact hH
        rw [e1, e2, e3, get_set_tf, ht] at h4
        exact ⟨st', .skip :: log', by simpa using h1, h2.trans e1, h3.trans e2, .skip (by rw [← hnt]; exact hd) hg h4⟩
      · exact h.elim
    unfold runD at h
    split at h
    · rename_i hg
      exact did st h rfl rfl rfl rfl (by simp [gdOk, hg])
    · rename_i j want hg
      split at h
      · exact h.elim
      · rename_i d hd
        split at h
        · rename_i b hb
          rw [bcase_iff] at h
          cases b with
          | true =>
            have h := h.1 rfl
            cases want with
            | true => exact did _ h (put_same hb) rfl rfl rfl (by simp only [gdOk, hg]; exact ⟨d, hd, .inl ⟨true, hb, rfl⟩⟩)
            | false => exact skip _ h (put_same hb) rfl rfl rfl (by simp only [gdOk, hg]; exact ⟨d, hd, .inl ⟨true, hb, rfl⟩⟩)
          | false =>
            have h := h.2 rfl
            cases want with
            | true => exact skip _ h (put_same hb) rfl rfl rfl (by simp only [gdOk, hg]; exact ⟨d, hd, .inl ⟨false, hb, rfl⟩⟩)
            | false => exact did _ h (put_same hb) rfl rfl rfl (by simp only [gdOk, hg]; exact ⟨d, hd, .inl ⟨false, hb, rfl⟩⟩)
        · rename_i hb
          exact skip st h rfl rfl rfl rfl (by simp only [gdOk, hg]; exact ⟨d, hd, .inr ⟨hb, by first | rfl | trivial⟩⟩)
        · exact h.elim

end Go.Sx

namespace Go.Sx

/-! ## masks -/
def maskE (acc : List Nat) : List Edge → Nat
  | [] => 0
  | e :: l => match Region.binds .any e with
    | true => Nat.lor (Nat.lor (2 ^ e.on) (acc.getD e.on 0)) (maskE acc l)
    | false => maskE acc l

def masks : List Oper → List Nat → List Nat
  | [], acc => acc
  | o :: l, acc => masks l (acc ++ [maskE acc o.after.toList])

theorem maskE_spec {acc : List Nat} {p : Nat} : ∀ {l : List Edge}, (maskE acc l).testBit p = true → ∃ e, e ∈ l ∧ Region.binds .any e = true ∧ (p = e.on ∨ (acc.getD e.on 0).testBit p = true)
  | [], h => by simp [maskE] at h
  | e :: l, h => by
    unfold maskE at h
    split at h
    · rename_i hb
      have h : ((2 ^ e.on ||| acc.getD e.on 0) ||| maskE acc l).testBit p = true := h
      rw [Nat.testBit_or, Nat.testBit_or] at h
      simp only [Bool.or_eq_true] at h
      rcases h with (h | h) | h
      · rw [Nat.testBit_two_pow] at h; exact ⟨e, List.mem_cons_self, hb, .inl (of_decide_eq_true h).symm⟩
      · exact ⟨e, List.mem_cons_self, hb, .inr h⟩
      · obtain ⟨e', h1, h2, h3⟩ := maskE_spec h
        exact ⟨e', List.mem_cons_of_mem _ h1, h2, h3⟩
    · obtain ⟨e', h1, h2, h3⟩ := maskE_spec h
      exact ⟨e', List.mem_cons_of_mem _ h1, h2, h3⟩

theorem masks_get : ∀ (l : List Oper) (acc : List Nat), (∀ j, j < acc.length → (masks l acc).getD j 0 = acc.getD j 0) ∧
    ∀ k o, l[k]? = some o → ∃ pre, (∀ j, j < acc.length + k → pre.getD j 0 = (masks l acc).getD j 0) ∧ pre.length = acc.length + k ∧ (masks l acc).getD (acc.length + k) 0 = maskE pre o.after.toList
  | [], acc => ⟨fun _ _ => rfl, fun k o h => by simp at h⟩
  | o :: l, acc => by
    obtain ⟨h1, h2⟩ := masks_get l (acc ++ [maskE acc o.after.toList])
    simp only [masks]
    have g1 : ∀ j, j < acc.length → (masks l (acc ++ [maskE acc o.after.toList])).getD j 0 = acc.getD j 0 := fun j hj => by
      rw [h1 j (by simp; omega)]
      simp [List.getD, List.getElem?_append_left hj]
    refine ⟨g1, fun k o' hk => ?_⟩
    cases k with
    | zero =>
      simp at hk; subst hk
      refine ⟨acc, fun j hj => (g1 j hj).symm, rfl, ?_⟩
      rw [Nat.add_zero, h1 acc.length (by simp)]
      simp [List.getD]
    | succ k =>
      obtain ⟨pre, p1, p2, p3⟩ := h2 k o' (by simpa using hk)
      refine ⟨pre, fun j hj => p1 j (by simp; omega), by simp at p2; omega, ?_⟩
      have : (acc ++ [maskE acc o.after.toList]).length + k = acc.length + (k + 1) := by simp; omega
      rw [this] at p3; exact p3

/-- 'p' comes ahead of 'j'. -/
def Ahead (all : List Oper) (j p : Nat) : Prop := ((masks all []).getD j 0).testBit p = true

theorem ahead_step {all : List Oper} {j p : Nat} (h : Ahead all j p) : ∃ o, all[j]? = some o ∧ ∃ e, e ∈ o.after.toList ∧ Region.binds .any e = true ∧ (p = e.on ∨ (e.on < j ∧ Ahead all e.on p)) := by
  unfold Ahead at *
  cases ho : all[j]? with
  | none =>
    have hlen : ∀ (l : List Oper) (acc : List Nat), (masks l acc).length = acc.length + l.length := by
      intro l
      induction l with
      | nil => intro acc; simp [masks]
      | cons o l ih => intro acc; rw [masks, ih]; simp; omega
    have : (masks all []).getD j 0 = 0 := by
      rw [List.getD_eq_getElem?_getD, List.getElem?_eq_none (by rw [hlen]; simp at ho ⊢; exact ho)]; rfl
    rw [this] at h; simp at h
  | some o =>
    obtain ⟨pre, p1, p2, p3⟩ := (masks_get all []).2 j o ho
    simp only [List.length_nil, Nat.zero_add] at p1 p2 p3
    rw [p3] at h
    obtain ⟨e, h1, h2, h3⟩ := maskE_spec h
    refine ⟨o, rfl, e, h1, h2, ?_⟩
    rcases h3 with h3 | h3
    · exact .inl h3
    · by_cases hlt : e.on < j
      · exact .inr ⟨hlt, by rw [← p1 _ hlt]; exact h3⟩
      · rw [List.getD_eq_getElem?_getD, List.getElem?_eq_none (by omega)] at h3; simp at h3

/-! ## what is looked at -/
structure Row where
  dst : Option Nat
  rd : List Nat
  nd : List Nat
  wr : List Nat
  lo : Nat
  mask : Nat

def meet : List Nat → List Nat → Bool
  | [], _ => false
  | x :: l, ys => match memb x ys with
    | true => true
    | false => meet l ys

theorem memb_of_mem {i : Nat} {l : List Nat} (h : i ∈ l) : memb i l = true := by
  induction l with
  | nil => cases h
  | cons j l ih =>
    unfold memb
    split
    · rfl
    · rename_i hb
      rcases List.mem_cons.1 h with rfl | h
      · exact absurd hb (by simp)
      · exact ih h

theorem meet_of {xs ys : List Nat} {x : Nat} (h1 : x ∈ xs) (h2 : x ∈ ys) : meet xs ys = true := by
  induction xs with
  | nil => cases h1
  | cons y l ih =>
    unfold meet
    split
    · rfl
    · rename_i hb
      rcases List.mem_cons.1 h1 with rfl | h
      · rw [memb_of_mem h2] at hb; cases hb
      · exact ih h

def memO (d : Option Nat) (l : List Nat) : Bool :=
  match d with
  | none => false
  | some d => memb d l

def anyIn (lo : Nat) : List Nat → Bool
  | [] => false
  | x :: l => match Nat.ble lo x, Nat.blt x (lo + room) with
    | true, true => true
    | _, _ => anyIn lo l

theorem anyIn_of {lo x : Nat} {l : List Nat} (h : x ∈ l) (h1 : lo ≤ x) (h2 : x < lo + room) : anyIn lo l = true := by
  induction l with
  | nil => cases h
  | cons y l ih =>
    unfold anyIn
    split
    · rfl
    · rename_i hn
      rcases List.mem_cons.1 h with rfl | h
      · exact absurd (Nat.ble_eq_true_of_le (Nat.succ_le_of_lt h2)) (fun hh => hn (Nat.ble_eq_true_of_le h1) hh)
      · exact ih h

/-- do two operations meddle with one another? ('a' stands ahead of 'b' in the text) -/
def conf (a b : Row) : Bool :=
  memO a.dst b.rd || (memO b.dst a.rd || ((match a.dst, b.dst with
    | some x, some y => Nat.beq x y
    | _, _ => false) || (meet a.wr (b.nd ++ b.wr) || (meet b.wr a.nd || anyIn a.lo (b.nd ++ b.wr)))))

def okFrom (i : Nat) (a : Row) : List Row → Bool
  | [] => true
  | b :: l => match conf a b with
    | false => okFrom i a l
    | true => match b.mask.testBit i with
      | true => okFrom i a l
      | false => false

def okAll : Nat → List Row → Bool
  | _, [] => true
  | i, a :: l => match okFrom i a l with
    | true => okAll (i + 1) l
    | false => false

theorem okFrom_spec {i : Nat} {a : Row} : ∀ {l : List Row}, okFrom i a l = true → ∀ (j : Nat) b, l[j]? = some b → conf a b = true → b.mask.testBit i = true
  | [], _, j, b, h, _ => by simp at h
  | c :: l, h, j, b, hj, hc => by
    unfold okFrom at h
    cases j with
    | zero =>
      simp at hj; subst hj
      split at h
      · rename_i hf; rw [hc] at hf; cases hf
      · split at h
        · assumption
        · cases h
    | succ j =>
      simp at hj
      split at h
      · exact okFrom_spec h j b hj hc
      · split at h
        · exact okFrom_spec h j b hj hc
        · cases h

theorem okAll_spec : ∀ {l : List Row} {n : Nat}, okAll n l = true → ∀ (i j : Nat) a b, i < j → l[i]? = some a → l[j]? = some b → conf a b = true → b.mask.testBit (n + i) = true
  | [], _, _, i, j, a, b, _, h, _, _ => by simp at h
  | c :: l, n, h, i, j, a, b, hij, hi, hj, hc => by
    unfold okAll at h
    split at h
    · rename_i hf
      obtain ⟨j, rfl⟩ : ∃ k, j = k + 1 := ⟨j - 1, by omega⟩
      simp at hj
      cases i with
      | zero => simp at hi; subst hi; exact okFrom_spec hf j b hj hc
      | succ i => simp at hi; have := okAll_spec h i j a b (by omega) hi hj hc; rwa [show n + 1 + i = n + (i + 1) by omega] at this
    · cases h

def rdOf (all : List Oper) (o : Oper) : List Nat :=
  match o.guard with
  | none => tmpsIn o.op.operands.toList
  | some (j, _) => match dstAt all j with
    | some d => d :: tmpsIn o.op.operands.toList
    | none => tmpsIn o.op.operands.toList

def rowsOf (all : List Oper) (base : Nat) : Nat → List Oper → List Ent → List Nat → List Row
  | i, o :: os, e :: es, m :: ms => ⟨o.dst, rdOf all o, e.nd, e.wr.map (·.1), base + room * i, m⟩ :: rowsOf all base (i + 1) os es ms
  | _, _, _, _ => []

def edgesLt (j : Nat) : List Edge → Bool
  | [] => true
  | e :: l => match Region.binds .any e, Nat.blt e.on j with
    | true, false => false
    | _, _ => edgesLt j l

def allLt : Nat → List Oper → Bool
  | _, [] => true
  | j, o :: l => match edgesLt j o.after.toList with
    | true => allLt (j + 1) l
    | false => false

def wrLt (hi : Nat) : List (Nat × Chunk) → Bool
  | [] => true
  | p :: l => match Nat.blt p.1 hi with
    | true => wrLt hi l
    | false => false

def allWr (base : Nat) : Nat → List Ent → Bool
  | _, [] => true
  | j, e :: l => match wrLt (base + room * (j + 1)) e.wr with
    | true => allWr base (j + 1) l
    | false => false

def noSel : List Oper → Bool
  | [] => true
  | o :: l => match o.op with
    | .select _ _ => false
    | _ => noSel l

def drawOk (all : List Oper) (base : Nat) (log : List Ent) : Bool :=
  match allLt 0 all, allWr base 0 log, okAll 0 (rowsOf all base 0 all log (masks all [])) with
  | true, true, true => true
  | _, _, _ => false

theorem edgesLt_spec {j : Nat} {l : List Edge} (h : edgesLt j l = true) : ∀ e, e ∈ l → Region.binds .any e = true → e.on < j := by
  induction l with
  | nil => intro e he; cases he
  | cons x l ih =>
    intro e he hb
    unfold edgesLt at h
    split at h
    · cases h
    · rename_i hn
      rcases List.mem_cons.1 he with rfl | he
      · apply Classical.byContradiction; intro hlt
        exact hn hb (by cases hq : Nat.blt e.on j with
          | false => rfl
          | true => exact absurd (Nat.le_of_ble_eq_true hq) hlt)
      · exact ih h e he hb

theorem allLt_spec : ∀ {l : List Oper} {n : Nat}, allLt n l = true → ∀ (j : Nat) o, l[j]? = some o → ∀ e, e ∈ o.after.toList → Region.binds .any e = true → e.on < n + j
  | [], _, _, j, o, h => by simp at h
  | x :: l, n, h, j, o, hj => by
    unfold allLt at h
    split at h
    · rename_i hx
      cases j with
      | zero => simp at hj; subst hj; exact edgesLt_spec hx
      | succ j => simp at hj; intro e he hb; have := allLt_spec h j o hj e he hb; omega
    · cases h

theorem wrLt_spec {hi : Nat} {l : List (Nat × Chunk)} (h : wrLt hi l = true) : ∀ p, p ∈ l → p.1 < hi := by
  induction l with
  | nil => intro p hp; cases hp
  | cons x l ih =>
    intro p hp
    unfold wrLt at h
    split at h
    · rename_i hx
      rcases List.mem_cons.1 hp with rfl | hp
      · exact Nat.le_of_ble_eq_true hx
      · exact ih h p hp
    · cases h

theorem allWr_spec {base : Nat} : ∀ {l : List Ent} {n : Nat}, allWr base n l = true → ∀ (j : Nat) e, l[j]? = some e → ∀ p, p ∈ e.wr → p.1 < base + room * (n + j + 1)
  | [], _, _, j, o, h => by simp at h
  | x :: l, n, h, j, e, hj => by
    unfold allWr at h
    split at h
    · rename_i hx
      cases j with
      | zero => simp at hj; subst hj; exact wrLt_spec hx
      | succ j => simp at hj; intro p hp; have := allWr_spec h j e hj p hp; rwa [show n + 1 + j + 1 = n + (j + 1) + 1 by omega] at this
    · cases h

theorem rowsOf_get {all : List Oper} {base : Nat} : ∀ (os : List Oper) (es : List Ent) (ms : List Nat) (n j : Nat) o e m, os[j]? = some o → es[j]? = some e → ms[j]? = some m →
    (rowsOf all base n os es ms)[j]? = some ⟨o.dst, rdOf all o, e.nd, e.wr.map (·.1), base + room * (n + j), m⟩
  | [], _, _, _, j, o, e, m, h, _, _ => by simp at h
  | _ :: _, [], _, _, j, o, e, m, _, h, _ => by simp at h
  | _ :: _, _ :: _, [], _, j, o, e, m, _, _, h => by simp at h
  | x :: os, y :: es, z :: ms, n, j, o, e, m, h1, h2, h3 => by
    cases j with
    | zero => simp at h1 h2 h3; subst h1; subst h2; subst h3; rfl
    | succ j =>
      simp at h1 h2 h3
      have := rowsOf_get (all := all) (base := base) os es ms (n + 1) j o e m h1 h2 h3
      simp only [rowsOf, List.getElem?_cons_succ]
      rw [this, show n + 1 + j = n + (j + 1) by omega]

end Go.Sx
