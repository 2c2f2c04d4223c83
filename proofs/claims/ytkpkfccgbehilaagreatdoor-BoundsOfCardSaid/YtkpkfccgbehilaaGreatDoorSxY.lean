/- Part of an own symbolic executor for the model's code, proved sound, and of the proof of one statement (see the text of the claimed theorem). -/
import Derived.Test.YtkpkfccgbehilaaGreatDoorSxV
import Derived.Scope
namespace Go.Sx

/-! ## the canonical run, by index -/
structure Fam (E : Env) (all : List Oper) (base nt : Nat) (n : Nat) (T : Nat → TF) (H : Nat → Heap) (en : Nat → Ent) : Prop where
  step : ∀ i o, i < n → all[i]? = some o → T (i + 1) = updT (T i) o.dst (en i).val ∧ H (i + 1) = (H i).puts (en i).wr ∧ dstOk nt o.dst = true ∧
    match en i with
    | .did u => ValidG E o (evf E.G (T i) (tmpsIn o.op.operands.toList)) (H i) (base + room * i) u ∧ u.Wf (H i) (base + room * i) ∧ gdOk all (T i) o true
    | .skip => gdOk all (T i) o false

theorem trace_fam {E : Env} {all : List Oper} {base nt : Nat} {i t H rest log tE HE} (h : Trace E all base nt i t H rest log tE HE) :
    log.length = rest.length ∧ ∃ (T : Nat → TF) (Hf : Nat → Heap) (en : Nat → Ent), T i = t ∧ Hf i = H ∧ T (i + rest.length) = tE ∧ Hf (i + rest.length) = HE ∧
      (∀ k, k < rest.length → log[k]? = some (en (i + k))) ∧
      ∀ k o, rest[k]? = some o → T (i + k + 1) = updT (T (i + k)) o.dst (en (i + k)).val ∧ Hf (i + k + 1) = (Hf (i + k)).puts (en (i + k)).wr ∧ dstOk nt o.dst = true ∧
        match en (i + k) with
        | .did u => ValidG E o (evf E.G (T (i + k)) (tmpsIn o.op.operands.toList)) (Hf (i + k)) (base + room * (i + k)) u ∧ u.Wf (Hf (i + k)) (base + room * (i + k)) ∧ gdOk all (T (i + k)) o true
        | .skip => gdOk all (T (i + k)) o false := by
  induction h with
  | @nil i t H => exact ⟨rfl, fun _ => t, fun _ => H, fun _ => .skip, rfl, rfl, rfl, rfl, fun k h => by simp at h, fun k o h => by simp at h⟩
  | @did i t H o rest log tE HE u hd hv hw hg _ ih =>
    obtain ⟨hl, T, Hf, en, h1, h2, h3, h4, h5, h6⟩ := ih
    refine ⟨by simp [hl], fun j => if j = i then t else T j, fun j => if j = i then H else Hf j, fun j => if j = i then .did u else en j, by simp, by simp, ?_, ?_, ?_, ?_⟩
    · simp only [List.length_cons]; rw [if_neg (by omega), ← h3]; congr 1; omega
    · simp only [List.length_cons]; rw [if_neg (by omega), ← h4]; congr 1; omega
    · intro k hk
      cases k with
      | zero => simp
      | succ k => simp only [List.length_cons] at hk; show (_ : Option Ent) = some (if i + (k + 1) = i then _ else en (i + (k + 1))); rw [if_neg (by omega)]; have := h5 k (by omega); rw [show i + (k + 1) = i + 1 + k by omega]; simpa using this
    · intro k o' hk
      cases k with
      | zero =>
        simp at hk; subst hk
        simp only [Nat.add_zero, if_true]
        rw [if_neg (by omega), if_neg (by omega)]
        exact ⟨h1, h2, hd, hv, hw, hg⟩
      | succ k =>
        simp at hk
        have := h6 k o' hk
        simp only [show i + (k + 1) = i + 1 + k by omega]
        rw [if_neg (by omega), if_neg (by omega), if_neg (by omega), if_neg (by omega), if_neg (by omega)]
        exact this
  | @skip i t H o rest log tE HE hd hg _ ih =>
    obtain ⟨hl, T, Hf, en, h1, h2, h3, h4, h5, h6⟩ := ih
    refine ⟨by simp [hl], fun j => if j = i then t else T j, fun j => if j = i then H else Hf j, fun j => if j = i then .skip else en j, by simp, by simp, ?_, ?_, ?_, ?_⟩
    · simp only [List.length_cons]; rw [if_neg (by omega), ← h3]; congr 1; omega
    · simp only [List.length_cons]; rw [if_neg (by omega), ← h4]; congr 1; omega
    · intro k hk
      cases k with
      | zero => simp
      | succ k => simp only [List.length_cons] at hk; show (_ : Option Ent) = some (if i + (k + 1) = i then _ else en (i + (k + 1))); rw [if_neg (by omega)]; have := h5 k (by omega); rw [show i + (k + 1) = i + 1 + k by omega]; simpa using this
    · intro k o' hk
      cases k with
      | zero =>
        simp at hk; subst hk
        simp only [Nat.add_zero, if_true]
        rw [if_neg (by omega), if_neg (by omega)]
        exact ⟨h1, h2, hd, hg⟩
      | succ k =>
        simp at hk
        have := h6 k o' hk
        simp only [show i + (k + 1) = i + 1 + k by omega]
        rw [if_neg (by omega), if_neg (by omega), if_neg (by omega), if_neg (by omega), if_neg (by omega)]
        exact this

/-! ## a set of operations that have run -/
section
variable (dst : Nat → Option Tmp) (en : Nat → Ent)

/-- The slots when, of the first 'm', those in 'S' have run. -/
def TS (t0 : TF) (S : Nat → Bool) : Nat → TF
  | 0 => t0
  | m + 1 => match S m with
    | true => updT (TS t0 S m) (dst m) (en m).val
    | false => TS t0 S m

def HS (h0 : Heap) (S : Nat → Bool) : Nat → Heap
  | 0 => h0
  | m + 1 => match S m with
    | true => (HS h0 S m).puts (en m).wr
    | false => HS h0 S m

def wrote (j i : Nat) : Prop := ∃ p, p ∈ (en j).wr ∧ p.1 = i

variable {dst en}

theorem updT_ne {t : TF} {o : Option Tmp} {r : AV} {d : Nat} (h : o ≠ some d) : updT t o r d = t d := by
  cases o with
  | none => rfl
  | some x => simp only [updT]; rw [if_neg (fun e => h (by rw [e]))]

theorem updT_congr {t t' : TF} {o : Option Tmp} {r : AV} {d : Nat} (h : t d = t' d) : updT t o r d = updT t' o r d := by
  cases o with
  | none => exact h
  | some x =>
    simp only [updT]
    split
    · rfl
    · exact h

theorem puts_congr : ∀ (wr : List (Nat × Chunk)) {H H' : Heap} {i : Nat}, H.get i = H'.get i → (H.puts wr).get i = (H'.puts wr).get i
  | [], _, _, _, h => h
  | (j, c) :: l, H, H', i, h => by
    simp only [Tr.puts]
    refine puts_congr l ?_
    rw [Tr.get_put, Tr.get_put, h]

theorem puts_over : ∀ (wr : List (Nat × Chunk)) {H H' : Heap} {i : Nat}, (∃ p, p ∈ wr ∧ p.1 = i) → (H.puts wr).get i = (H'.puts wr).get i
  | [], _, _, _, ⟨p, h, _⟩ => by cases h
  | (j, c) :: l, H, H', i, ⟨p, h, e⟩ => by
    simp only [Tr.puts]
    by_cases hl : ∃ q, q ∈ l ∧ q.1 = i
    · exact puts_over l hl
    · rcases List.mem_cons.1 h with rfl | h
      · refine puts_congr l ?_
        simp only at e
        rw [Tr.get_put, Tr.get_put, if_pos e.symm, if_pos e.symm]
      · exact absurd ⟨p, h, e⟩ hl

/-- Where the writers of a place among 'S' are just those ahead of 'i', the place is as it was in the text's order at 'i'. -/
theorem TS_same {t0 : TF} {S : Nat → Bool} {i d : Nat} : ∀ m, (∀ j, j < m → dst j = some d → (S j = true ↔ j < i)) → TS dst en t0 S m d = TS dst en t0 (fun _ => true) (min m i) d
  | 0, _ => by simp [TS]
  | m + 1, h => by
    have ih := TS_same (t0 := t0) m (fun j hj => h j (by omega))
    by_cases hw : dst m = some d
    · have hm := h m (by omega) hw
      cases hS : S m with
      | true =>
        have hlt := hm.1 hS
        rw [show min (m + 1) i = min m i + 1 by omega]
        simp only [TS, hS, show min m i = m by omega]
        rw [show min m i = m by omega] at ih
        exact updT_congr ih
      | false =>
        have hge : ¬ m < i := fun hl => by rw [hm.2 hl] at hS; cases hS
        rw [show min (m + 1) i = min m i by omega]
        simp only [TS, hS]; exact ih
    · have h1 : TS dst en t0 S (m + 1) d = TS dst en t0 S m d := by
        cases hS : S m <;> simp only [TS, hS]
        exact updT_ne hw
      have h2 : TS dst en t0 (fun _ => true) (min (m + 1) i) d = TS dst en t0 (fun _ => true) (min m i) d := by
        by_cases hl : m < i
        · rw [show min (m + 1) i = m + 1 by omega, show min m i = m by omega]
          simp only [TS]; exact updT_ne hw
        · rw [show min (m + 1) i = min m i by omega]
      rw [h1, h2]; exact ih

theorem HS_same {h0 : Heap} {S : Nat → Bool} {i d : Nat} : ∀ m, (∀ j, j < m → wrote en j d → (S j = true ↔ j < i)) → (HS en h0 S m).get d = (HS en h0 (fun _ => true) (min m i)).get d
  | 0, _ => by simp [HS]
  | m + 1, h => by
    have ih := HS_same (h0 := h0) m (fun j hj => h j (by omega))
    by_cases hw : wrote en m d
    · have hm := h m (by omega) hw
      cases hS : S m with
      | true =>
        have hlt := hm.1 hS
        rw [show min (m + 1) i = min m i + 1 by omega]
        simp only [HS, hS, show min m i = m by omega]
        exact puts_over _ hw
      | false =>
        have hge : ¬ m < i := fun hl => by rw [hm.2 hl] at hS; cases hS
        rw [show min (m + 1) i = min m i by omega]
        simp only [HS, hS]; exact ih
    · have hw' : ∀ p, p ∈ (en m).wr → p.1 ≠ d := fun p hp e => hw ⟨p, hp, e⟩
      have h1 : (HS en h0 S (m + 1)).get d = (HS en h0 S m).get d := by
        cases hS : S m <;> simp only [HS, hS]
        exact puts_get_not _ _ _ hw'
      have h2 : (HS en h0 (fun _ => true) (min (m + 1) i)).get d = (HS en h0 (fun _ => true) (min m i)).get d := by
        by_cases hl : m < i
        · rw [show min (m + 1) i = m + 1 by omega, show min m i = m by omega]
          simp only [HS]; exact puts_get_not _ _ _ hw'
        · rw [show min (m + 1) i = min m i by omega]
      rw [h1, h2]; exact ih

def ins (S : Nat → Bool) (i : Nat) : Nat → Bool := fun j => match Nat.beq j i with
  | true => true
  | false => S j

theorem ins_self (S : Nat → Bool) (i : Nat) : ins S i i = true := by unfold ins; simp
theorem ins_ne (S : Nat → Bool) {i j : Nat} (h : j ≠ i) : ins S i j = S j := by
  unfold ins; split
  · rename_i hb; exact absurd (Nat.eq_of_beq_eq_true hb) h
  · rfl

/-- One more has run: its slot is its own; the others are as they were. -/
theorem TS_ins {t0 : TF} {S : Nat → Bool} {i d : Nat} (hi : S i = false) (hlater : ∀ j, S j = true → dst j = some d → dst i = some d → j < i) :
    ∀ m, TS dst en t0 (ins S i) m d = if i < m then updT (TS dst en t0 S m) (dst i) (en i).val d else TS dst en t0 S m d
  | 0 => by simp [TS]
  | m + 1 => by
    have ih := TS_ins (t0 := t0) hi hlater m
    by_cases e : m = i
    · subst e
      rw [if_pos (by omega)]
      rw [if_neg (by omega)] at ih
      simp only [TS, ins_self, hi]
      exact updT_congr ih
    · have hS : ins S i m = S m := ins_ne S e
      cases hSm : S m with
      | false =>
        simp only [TS, hS, hSm]
        rw [ih]
        by_cases h : i < m
        · rw [if_pos h, if_pos (by omega)]
        · rw [if_neg h, if_neg (by omega)]
      | true =>
        simp only [TS, hS, hSm]
        by_cases hd : dst m = some d
        · -- m writes d
          by_cases h : i < m
          · rw [if_pos (by omega)]
            have hni : dst i ≠ some d := fun hdi => by have := hlater m hSm hd hdi; omega
            rw [updT_ne hni]
            rw [hd]; simp [updT]
          · rw [if_neg (by omega), hd]; simp [updT]
        · rw [updT_ne hd, ih]
          by_cases h : i < m
          · rw [if_pos h, if_pos (by omega)]
            exact updT_congr (updT_ne hd).symm
          · rw [if_neg h, if_neg (by omega), updT_ne hd]

theorem HS_ins {h0 : Heap} {S : Nat → Bool} {i d : Nat} (hi : S i = false) (hlater : ∀ j, S j = true → wrote en j d → wrote en i d → j < i) :
    ∀ m, (HS en h0 (ins S i) m).get d = if i < m then ((HS en h0 S m).puts (en i).wr).get d else (HS en h0 S m).get d
  | 0 => by simp [HS]
  | m + 1 => by
    have ih := HS_ins (h0 := h0) hi hlater m
    by_cases e : m = i
    · subst e
      rw [if_pos (by omega)]
      rw [if_neg (by omega)] at ih
      simp only [HS, ins_self, hi]
      exact puts_congr _ ih
    · have hS : ins S i m = S m := ins_ne S e
      cases hSm : S m with
      | false =>
        simp only [HS, hS, hSm]
        rw [ih]
        by_cases h : i < m
        · rw [if_pos h, if_pos (by omega)]
        · rw [if_neg h, if_neg (by omega)]
      | true =>
        simp only [HS, hS, hSm]
        by_cases hd : wrote en m d
        · by_cases h : i < m
          · rw [if_pos (by omega)]
            have hni : ¬ wrote en i d := fun hdi => by have := hlater m hSm hd hdi; omega
            rw [puts_get_not (en i).wr _ _ (fun p hp e => hni ⟨p, hp, e⟩)]
            exact puts_over _ hd
          · rw [if_neg (by omega)]
            exact puts_over _ hd
        · have hd' : ∀ p, p ∈ (en m).wr → p.1 ≠ d := fun p hp e => hd ⟨p, hp, e⟩
          rw [puts_get_not _ _ _ hd', ih]
          by_cases h : i < m
          · rw [if_pos h, if_pos (by omega)]
            exact puts_congr _ (puts_get_not _ _ _ hd').symm
          · rw [if_neg h, if_neg (by omega), puts_get_not _ _ _ hd']

end
end Go.Sx

namespace Go.Sx

theorem Sat.congrZ {Z γ H H' w} (h : Sat Z γ H w) (e : ∀ i, H'.get i = H.get i) : Sat Z γ H' w :=
  ⟨fun i ch hi hl => h.own i ch (by rw [← e]; exact hi) hl, fun i j ci cj b h1 h2 h3 h4 h5 h6 => h.inj i j ci cj b (by rw [← e]; exact h1) h2 (by rw [← e]; exact h3) h4 h5 h6, h.rng, h.zrng, fun i hi => h.dom i (by rw [← e]; exact hi)⟩

theorem Live.congr {H H' : Heap} (e : ∀ i, H'.get i = H.get i) {i : Nat} : Live H' i ↔ Live H i := by unfold Live; rw [e]

theorem Run.congr {Z γ H w Z' γ' H' w' H2} (h : Run Z γ H w Z' γ' H' w') (e : ∀ i, H2.get i = H'.get i) : Run Z γ H w Z' γ' H2 w' :=
  ⟨h.gam, h.zed, h.size, h.keep, h.shape, fun i b hl hb => h.gnew i b ((Live.congr e).1 hl) hb, h.znew, h.tape, h.os, h.output⟩

/-- What is known when, of a drawing region, the operations in 'listed' have run. -/
structure DInv (ds0 : List Deferred) (E : Env) (n nt : Nat) (dst : Nat → Option Tmp) (en : Nat → Ent) (t0 : TF) (h0 : Heap) (Z0 : Nat → Prop) (γ0 : Gam) (w0 : World) (S : Nat → Bool) (a : Act) (w : World) (Z : Nat → Prop) (γ : Gam) : Prop where
  sat : Sat Z γ (HS en h0 S n) w
  tmp : ∀ d x, TS dst en t0 S n d = some x → VRel Z w γ x (a.tmps.getD d undef)
  size : a.tmps.size = nt
  defs : a.defers = ds0
  glob : GOk E Z w
  run : Run Z0 γ0 h0 w0 Z γ (HS en h0 S n) w

def countF (S : Nat → Bool) : Nat → Nat
  | 0 => 0
  | n + 1 => countF S n + (match S n with
    | true => 0
    | false => 1)

theorem countF_zero {S : Nat → Bool} : ∀ {n}, countF S n = 0 → ∀ i, i < n → S i = true
  | 0, _, i, h => by omega
  | n + 1, h, i, hi => by
    unfold countF at h
    by_cases e : i = n
    · subst e; cases hS : S i with
      | true => rfl
      | false => rw [hS] at h; simp at h
    · exact countF_zero (Nat.add_eq_zero_iff.1 h).1 i (by omega)

theorem countF_ins {S : Nat → Bool} {i : Nat} (hi : S i = false) : ∀ n, countF S n = countF (ins S i) n + (if i < n then 1 else 0)
  | 0 => by simp [countF]
  | n + 1 => by
    have ih := countF_ins hi n
    unfold countF
    by_cases e : n = i
    · subst e; rw [ins_self, hi, ih, if_neg (by omega), if_pos (by omega)]
    · rw [ins_ne S e, ih]
      by_cases h : i < n
      · rw [if_pos h, if_pos (by omega)]; omega
      · rw [if_neg h, if_neg (by omega)]; omega

theorem least_false {S : Nat → Bool} : ∀ n, (∃ i, i < n ∧ S i = false) → ∃ i, i < n ∧ S i = false ∧ ∀ j, j < i → S j = true
  | 0, ⟨i, h, _⟩ => by omega
  | n + 1, ⟨i, h, hS⟩ => by
    by_cases hl : ∃ i, i < n ∧ S i = false
    · obtain ⟨i, h1, h2, h3⟩ := least_false n hl; exact ⟨i, by omega, h2, h3⟩
    · refine ⟨n, by omega, ?_, fun j hj => ?_⟩
      · have : i = n := by
          apply Classical.byContradiction; intro hne; exact hl ⟨i, by omega, hS⟩
        rw [← this]; exact hS
      · cases hj' : S j with
        | true => rfl
        | false => exact absurd ⟨j, hj, hj'⟩ hl

theorem evf_tmp {E : Env} {t t' : TF} {ds : List Nat} (h : ∀ d, d ∈ ds → t d = t' d) : ∀ x, evf E.G t ds x = evf E.G t' ds x := by
  intro x
  cases x with
  | tmp i =>
    simp only [evf]
    split
    · rename_i hm; rw [h i (memb_spec hm)]
    · rfl
  | _ => rfl

theorem evf_ok {E : Env} {t : TF} {ds : List Nat} {Z γ w} {a : Act} (hg : GOk E Z w) (h : ∀ d x, t d = some x → VRel Z w γ x (a.tmps.getD d undef)) : ∀ x, VRel Z w γ (evf E.G t ds x) (a.eval x) := by
  intro x
  cases x with
  | tmp i =>
    simp only [evf, Act.eval]
    split
    · cases hgt : t i with
      | none => exact .any
      | some x => exact h i x hgt
    · exact .any
  | const v => exact ofVal_ok ..
  | global g =>
    simp only [evf, Act.eval]
    cases hgl : lookG E.G g with
    | none => exact .raw
    | some cs => exact noG_le (hg g cs hgl)
  | func f => exact .fn rfl rfl (fun i c v h => by simp at h) (fun i c v h => by simp at h)

theorem wanted_of {all : Array Oper} {o : Oper} {t : TF} {want : Bool} (hg : gdOk all.toList t o want) {Z γ w} {tmps : Array Value} (h : ∀ d x, d ∈ rdOf all.toList o → t d = some x → VRel Z w γ x (tmps.getD d undef)) :
    Region.wanted o (yielded all tmps) = want := by
  unfold gdOk at hg
  split at hg
  · rename_i hgd; simp [Region.wanted, hgd, hg]
  · rename_i j wt hgd
    obtain ⟨d, hd, hcase⟩ := hg
    have hmem : d ∈ rdOf all.toList o := by simp [rdOf, hgd, hd]
    rcases hcase with ⟨b, hb, rfl⟩ | ⟨hb, rfl⟩
    · have hv := h d _ hmem hb
      have hbv : tmps.getD d undef = .bool b := by generalize tmps.getD d undef = v at hv; cases hv; rfl
      have hsz : d < tmps.size := by
        apply Classical.byContradiction; intro hn
        have : tmps.getD d undef = undef := by
          rw [Array.getD_eq_getD_getElem?, Array.getElem?_eq_none (Nat.le_of_not_lt hn)]; rfl
        rw [this] at hbv; cases hbv
      have hy := yielded_bool hd hsz hbv
      cases b <;> cases wt <;> simp [Region.wanted, hgd, hy]
    · have hv := h d _ hmem hb
      have hbv : tmps.getD d undef = .tuple #[] := by
        obtain ⟨arr, h1, h2, _⟩ := tup_inv hv
        rw [h1]; congr 1; exact Array.size_eq_zero_iff.1 h2
      simp [Region.wanted, hgd, yielded_none hd hbv]

theorem mem_rdOf {all : List Oper} {o : Oper} {d : Nat} (hd : d ∈ tmpsIn o.op.operands.toList) : d ∈ rdOf all o := by
  unfold rdOf
  split
  · exact hd
  · split
    · exact List.mem_cons_of_mem _ hd
    · exact hd

/-- The heart: from any set of operations that have run, whatever comes next. -/
theorem draw_any {E : Env} (ds0 : List Deferred) (R : Option Nat) (ops : Array Oper) (base nt : Nat) (Q : Exit → Act → World → Prop) (dst : Nat → Option Tmp) (en : Nat → Ent) (t0 : TF) (h0 : Heap) (Z0 : Nat → Prop) (γ0 : Gam) (w0 : World)
    (hdst : ∀ i o, ops[i]? = some o → dst i = o.dst)
    (T : Nat → TF) (Hf : Nat → Heap) (hT : ∀ i, i ≤ ops.size → T i = TS dst en t0 (fun _ => true) i) (hH : ∀ i, i ≤ ops.size → Hf i = HS en h0 (fun _ => true) i)
    (hstep : ∀ i o, ops[i]? = some o → dstOk nt o.dst = true ∧ match en i with
        | .did u => ValidG E o (evf E.G (T i) (tmpsIn o.op.operands.toList)) (Hf i) (base + room * i) u ∧ u.Wf (Hf i) (base + room * i) ∧ gdOk ops.toList (T i) o true
        | .skip => gdOk ops.toList (T i) o false)
    (hlt : ∀ i o, ops[i]? = some o → ∀ e, e ∈ o.after.toList → Region.binds .any e = true → e.on < i)
    (hwr : ∀ i, i < ops.size → ∀ p, p ∈ (en i).wr → p.1 < base + room * (i + 1))
    (hconf : ∀ i j oi oj, i < j → ops[i]? = some oi → ops[j]? = some oj → conf ⟨oi.dst, rdOf ops.toList oi, (en i).nd, (en i).wr.map (·.1), base + room * i, 0⟩ ⟨oj.dst, rdOf ops.toList oj, (en j).nd, (en j).wr.map (·.1), base + room * j, 0⟩ = true → Ahead ops.toList j i)
    (hfresh : ∀ i, base ≤ i → h0.get i = none)
    (hQ : ∀ a w Z γ, DInv ds0 E ops.size nt dst en t0 h0 Z0 γ0 w0 (fun _ => true) a w Z γ → Q .normal a w) :
    ∀ (fuel : Nat) (listed : Array Bool) (a : Act) (w : World), listed.size = ops.size → countF (fun j => listed.getD j false) ops.size = fuel →
      (∀ j o, ops[j]? = some o → listed.getD j false = true → ∀ e, e ∈ o.after.toList → Region.binds .any e = true → listed.getD e.on false = true) →
      (∃ Z γ, DInv ds0 E ops.size nt dst en t0 h0 Z0 γ0 w0 (fun j => listed.getD j false) a w Z γ) → wpAnyIn (FR R) 0 E.P .any ops Q fuel listed a w := by
  -- the places do not hang on what lies beyond the region
  have hTS : ∀ (S S' : Nat → Bool) m, (∀ i, i < m → S i = S' i) → TS dst en t0 S m = TS dst en t0 S' m := by
    intro S S' m
    induction m with
    | zero => intro _; rfl
    | succ m ih => intro h; simp only [TS]; rw [ih (fun i hi => h i (by omega)), h m (by omega)]
  have hHS : ∀ (S S' : Nat → Bool) m, (∀ i, i < m → S i = S' i) → HS en h0 S m = HS en h0 S' m := by
    intro S S' m
    induction m with
    | zero => intro _; rfl
    | succ m ih => intro h; simp only [HS]; rw [ih (fun i hi => h i (by omega)), h m (by omega)]
  have hend : ∀ (S : Nat → Bool) a w, (∀ i, i < ops.size → S i = true) → (∃ Z γ, DInv ds0 E ops.size nt dst en t0 h0 Z0 γ0 w0 S a w Z γ) → Q .normal a w := by
    rintro S a w hall ⟨Z, γ, hi⟩
    refine hQ a w Z γ ⟨?_, ?_, hi.size, hi.defs, hi.glob, ?_⟩
    · rw [← hHS S (fun _ => true) ops.size hall]; exact hi.sat
    · rw [← hTS S (fun _ => true) ops.size hall]; exact hi.tmp
    · rw [← hHS S (fun _ => true) ops.size hall]; exact hi.run
  have hnil : ∀ (listed : Array Bool), listed.size = ops.size → (∀ j o, ops[j]? = some o → listed.getD j false = true → ∀ e, e ∈ o.after.toList → Region.binds .any e = true → listed.getD e.on false = true) →
      Region.ready .any ops listed = [] → ∀ i, i < ops.size → listed.getD i false = true := by
    intro listed hsz hcl hr
    apply Classical.byContradiction
    intro hne
    have hne : ∃ i, i < ops.size ∧ listed.getD i false = false := by
      apply Classical.byContradiction; intro h2; apply hne; intro i hi
      cases hq : listed.getD i false with
      | true => rfl
      | false => exact absurd ⟨i, hi, hq⟩ h2
    obtain ⟨i, h1, h2, h3⟩ := least_false (S := fun j => listed.getD j false) ops.size hne
    have : i ∈ Region.ready .any ops listed := by
      refine mem_ready.2 ⟨?_, ops[i], by simp [h1], fun e he hb => h3 _ (hlt i ops[i] (by simp [h1]) e (by simpa using he) hb)⟩
      have hlt' : i < listed.size := by omega
      simp [hlt'] at h2 ⊢; exact h2
    rw [hr] at this; cases this
  intro fuel
  induction fuel with
  | zero =>
    intro listed a w hsz hc hcl hinv
    have hall := countF_zero hc
    refine ⟨?_, hend _ a w hall hinv⟩
    apply Classical.byContradiction
    intro hne
    obtain ⟨i, hi⟩ := List.exists_mem_of_ne_nil _ hne
    obtain ⟨h1, o, ho, _⟩ := mem_ready.1 hi
    have hio : i < ops.size := (Array.getElem?_eq_some_iff.1 ho).1
    have := hall i hio
    have hlt' : i < listed.size := by omega
    simp [hlt'] at this h1
    rw [this] at h1; cases h1
  | succ fuel ih =>
    intro listed a w hsz hc hcl hinv
    refine ⟨fun hr => hend _ a w (hnil listed hsz hcl hr) hinv, fun i hi => ?_⟩
    obtain ⟨hun, o, ho, hafter⟩ := mem_ready.1 hi
    have hio : i < ops.size := (Array.getElem?_eq_some_iff.1 ho).1
    have hil : i < listed.size := by omega
    have hSi : (fun j => listed.getD j false) i = false := by simp [hil] at hun ⊢; exact hun
    -- what stands ahead has run; what waits for this has not
    have ahead_in : ∀ j p, Ahead ops.toList j p → listed.getD j false = true → listed.getD p false = true := by
      intro j
      induction j using Nat.strongRecOn with
      | _ j ihj =>
        intro p hp hj
        obtain ⟨oj, hoj, e, he, hb, hcase⟩ := ahead_step hp
        have hoj' : ops[j]? = some oj := by simpa using hoj
        have hon := hcl j oj hoj' hj e he hb
        rcases hcase with rfl | ⟨hlt', hp'⟩
        · exact hon
        · exact ihj e.on hlt' p hp' hon
    have ahead_i : ∀ p, Ahead ops.toList i p → listed.getD p false = true := by
      intro p hp
      obtain ⟨oj, hoj, e, he, hb, hcase⟩ := ahead_step hp
      have hoj' : ops[i]? = some oj := by simpa using hoj
      rw [ho] at hoj'; cases hoj'
      have hon := hafter e (by simpa using he) hb
      rcases hcase with rfl | ⟨hlt', hp'⟩
      · exact hon
      · exact ahead_in e.on p hp' hon
    have later : ∀ j, Ahead ops.toList j i → listed.getD j false = false := by
      intro j hj
      cases hq : listed.getD j false with
      | false => rfl
      | true => have := ahead_in j i hj hq; rw [show listed.getD i false = false from hSi] at this; cases this
    obtain ⟨Z, γ, hv⟩ := hinv
    -- places that this operation reads are as they were in the text's order
    have rd_same : ∀ d, d ∈ rdOf ops.toList o → T i d = TS dst en t0 (fun j => listed.getD j false) ops.size d := by
      intro d hd
      rw [hT i (by omega), TS_same (i := i) ops.size (fun j hj hdj => ?_), show min ops.size i = i by omega]
      have hoj : ops[j]? = some ops[j] := by simp [hj]
      have hdj' : ops[j].dst = some d := by rw [← hdst j _ hoj]; exact hdj
      constructor
      · intro hS
        apply Classical.byContradiction; intro hge
        by_cases e : j = i
        · subst e; rw [show listed.getD j false = false from hSi] at hS; cases hS
        · have := later j (hconf i j o ops[j] (by omega) ho hoj (by
            simp only [conf, Bool.or_eq_true]
            exact .inr (.inl (by simp only [memO, hdj']; exact memb_of_mem hd))))
          rw [this] at hS; cases hS
      · intro hlt'
        exact ahead_i j (hconf j i ops[j] o hlt' hoj ho (by
          simp only [conf, Bool.or_eq_true]
          exact .inl (by simp only [memO, hdj']; exact memb_of_mem hd)))
    obtain ⟨hdo, hent⟩ := hstep i o ho
    have hguard : ∀ want, gdOk ops.toList (T i) o want → Region.wanted o (yielded ops a.tmps) = want := fun want hg =>
      wanted_of hg (Z := Z) (γ := γ) (w := w) (fun d x hd hx => hv.tmp d x (by rw [← rd_same d hd]; exact hx))
    -- the set behind this operation
    have hset : ∀ j, (listed.setIfInBounds i true).getD j false = ins (fun j => listed.getD j false) i j := by
      intro j
      by_cases e : j = i
      · subst e; rw [ins_self]; simp [hil]
      · rw [ins_ne _ e]; simp [Ne.symm e]
    have hsz' : (listed.setIfInBounds i true).size = ops.size := by simpa using hsz
    have hc' : countF (fun j => (listed.setIfInBounds i true).getD j false) ops.size = fuel := by
      have h1 := countF_ins (S := fun j => listed.getD j false) hSi ops.size
      rw [if_pos hio, hc] at h1
      have h2 : (fun j => (listed.setIfInBounds i true).getD j false) = ins (fun j => listed.getD j false) i := funext hset
      rw [h2]; omega
    have hcl' : ∀ j oj, ops[j]? = some oj → (listed.setIfInBounds i true).getD j false = true → ∀ e, e ∈ oj.after.toList → Region.binds .any e = true → (listed.setIfInBounds i true).getD e.on false = true := by
      intro j oj hoj hj e he hb
      rw [hset] at hj ⊢
      have hold : listed.getD e.on false = true := by
        by_cases ej : j = i
        · subst ej; rw [ho] at hoj; cases hoj; exact hafter e (by simpa using he) hb
        · rw [ins_ne _ ej] at hj; exact hcl j oj hoj hj e he hb
      by_cases ee : e.on = i
      · rw [ee]; exact ins_self _ _
      · rw [ins_ne _ ee]; exact hold
    have dst_later : ∀ d j, listed.getD j false = true → dst j = some d → dst i = some d → j < i := by
      intro d j hS hdj hdi
      apply Classical.byContradiction; intro hge
      by_cases e : j = i
      · subst e; rw [show listed.getD j false = false from hSi] at hS; cases hS
      · have hj : j < ops.size := by
          apply Classical.byContradiction; intro hnj
          have : listed.getD j false = false := by simp [Array.getElem?_eq_none (show listed.size ≤ j by omega)]
          rw [this] at hS; cases hS
        have hoj : ops[j]? = some ops[j] := by simp [hj]
        have := later j (hconf i j o ops[j] (by omega) ho hoj (by
          simp only [conf, Bool.or_eq_true]
          refine .inr (.inr (.inl ?_))
          rw [← hdst i o ho, ← hdst j _ hoj, hdi, hdj]; simp))
        rw [this] at hS; cases hS
    have wr_later : ∀ d j, listed.getD j false = true → wrote en j d → wrote en i d → j < i := by
      intro d j hS ⟨p, hp, hpe⟩ ⟨q, hq, hqe⟩
      apply Classical.byContradiction; intro hge
      by_cases e : j = i
      · subst e; rw [show listed.getD j false = false from hSi] at hS; cases hS
      · have hj : j < ops.size := by
          apply Classical.byContradiction; intro hnj
          have : listed.getD j false = false := by simp [Array.getElem?_eq_none (show listed.size ≤ j by omega)]
          rw [this] at hS; cases hS
        have hoj : ops[j]? = some ops[j] := by simp [hj]
        have := later j (hconf i j o ops[j] (by omega) ho hoj (by
          simp only [conf, Bool.or_eq_true]
          exact .inr (.inr (.inr (.inl (meet_of (x := d) (List.mem_map.2 ⟨q, hq, hqe⟩) (List.mem_append_right _ (List.mem_map.2 ⟨p, hp, hpe⟩))))))))
        rw [this] at hS; cases hS
    have tmpsNew : ∀ (r : AV), r = (en i).val → ∀ v w' Z' γ', VRel Z' w' γ' r v → (∀ d x, TS dst en t0 (fun j => listed.getD j false) ops.size d = some x → VRel Z' w' γ' x (a.tmps.getD d undef)) →
        ∀ d x, TS dst en t0 (ins (fun j => listed.getD j false) i) ops.size d = some x → VRel Z' w' γ' x ((a.put o.dst v).tmps.getD d undef) := by
      intro r hr v w' Z' γ' hrv hold d x hx
      rw [TS_ins hSi (fun j => dst_later d j), if_pos hio, hdst i o ho] at hx
      cases hod : o.dst with
      | none => rw [hod] at hx; simp only [updT] at hx; simpa [Act.put] using hold d x hx
      | some q =>
        rw [hod] at hx hdo
        simp only [updT] at hx
        have hq : q < a.tmps.size := by rw [hv.size]; exact Nat.le_of_ble_eq_true hdo
        by_cases e : d = q
        · subst e; rw [if_pos rfl] at hx; cases hx; rw [← hr]; simpa [Act.put, hq] using hrv
        · rw [if_neg e] at hx; have := hold d x hx; simpa [Act.put, Array.getElem?_setIfInBounds, Ne.symm e] using this
    unfold wpOpIn
    simp only [ho]
    cases hen : en i with
    | skip =>
      rw [hen] at hent
      rw [if_neg (by rw [hguard false hent]; exact Bool.false_ne_true)]
      refine ⟨fun _ _ => trivial, ih _ _ _ hsz' hc' hcl' ⟨Z, γ, ?_⟩⟩
      have hfun : (fun j => (listed.setIfInBounds i true).getD j false) = ins (fun j => listed.getD j false) i := funext hset
      rw [hfun]
      have hHe : ∀ k, (HS en h0 (ins (fun j => listed.getD j false) i) ops.size).get k = (HS en h0 (fun j => listed.getD j false) ops.size).get k := by
        intro k
        rw [HS_ins hSi (fun j => wr_later k j), if_pos hio, hen]; rfl
      refine ⟨hv.sat.congr hHe, tmpsNew (.tup []) (by rw [hen]; rfl) undef w Z γ (.tup rfl (fun i c v h => by simp at h)) hv.tmp, by simpa [Act.put] using (by cases hod : o.dst <;> simp [hv.size]), ?_, hv.glob, hv.run.congr hHe⟩
      cases hod : o.dst <;> simpa [Act.put] using hv.defs
    | did u =>
      rw [hen] at hent
      obtain ⟨hval, hwf, hgd⟩ := hent
      rw [if_pos (hguard true hgd)]
      have nd_same : ∀ id, id ∈ u.nd → (HS en h0 (fun j => listed.getD j false) ops.size).get id = (Hf i).get id := by
        intro id hid
        rw [hH i (by omega), HS_same (i := i) ops.size (fun j hj hwj => ?_), show min ops.size i = i by omega]
        obtain ⟨p, hp, hpe⟩ := hwj
        have hoj : ops[j]? = some ops[j] := by simp [hj]
        constructor
        · intro hS
          apply Classical.byContradiction; intro hge
          by_cases e : j = i
          · subst e; rw [show listed.getD j false = false from hSi] at hS; cases hS
          · have := later j (hconf i j o ops[j] (by omega) ho hoj (by
              simp only [conf, Bool.or_eq_true]
              refine .inr (.inr (.inr (.inr (.inl (meet_of (x := id) (List.mem_map.2 ⟨p, hp, hpe⟩) ?_)))))
              rw [hen]; exact hid))
            rw [this] at hS; cases hS
        · intro hlt'
          exact ahead_i j (hconf j i ops[j] o hlt' hoj ho (by
            simp only [conf, Bool.or_eq_true]
            refine .inr (.inr (.inr (.inl (meet_of (x := id) (List.mem_map.2 ⟨p, hp, hpe⟩) (List.mem_append_left _ ?_)))))
            rw [hen]; exact hid))
      have fresh_i : ∀ id, base + room * i ≤ id → id < base + room * i + room → (HS en h0 (fun j => listed.getD j false) ops.size).get id = none := by
        intro id h1 h2
        have key : ∀ m, m ≤ ops.size → (HS en h0 (fun j => listed.getD j false) m).get id = none := by
          intro m
          induction m with
          | zero => intro _; exact hfresh id (by omega)
          | succ m ihm =>
            intro hm
            simp only [HS]
            cases hS : listed.getD m false with
            | false => exact ihm (by omega)
            | true =>
              rw [puts_get_not _ _ _ (fun p hp hpe => ?_)]
              · exact ihm (by omega)
              · have hmo : ops[m]? = some ops[m] := by simp [show m < ops.size by omega]
                rcases Nat.lt_trichotomy m i with hl | rfl | hg
                · have := hwr m (by omega) p hp
                  have h3 : room * (m + 1) ≤ room * i := Nat.mul_le_mul_left _ (by omega)
                  omega
                · rw [show listed.getD m false = false from hSi] at hS; cases hS
                · have := later m (hconf i m o ops[m] hg ho hmo (by
                    simp only [conf, Bool.or_eq_true]
                    exact .inr (.inr (.inr (.inr (.inr (anyIn_of (x := id) (List.mem_append_right _ (List.mem_map.2 ⟨p, hp, hpe⟩)) h1 h2)))))))
                  rw [this] at hS; cases hS
        exact key ops.size (Nat.le_refl _)
      refine (hval R Z γ (HS en h0 (fun j => listed.getD j false) ops.size) w a _ Q hv.sat hv.glob (fun x => ?_) nd_same fresh_i ?_)
      · have : evf E.G (T i) (tmpsIn o.op.operands.toList) x = evf E.G (TS dst en t0 (fun j => listed.getD j false) ops.size) (tmpsIn o.op.operands.toList) x :=
          evf_tmp (fun d hd => rd_same d (mem_rdOf hd)) x
        rw [this]
        exact evf_ok hv.glob hv.tmp x
      · intro v w' Z' γ' hr hs' hst hfg
        have hwf' : u.Wf (HS en h0 (fun j => listed.getD j false) ops.size) (base + room * i) := ⟨hwf.wr, fun id hid => by
          obtain ⟨ch, hc1, hc2⟩ := hwf.nd id hid
          exact ⟨ch, by rw [nd_same id hid]; exact hc1, hc2⟩⟩
        have hrun := Stp.toRun hv.sat hwf' fresh_i hst
        refine ih _ _ _ hsz' hc' hcl' ⟨Z', γ', ?_⟩
        have hfun : (fun j => (listed.setIfInBounds i true).getD j false) = ins (fun j => listed.getD j false) i := funext hset
        rw [hfun]
        have hHe : ∀ k, (HS en h0 (ins (fun j => listed.getD j false) i) ops.size).get k = ((HS en h0 (fun j => listed.getD j false) ops.size).puts u.wr).get k := by
          intro k
          rw [HS_ins hSi (fun j => wr_later k j), if_pos hio, hen]; rfl
        refine ⟨hs'.congr hHe, tmpsNew u.r (by rw [hen]; rfl) v w' Z' γ' hr (fun d x hx => (hv.tmp d x hx).run hv.sat hrun), ?_, ?_, fun g cs hg => (hv.glob g cs hg).run0 hv.sat hrun, hv.run.trans (hrun.congr hHe)⟩
        · cases hod : o.dst <;> simpa [Act.put] using hv.size
        · cases hod : o.dst <;> simpa [Act.put] using hv.defs

end Go.Sx

namespace Go.Sx

/-! # The executor on code -/
/-- Does an entry lay a new block? -/
def anyNew (nid : Nat) : List Ent → Bool
  | [] => false
  | e :: l => match wrLt nid e.wr with
    | true => anyNew nid l
    | false => true

theorem anyNew_spec {nid : Nat} : ∀ {l : List Ent}, anyNew nid l = false → ∀ (j : Nat) e, l[j]? = some e → ∀ p, p ∈ e.wr → p.1 < nid
  | [], _, j, e, h => by simp at h
  | x :: l, h, j, e, hj => by
    unfold anyNew at h
    split at h
    · rename_i hw
      cases j with
      | zero => simp at hj; subst hj; exact wrLt_spec hw
      | succ j => exact anyNew_spec h j e (by simpa using hj)
    · cases h

def nidAfter (nid m : Nat) (log : List Ent) : Nat :=
  match anyNew nid log with
  | true => nid + room * m
  | false => nid

def execDraw (E : Env) (F : FT) (ops : List Oper) (st : St) (k : St → Prop) : Prop :=
  runD E F ops 0 ops st [] (fun st' log => match drawOk ops st.nid log.reverse with
    | true => k { st' with nid := nidAfter st.nid ops.length log.reverse, dm := st.dm }
    | false => False)

theorem getD_repl (n j : Nat) : (Array.replicate n false).getD j false = false := by
  rw [Array.getD_eq_getD_getElem?]
  by_cases h : j < n
  · simp [h]
  · simp [h]

theorem ident_list_get {α : Type} {ops : Array α} {i : Nat} {o : α} (h : ops[i]? = some o) : ops.toList[i]? = some o := by simpa using h

theorem execDraw_ok {E : Env} {F : FT} (hE : FEnv E F) {ops : Array Oper} {st : St} {k : St → Prop} (hfr : ∀ i, st.nid ≤ i → st.H.get i = none) (h : execDraw E F ops.toList st k) :
    ∃ st', k st' ∧ (∀ i, st'.nid ≤ i → st'.H.get i = none) ∧ ∀ (R : Option Nat) (id : Nat) (Q : Exit → Act → World → Prop) Z γ a w, SatSt E Z γ st a w →
      (∀ Z' γ' a' w', SatSt E Z' γ' st' a' w' → Run Z γ st.H w Z' γ' st'.H w' → Q .normal a' w') → (Code.region id ops true).wpIn (FR R) 0 E.P Q a w := by
  obtain ⟨st', log, hko, hnt, hnid, htr⟩ := runD_trace hE ops.toList _ ops.toList 0 st [] h
  simp only [List.append_nil, List.reverse_reverse] at hko
  split at hko
  rotate_left
  · exact hko.elim
  rename_i hd
  unfold drawOk at hd
  split at hd
  rotate_left
  · cases hd
  rename_i hd1 hd2 hd3
  obtain ⟨hlen, T, Hf, en, hT0, hH0, hTn, hHn, hlog, hstep⟩ := trace_fam htr
  simp only [Nat.zero_add, Array.length_toList] at *
  let dst : Nat → Option Tmp := fun i => match ops[i]? with
    | some o => o.dst
    | none => none
  have hdst : ∀ i o, ops[i]? = some o → dst i = o.dst := fun i o ho => by simp only [dst, ho]
  have hTS : ∀ i, i ≤ ops.size → T i = TS dst en st.t.get (fun _ => true) i := by
    intro i
    induction i with
    | zero => intro _; exact hT0
    | succ i ih =>
      intro hi
      have ho : ops[i]? = some ops[i] := by simp [show i < ops.size by omega]
      have := (hstep i ops[i] (ident_list_get ho)).1
      rw [this, ih (by omega)]
      simp only [TS, hdst i _ ho]
  have hHS : ∀ i, i ≤ ops.size → Hf i = HS en st.H (fun _ => true) i := by
    intro i
    induction i with
    | zero => intro _; exact hH0
    | succ i ih =>
      intro hi
      have ho : ops[i]? = some ops[i] := by simp [show i < ops.size by omega]
      have := (hstep i ops[i] (ident_list_get ho)).2.1
      rw [this, ih (by omega)]
      simp only [HS]
  have hmask : ∀ j o, ops[j]? = some o → (masks ops.toList [])[j]? = some ((masks ops.toList []).getD j 0) := by
    intro j o ho
    have hlen : ∀ (l : List Oper) (acc : List Nat), (masks l acc).length = acc.length + l.length := by
      intro l
      induction l with
      | nil => intro acc; simp [masks]
      | cons o l ih => intro acc; rw [masks, ih]; simp; omega
    have hj : j < ops.size := (Array.getElem?_eq_some_iff.1 ho).1
    have : j < (masks ops.toList []).length := by rw [hlen]; simpa using hj
    simp [this]
  have hfr' : ∀ i, st.nid + room * ops.size ≤ i → st'.H.get i = none := fun i hi => by
    rw [← hHn, hHS _ (Nat.le_refl _)]
    have key : ∀ m, m ≤ ops.size → (HS en st.H (fun _ => true) m).get i = none := by
      intro m
      induction m with
      | zero => intro _; exact hfr i (by omega)
      | succ m ihm =>
        intro hm
        simp only [HS]
        rw [puts_get_not _ _ _ (fun p hp e => ?_)]
        · exact ihm (by omega)
        · have := allWr_spec hd2 m (en m) (hlog m (by omega)) p hp
          simp only [Nat.zero_add] at this
          have h3 : room * (m + 1) ≤ room * ops.size := Nat.mul_le_mul_left _ (by omega)
          omega
    exact key _ (Nat.le_refl _)
  have hfr'' : ∀ i, nidAfter st.nid ops.size log ≤ i → st'.H.get i = none := fun i hi => by
    unfold nidAfter at hi
    split at hi
    · exact hfr' i hi
    · rename_i hnew
      rw [← hHn, hHS _ (Nat.le_refl _)]
      have key : ∀ m, m ≤ ops.size → (HS en st.H (fun _ => true) m).get i = none := by
        intro m
        induction m with
        | zero => intro _; exact hfr i hi
        | succ m ihm =>
          intro hm
          simp only [HS]
          rw [puts_get_not _ _ _ (fun p hp e => ?_)]
          · exact ihm (by omega)
          · have := anyNew_spec hnew m (en m) (hlog m (by omega)) p hp
            omega
      exact key _ (Nat.le_refl _)
  refine ⟨_, hko, by simpa using hfr'', fun R id Q Z γ a w hs hk => ?_⟩
  refine wpIn_region_any hE.ok.mixed (draw_any (E := E) a.defers R ops st.nid st.nt Q dst en st.t.get st.H Z γ w hdst T Hf hTS hHS (fun i o ho => ?_) (fun i o ho e he hb => ?_) (fun i hi p hp => ?_) (fun i j oi oj hij hoi hoj hc => ?_)
    hs.fresh (fun a' w' Z' γ' hv => ?_) ops.size (Array.replicate ops.size false) a _ (by simp) ?_ ?_ ⟨Z, γ, ?_⟩)
  · obtain ⟨_, _, h3, h4⟩ := hstep i o (ident_list_get ho)
    exact ⟨h3, h4⟩
  · have := allLt_spec hd1 i o (ident_list_get ho) e he hb
    omega
  · have := allWr_spec hd2 i (en i) (hlog i hi) p hp
    simpa using this
  · have h1 := rowsOf_get (all := ops.toList) (base := st.nid) ops.toList log (masks ops.toList []) 0 i oi (en i) _ (ident_list_get hoi) (hlog i (Array.getElem?_eq_some_iff.1 hoi).1) (hmask i oi hoi)
    have h2 := rowsOf_get (all := ops.toList) (base := st.nid) ops.toList log (masks ops.toList []) 0 j oj (en j) _ (ident_list_get hoj) (hlog j (Array.getElem?_eq_some_iff.1 hoj).1) (hmask j oj hoj)
    have := okAll_spec hd3 i j _ _ hij h1 h2 (by simpa [conf] using hc)
    simpa [Ahead] using this
  · refine hk Z' γ' a' w' ⟨?_, fun i x hi => ?_, ?_, (by rw [hv.defs]; exact hs.defs.mono hv.run.gam), fun i hi => ?_, hv.glob⟩ ?_
    · have := hv.sat; rw [← hHS _ (Nat.le_refl _), hHn] at this; exact this
    · have := hv.tmp i x; rw [← hTS _ (Nat.le_refl _), hTn] at this; exact this hi
    · rw [hv.size, hnt]
    · exact hfr'' i (by simpa using hi)
    · have := hv.run; rw [← hHS _ (Nat.le_refl _), hHn] at this
      exact ⟨this.gam, this.zed, this.size, this.keep, this.shape, this.gnew, this.znew, this.tape, this.os, this.output⟩
  · have : ∀ n, n ≤ ops.size → countF (fun j => (Array.replicate ops.size false).getD j false) n = n := by
      intro n
      induction n with
      | zero => intro _; rfl
      | succ n ih =>
        intro hn
        unfold countF
        rw [ih (by omega)]
        have : (Array.replicate ops.size false).getD n false = false := getD_repl _ _
        rw [this]
    exact this _ (Nat.le_refl _)
  · intro j o _ hj
    have : (Array.replicate ops.size false).getD j false = false := getD_repl _ _
    rw [this] at hj; cases hj
  · have hS : ∀ m, TS dst en st.t.get (fun j => (Array.replicate ops.size false).getD j false) m = st.t.get := by
      intro m
      induction m with
      | zero => rfl
      | succ m ih =>
        have : (Array.replicate ops.size false).getD m false = false := getD_repl _ _
        simp only [TS, this]; exact ih
    have hS2 : ∀ m, HS en st.H (fun j => (Array.replicate ops.size false).getD j false) m = st.H := by
      intro m
      induction m with
      | zero => rfl
      | succ m ih =>
        have : (Array.replicate ops.size false).getD m false = false := getD_repl _ _
        simp only [HS, this]; exact ih
    have hdrew : ∀ {γ x v}, VRel Z w γ x v → VRel Z { w with drawn := w.drawn + 1 } γ x v := fun h => h.mono (fun _ h => ⟨h, rfl⟩) (fun _ _ h => h) (fun _ _ _ => rfl)
    have hsat : Sat Z γ st.H { w with drawn := w.drawn + 1 } := ⟨fun i ch hi hl => by
      obtain ⟨b, h1, h2, h3⟩ := hs.sat.own i ch hi hl
      exact ⟨b, h1, h2, h3.mono rfl (fun _ h => ⟨h, rfl⟩) (fun _ _ h => h) (fun _ _ _ => rfl)⟩, hs.sat.inj, hs.sat.rng, hs.sat.zrng, hs.sat.dom⟩
    refine ⟨by rw [hS2]; exact hsat, fun d x hx => ?_, hs.size, rfl, fun g cs hg => hdrew (hs.glob g cs hg), ?_⟩
    · rw [hS] at hx; exact hdrew (hs.tmp d x hx)
    · rw [hS2]; exact ⟨fun _ _ h => h, fun _ h => h, Nat.le_refl _, fun _ _ _ => rfl, fun _ _ => rfl, fun i _ h1 h2 => .inl ⟨i, h1, h2⟩, fun _ h => .inl h, rfl, rfl, rfl⟩

/-! ## code -/
def hasGoto : Code → Bool
  | .goto _ => true
  | .seq a b => match hasGoto a with
    | true => true
    | false => hasGoto b
  | .cond _ a b => match hasGoto a with
    | true => true
    | false => hasGoto b
  | .block _ b => hasGoto b
  | .loop b => hasGoto b
  | .scope b => hasGoto b
  | .rangeFunc _ _ _ b => hasGoto b
  | _ => false

/-- how many loops (scopes with a jump, ranges over functions) stand in a piece of code, those within others not counted -/
def nl : Code → Nat
  | .seq a b => nl a + nl b
  | .cond _ a b => nl a + nl b
  | .block _ b => nl b
  | .scope b => match hasGoto b with
    | true => 1
    | false => nl b
  | .loop _ => 1
  | .rangeFunc _ _ _ _ => 1
  | _ => 0

abbrev LC := St → (Exit → St → Prop) → Prop

def exec (E : Env) (F : Fs) : Code → List LC → St → (Exit → St → Prop) → Prop
  | .skip, _, st, k => k .normal st
  | .region _ ops false, _, st, k => runOps E F ops.toList ops.toList st (k .normal)
  | .region _ ops true, _, st, k => execDraw E F.F ops.toList st (k .normal)
  | .seq a b, ls, st, k => exec E F a ls st (fun e st' => match e with
    | .normal => exec E F b (ls.drop (nl a)) st' k
    | e => k e st')
  | .cond c a b, ls, st, k => match c with
    | .tmp d => match st.t.get d with
      | some (.bool v) => bcase v (exec E F a ls { st with t := st.t.put d (.bool true) } k) (exec E F b (ls.drop (nl a)) { st with t := st.t.put d (.bool false) } k)
      | _ => False
    | .const (.bool true) => exec E F a ls st k
    | .const (.bool false) => exec E F b (ls.drop (nl a)) st k
    | _ => False
  | .block id c, ls, st, k => exec E F c ls st (fun e st' => match e with
    | .exit id' => match Nat.beq id' id with
      | true => k .normal st'
      | false => k (.exit id') st'
    | e => k e st')
  | .loop _, ls, st, k => match ls with
    | lc :: _ => lc st k
    | [] => False
  | .rangeFunc _ _ _ _, ls, st, k => match ls with
    | lc :: _ => lc st k
    | [] => False
  | .scope c, ls, st, k => match hasGoto c with
    | true => match ls with
      | lc :: _ => lc st k
      | [] => False
    | false => exec E F c ls st (fun e st' => match e with
      | .goto _ => False
      | e => k e st')
  | .exit id, _, st, k => k (.exit id) st
  | .label _, _, st, k => k .normal st
  | .ret, _, st, k => k .ret st
  | .goto l, _, st, k => k (.goto l) st
  | .refuse _, _, _, _ => False

def LAll (E : Env) (rd : Bool) : Code → List LC → Prop
  | .seq a b, ls => LAll E rd a ls ∧ LAll E rd b (ls.drop (nl a))
  | .cond _ a b, ls => LAll E rd a ls ∧ LAll E rd b (ls.drop (nl a))
  | .block _ c, ls => LAll E rd c ls
  | .scope c, ls => match hasGoto c with
    | true => match ls with
      | lc :: _ => ∀ st k, lc st k → COK E rd (.scope c) st k
      | [] => True
    | false => LAll E rd c ls
  | .loop c, ls => match ls with
    | lc :: _ => ∀ st k, lc st k → COK E rd (.loop c) st k
    | [] => True
  | .rangeFunc f p a b, ls => match ls with
    | lc :: _ => ∀ st k, lc st k → COK E rd (.rangeFunc f p a b) st k
    | [] => True
  | _, _ => True

theorem COK_pure {E : Env} {rd : Bool} {c : Code} {st : St} {k : Exit → St → Prop} (e : Exit) (hk : k e st) (h : ∀ R Z γ a w, SatSt E Z γ st a w → ∀ Q : Exit → Act → World → Prop, Q e a w → c.wpIn (FR R) 0 E.P Q a w) : COK E rd c st k :=
  fun hfr => ⟨e, st, hk, hfr, fun R _ Z γ a w hs => h R Z γ a w hs _ ⟨rfl, Z, γ, hs, Run.refl ..⟩⟩

/-- Into a piece of code, through what it is to the whole. -/
theorem COK_via {E : Env} {rd : Bool} {c c1 : Code} {st st1 : St} {k k1 : Exit → St → Prop} (h : COK E rd c1 st1 k1) (hH : st1.H = st.H) (hN : st1.nid = st.nid) (f : Exit → Exit)
    (hk : ∀ e st', k1 e st' → k (f e) st') (hw : ∀ R Z γ a w, SatSt E Z γ st a w → SatSt E Z γ st1 a w ∧ ∀ Q : Exit → Act → World → Prop, ∀ e st', k1 e st' → c1.wpIn (FR R) 0 E.P (fun e' a' w' => e' = e ∧ Q (f e) a' w') a w → c.wpIn (FR R) 0 E.P Q a w) : COK E rd c st k := by
  intro hfr
  obtain ⟨e, st', h1, h2, h3⟩ := h (by rw [hH, hN]; exact hfr)
  refine ⟨f e, st', hk e st' h1, h2, fun R hR Z γ a w hs => ?_⟩
  obtain ⟨hs1, hw1⟩ := hw R Z γ a w hs
  refine hw1 _ e st' h1 (wpIn_mono (h3 R hR Z γ a w hs1) fun e' a' w' ⟨e1, Z', γ', g1, g2⟩ => ⟨e1, rfl, Z', γ', g1, ?_⟩)
  rw [hH] at g2; exact g2

theorem exec_ok {E : Env} {rd : Bool} {F : Fs} (hE : FsEnv E F) : ∀ (c : Code) (ls : List LC) (st : St) (k : Exit → St → Prop), LAll E rd c ls → exec E F c ls st k → COK E rd c st k
  | .skip, ls, st, k, _, h => COK_pure .normal h fun R Z γ a w hs Q hq => wpIn_skip hq
  | .region id ops false, ls, st, k, _, h => fun hfr => by
      obtain ⟨st', h1, h2, h3⟩ := runOps_ok hE ops (k .normal) ops.toList 0 st (fun j => by simp) hfr h
      refine ⟨.normal, st', h1, h2, fun R _ Z γ a w hs => wpIn_region ?_⟩
      have := h3 R (fun e' a' w' => e' = .normal ∧ ∃ Z' γ', SatSt E Z' γ' st' a' w' ∧ Run Z γ st.H w Z' γ' st'.H w') Z γ a w hs (fun Z' γ' a' w' g1 g2 => ⟨rfl, Z', γ', g1, g2⟩)
      simpa [List.range_eq_range'] using this
  | .region id ops true, ls, st, k, _, h => fun hfr => by
      obtain ⟨st', h1, h2, h3⟩ := execDraw_ok hE.base hfr h
      exact ⟨.normal, st', h1, h2, fun R _ Z γ a w hs => h3 R id _ Z γ a w hs (fun Z' γ' a' w' g1 g2 => ⟨rfl, Z', γ', g1, g2⟩)⟩
  | .seq x y, ls, st, k, hl, h => fun hfr => by
      obtain ⟨e, st1, h1, h2, h3⟩ := exec_ok hE x ls st _ hl.1 h hfr
      have go : ∀ st', (e ≠ .normal) → k e st1 → st' = st1 → ∃ e st', k e st' ∧ (∀ i, st'.nid ≤ i → st'.H.get i = none) ∧ ∀ R, (rd = false → R = none) → ∀ Z γ a w, SatSt E Z γ st a w → (Code.seq x y).wpIn (FR R) 0 E.P (fun e' a' w' => e' = e ∧ ∃ Z' γ', SatSt E Z' γ' st' a' w' ∧ Run Z γ st.H w Z' γ' st'.H w') a w := fun st' hne hk _ =>
        ⟨e, st1, hk, h2, fun R hR Z γ a w hs => wpIn_seq (wpIn_mono (h3 R hR Z γ a w hs) fun e' a' w' ⟨e1, g⟩ => by
          subst e1
          cases e' <;> first | exact absurd rfl hne | exact ⟨rfl, g⟩)⟩
      cases e with
      | normal =>
        obtain ⟨e2, st2, k1, k2, k3⟩ := exec_ok hE y _ st1 k hl.2 h1 h2
        refine ⟨e2, st2, k1, k2, fun R hR Z γ a w hs => wpIn_seq (wpIn_mono (h3 R hR Z γ a w hs) fun e' a' w' ⟨e1, Z', γ', g1, g2⟩ => ?_)⟩
        subst e1
        exact wpIn_mono (k3 R hR Z' γ' a' w' g1) fun e' a2 w2 ⟨e1, Z2, γ2, g3, g4⟩ => ⟨e1, Z2, γ2, g3, g2.trans g4⟩
      | _ => exact go st1 (by intro h; cases h) h1 rfl
  | .cond c x y, ls, st, k, hl, h => by
      unfold exec at h
      split at h
      · rename_i d
        split at h
        · rename_i v hv
          have he : ∀ Z γ a w, SatSt E Z γ st a w → a.eval (.tmp d) = .bool v := fun Z γ a w hs => by
            have hr := hs.tmp d _ hv
            simp only [Act.eval]; generalize a.tmps.getD d undef = u at hr; cases hr; rfl
          rw [bcase_iff] at h
          cases v with
          | true =>
            refine COK_via (exec_ok hE x ls _ k hl.1 (h.1 rfl)) rfl rfl id (fun _ _ h => h) fun R Z γ a w hs => ⟨hs.tmpAs (x' := .bool true) hv (fun _ h => h), fun Q e st' _ hw => ?_⟩
            exact wpIn_cond_split (he Z γ a w hs) (fun _ => wpIn_mono hw fun e' a' w' ⟨e1, g⟩ => by subst e1; exact g) (fun h => by cases h)
          | false =>
            refine COK_via (exec_ok hE y _ _ k hl.2 (h.2 rfl)) rfl rfl id (fun _ _ h => h) fun R Z γ a w hs => ⟨hs.tmpAs (x' := .bool false) hv (fun _ h => h), fun Q e st' _ hw => ?_⟩
            exact wpIn_cond_split (he Z γ a w hs) (fun h => by cases h) (fun _ => wpIn_mono hw fun e' a' w' ⟨e1, g⟩ => by subst e1; exact g)
        · exact h.elim
      · exact COK_via (exec_ok hE x ls st k hl.1 h) rfl rfl id (fun _ _ h => h) fun R Z γ a w hs => ⟨hs, fun Q e st' _ hw => wpIn_cond_true rfl (wpIn_mono hw fun e' a' w' ⟨e1, g⟩ => by subst e1; exact g)⟩
      · exact COK_via (exec_ok hE y _ st k hl.2 h) rfl rfl id (fun _ _ h => h) fun R Z γ a w hs => ⟨hs, fun Q e st' _ hw => wpIn_cond_false rfl (wpIn_mono hw fun e' a' w' ⟨e1, g⟩ => by subst e1; exact g)⟩
      · exact h.elim
  | .block id c, ls, st, k, hl, h => by
      refine COK_via (exec_ok hE c ls st _ hl h) rfl rfl (fun e => match e with
        | .exit id' => match Nat.beq id' id with
          | true => .normal
          | false => .exit id'
        | e => e) (fun e st' h => ?_) fun R Z γ a w hs => ⟨hs, fun Q e st' _ hw => wpIn_block (wpIn_mono hw fun e' a' w' ⟨e1, g⟩ => ?_)⟩
      · cases e with
        | exit id' =>
          have h : (match Nat.beq id' id with
            | true => k .normal st'
            | false => k (.exit id') st') := h
          show k (match Nat.beq id' id with
            | true => .normal
            | false => .exit id') st'
          split at h <;> exact h
        | _ => exact h
      · subst e1
        cases e' with
        | exit id' =>
          simp only [Exit.inBlock]
          have g : Q (match Nat.beq id' id with
            | true => .normal
            | false => .exit id') a' w' := g
          split at g
          · rename_i hb; rw [if_pos (Nat.eq_of_beq_eq_true hb)]; exact g
          · rename_i hb; rw [if_neg (Nat.ne_of_beq_eq_false hb)]; exact g
        | _ => exact g
  | .loop c, ls, st, k, hl, h => by
      unfold exec at h
      unfold LAll at hl
      split at h
      · exact hl st k h
      · exact h.elim
  | .rangeFunc f p x c, ls, st, k, hl, h => by
      unfold exec at h
      unfold LAll at hl
      split at h
      · exact hl st k h
      · exact h.elim
  | .scope c, ls, st, k, hl, h => by
      unfold exec at h
      unfold LAll at hl
      split at h
      · rename_i hg
        simp only [hg] at hl
        split at h
        · exact hl st k h
        · exact h.elim
      · rename_i hg
        simp only [hg] at hl
        refine COK_via (exec_ok hE c ls st _ hl h) rfl rfl id (fun e st' h => ?_) fun R Z γ a w hs => ⟨hs, fun Q e st' hk1 hw => wpIn_scope_straight (wpIn_mono hw fun e' a' w' ⟨e1, g⟩ => ?_)⟩
        · cases e with
          | goto l => exact h.elim
          | _ => exact h
        · subst e1
          cases e' with
          | goto l => exact hk1.elim
          | _ => exact g
  | .exit id, ls, st, k, _, h => COK_pure (.exit id) h fun R Z γ a w hs Q hq => wpIn_exit hq
  | .label l, ls, st, k, _, h => COK_pure .normal h fun R Z γ a w hs Q hq => wpIn_label hq
  | .ret, ls, st, k, _, h => COK_pure .ret h fun R Z γ a w hs Q hq => wpIn_ret hq
  | .goto l, ls, st, k, _, h => COK_pure (.goto l) h fun R Z γ a w hs Q hq => wpIn_goto hq
  | .refuse why, ls, st, k, _, h => h.elim

end Go.Sx
