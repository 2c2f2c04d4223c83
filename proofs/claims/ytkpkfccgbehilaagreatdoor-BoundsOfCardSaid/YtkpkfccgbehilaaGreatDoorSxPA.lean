/- Part of an own symbolic executor for the model's code, proved sound, and of the proof of one statement (see the text of the claimed theorem). -/
import Derived.Test.YtkpkfccgbehilaaGreatDoorSxP
import Derived.Laws.Slices
import Derived.Laws.MakeOwn
namespace Go.Sx
section
variable {E : Env} (ok : E.Ok)

/-! #### slices of slices -/
def bndF (x : Option AV) (d : Nat) : Option Int :=
  match x with
  | none => some d
  | some (.int _ _ n) => some n
  | _ => none

theorem run_bounds (P : Program) (w : World) (isS : Bool) (len cap : Nat) (lo hi mx : Option Value) (l h m : Nat) (hlo : lo = none ∧ l = 0 ∨ ∃ k, lo = some (.int k l)) (hhi : hi = none ∧ h = len ∧ mx = none ∨ ∃ k, hi = some (.int k h))
    (hmx : mx = none ∧ m = cap ∨ ∃ k, mx = some (.int k m)) (h1 : l ≤ h) (h2 : h ≤ m) (h3 : m ≤ cap) (h4 : hi = none → mx = none) : (Instr.sliceBounds isS len cap lo hi mx).run P w = .ok (l, h, m) w := by
  rcases hmx with ⟨rfl, rfl⟩ | ⟨km, rfl⟩
  · rcases hhi with ⟨rfl, rfl, _⟩ | ⟨kh, rfl⟩
    · rcases hlo with ⟨rfl, rfl⟩ | ⟨kl, rfl⟩
      · simp [Instr.sliceBounds]
      · simp [Instr.sliceBounds, run_sliceBound, h1]
    · rcases hlo with ⟨rfl, rfl⟩ | ⟨kl, rfl⟩
      · simp [Instr.sliceBounds, run_sliceBound, h2]
      · simp [Instr.sliceBounds, run_sliceBound, h1, h2]
  · rcases hhi with ⟨rfl, rfl, h⟩ | ⟨kh, rfl⟩
    · cases h
    · rcases hlo with ⟨rfl, rfl⟩ | ⟨kl, rfl⟩
      · simp [Instr.sliceBounds, run_sliceBound, h2, h3]
      · simp [Instr.sliceBounds, run_sliceBound, h1, h2, h3]

def optAV (ρ : Operand → AV) (x : Option Operand) : Option AV :=
  match x with
  | none => none
  | some p => some (ρ p)

def okB (l h m : Int) (top : Nat) : Bool :=
  match decide (0 ≤ l), decide (l ≤ h), decide (h ≤ m), decide (m ≤ top) with
  | true, true, true, true => true
  | _, _, _, _ => false

theorem okB_spec {l h m : Int} {top : Nat} (hc : okB l h m top = true) : 0 ≤ l ∧ l ≤ h ∧ h ≤ m ∧ m ≤ top := by
  unfold okB at hc
  split at hc
  · rename_i a b c d; exact ⟨of_decide_eq_true a, of_decide_eq_true b, of_decide_eq_true c, of_decide_eq_true d⟩
  · cases hc

/-- The array behind an address: how many elements. -/
def Env.arr (E : Env) (t : TypeId) : Option (Nat × TypeId) :=
  match E.und t with
  | some (.array n e) => some (n, e)
  | some (.pointer a) => match E.und a with
    | some (.array n e) => some (n, e)
    | _ => none
  | _ => none

def topOf (cap : Option Nat) (n : Nat) : Nat :=
  match cap with
  | some c => c
  | none => n

def capMinus (cap : Option Nat) (l : Nat) : Option Nat :=
  match cap with
  | some c => some (c - l)
  | none => none

/-- the new capacity -/
def newCap (mx : Option AV) (m : Int) (cap : Option Nat) (l : Nat) : Option Nat :=
  match mx with
  | some _ => some (m.toNat - l)
  | none => capMinus cap l

def noMax (hi mx : Option AV) : Bool :=
  match hi, mx with
  | none, some _ => false
  | _, _ => true

def sliceF (E : Env) (t : TypeId) (x : AV) (lo hi mx : Option AV) (H : Heap) : Option Out :=
  match x with
  | .nils => match E.und t, bndF lo 0, bndF hi 0, bndF mx 0 with
    | some (.slice e), some l, some h, some m => match E.tt.get e, noMax hi mx with
      | some _, true => some ⟨some (okB l h m 0), [], .nils, []⟩
      | _, _ => none
    | _, _, _, _ => none
  | .sl id base start sz n cap => match E.und t, bndF lo 0, bndF hi n, bndF mx (topOf cap n) with
    | some (.slice e), some l, some h, some m => match E.tt.get e, noMax hi mx with
      | some ei, true => match Nat.beq sz ei.size with
        | true => some ⟨some (okB l h m (topOf cap n)), [], .sl id base (start + l.toNat) sz (h.toNat - l.toNat) (newCap mx m cap l.toNat), []⟩
        | false => none
      | _, _ => none
    | _, _, _, _ => none
  | .isl sz n cap f => match E.und t, bndF lo 0, bndF hi n, bndF mx (topOf cap n) with
    | some (.slice e), some l, some h, some m => match E.tt.get e, noMax hi mx with
      | some ei, true => match Nat.beq sz ei.size with
        | true => some ⟨some (okB l h m (topOf cap n) && decide (h ≤ n)), [], .isl sz (h.toNat - l.toNat) (newCap mx m cap l.toNat) (fun i => f (l.toNat + i)), []⟩
        | false => none
      | _, _ => none
    | _, _, _, _ => none
  | .ptr id off => match E.arr t, H.get id with
    | some (N, e), some (.cells _ cs) => match bndF lo 0, bndF hi N, bndF mx N with
      | some l, some h, some m => match E.tt.get e, noMax hi mx with
        | some ei, true => match Nat.ble (off + N * ei.size) cs.length with
          | true => some ⟨some (okB l h m N), [id], .sl id off l.toNat ei.size (h.toNat - l.toNat) (some (m.toNat - l.toNat)), []⟩
          | false => none
        | _, _ => none
      | _, _, _ => none
    | _, _ => none
  | .iref cs => match E.arr t with
    | some (N, e) => match bndF lo 0, bndF hi N, bndF mx N with
      | some l, some h, some m => match E.tt.get e, noMax hi mx with
        | some ei, true => match Nat.ble (N * ei.size) cs.length with
          | true => some ⟨some (okB l h m N), [], .isl ei.size (h.toNat - l.toNat) (some (m.toNat - l.toNat)) (fun i => (cs.drop ((l.toNat + i) * ei.size)).take ei.size), []⟩
          | false => none
        | _, _ => none
      | _, _, _ => none
    | none => none
  | _ => none

theorem bnd_rel {Z w γ} {ρ : Operand → AV} {a : Act} (hx : ∀ x, VRel Z w γ (ρ x) (a.eval x)) {x : Option Operand} {d : Nat} {n : Int} (h : bndF (optAV ρ x) d = some n) (h0 : 0 ≤ n) :
    x.map a.eval = none ∧ n.toNat = d ∨ ∃ k, x.map a.eval = some (.int k (n.toNat : Int)) := by
  cases x with
  | none => simp only [optAV, bndF] at h; cases h; exact .inl ⟨rfl, by simp⟩
  | some p =>
    simp only [optAV] at h
    unfold bndF at h
    split at h
    · rename_i hq; cases hq
    · rename_i l k m hq
      cases h
      have hp := hx p
      cases hq' : ρ p <;> rw [hq'] at hq <;> cases hq
      rw [hq'] at hp
      generalize hv : a.eval p = v at hp
      cases hp
      exact .inr ⟨k, by simp [hv, Int.toNat_of_nonneg h0]⟩
    · cases h

theorem noMax_spec {ρ : Operand → AV} {a : Act} {hi mx : Option Operand} (h : noMax (optAV ρ hi) (optAV ρ mx) = true) : hi.map a.eval = none → mx.map a.eval = none := by
  cases hi <;> cases mx <;> simp_all [noMax, optAV]

/-- the bounds, gone through -/
theorem bounds_go {Z w γ} {ρ : Operand → AV} {a : Act} (hx : ∀ x, VRel Z w γ (ρ x) (a.eval x)) {lo hi mx : Option Operand} {len top c : Nat} {l h m : Int} (h1 : bndF (optAV ρ lo) 0 = some l) (h2 : bndF (optAV ρ hi) len = some h) (h3 : bndF (optAV ρ mx) top = some m)
    (h4 : noMax (optAV ρ hi) (optAV ρ mx) = true) (hok : okB l h m top = true) (htop : top ≤ c) (isS : Bool) :
    ∃ m' : Nat, (mx.map a.eval = none ∧ m' = c ∨ mx.map a.eval ≠ none ∧ m' = m.toNat) ∧ h.toNat ≤ m' ∧ m' ≤ c ∧ (Instr.sliceBounds isS len c (lo.map a.eval) (hi.map a.eval) (mx.map a.eval)).run E.P w = .ok (l.toNat, h.toNat, m') w := by
  obtain ⟨g1, g2, g3, g4⟩ := okB_spec hok
  have b1 := bnd_rel hx h1 g1
  have b2 := bnd_rel hx h2 (by omega)
  have b3 := bnd_rel hx h3 (by omega)
  have hn := noMax_spec (a := a) h4
  rcases b3 with ⟨e, e'⟩ | ⟨k, e⟩
  · refine ⟨c, .inl ⟨e, rfl⟩, by omega, Nat.le_refl _, run_bounds E.P w isS len c _ _ _ l.toNat h.toNat c b1 ?_ (.inl ⟨e, rfl⟩) (by omega) (by omega) (Nat.le_refl _) hn⟩
    rcases b2 with ⟨f, f'⟩ | f
    · exact .inl ⟨f, f', e⟩
    · exact .inr f
  · refine ⟨m.toNat, .inr ⟨by rw [e]; simp, rfl⟩, by omega, by omega, run_bounds E.P w isS len c _ _ _ l.toNat h.toNat m.toNat b1 ?_ (.inr ⟨k, e⟩) (by omega) (by omega) (by omega) hn⟩
    rcases b2 with ⟨f, f'⟩ | f
    · exact .inl ⟨f, f', hn f⟩
    · exact .inr f

theorem newCap_ok {ρ : Operand → AV} {a : Act} {mx : Option Operand} {m : Int} {cap : Option Nat} {l c m' q : Nat} (hm : mx.map a.eval = none ∧ m' = c ∨ mx.map a.eval ≠ none ∧ m' = m.toNat) (hcap : ∀ c0, cap = some c0 → c = c0) (h : newCap (optAV ρ mx) m cap l = some q) : m' - l = q := by
  cases mx with
  | none =>
    simp only [optAV, newCap, capMinus] at h
    rcases hm with ⟨_, rfl⟩ | ⟨h', _⟩
    · split at h
      · rename_i c0; cases h; rw [hcap c0 rfl]
      · cases h
    · simp at h'
  | some p =>
    simp only [optAV, newCap] at h
    cases h
    rcases hm with ⟨h', _⟩ | ⟨_, rfl⟩
    · simp at h'
    · rfl

theorem slice_bounds_arr {Z w γ} {ρ : Operand → AV} {a : Act} {mx : Option Operand} {m : Int} {N m' : Nat} (hx : ∀ x, VRel Z w γ (ρ x) (a.eval x)) (h3 : bndF (optAV ρ mx) N = some m) (hm : mx.map a.eval = none ∧ m' = N ∨ mx.map a.eval ≠ none ∧ m' = m.toNat) (h0 : 0 ≤ m) : m' = m.toNat := by
  rcases bnd_rel hx h3 h0 with ⟨e, e'⟩ | ⟨k, e⟩
  · rcases hm with ⟨_, rfl⟩ | ⟨h, _⟩
    · exact e'.symm
    · exact absurd e h
  · rcases hm with ⟨h, _⟩ | ⟨_, h⟩
    · rw [e] at h; cases h
    · exact h

include ok in
theorem valid_slice {o : Oper} {t : TypeId} {x : Operand} {lo hi mx : Option Operand} (h : o.op = .slice t x lo hi mx) (ρ : Operand → AV) (H : Heap) (nid : Nat) {u : Out} (hu : sliceF E t (ρ x) (optAV ρ lo) (optAV ρ hi) (optAV ρ mx) H = some u) (hc : Asked u.c) :
    Valid E.P o ρ H nid u ∧ u.wr = [] ∧ ∀ i, i ∈ u.nd → ∃ ch, H.get i = some ch ∧ ch.live = true := by
  have key : ∀ (a : Act) (w : World) v, (Instr.sliceAt t (a.eval x) (lo.map a.eval) (hi.map a.eval) (mx.map a.eval)).run E.P w = .ok v w → (execOp a.eval o).run E.P w = .ok (.value v) w := fun a w v hv => by
    simp only [execOp, h, Sem.run_bind, hv]; rfl
  have ofSlice : ∀ (a : Act) (w : World) {e : TypeId} {ei : TypeInfo} {b : Option Addr} {n c l hh m : Nat}, E.und t = some (.slice e) → E.tt.get e = some ei → a.eval x = .slice b n c →
      (Instr.sliceBounds true n c (lo.map a.eval) (hi.map a.eval) (mx.map a.eval)).run E.P w = .ok (l, hh, m) w → (execOp a.eval o).run E.P w = .ok (.value (.slice (if m = l then b else b.map (·.add (l * ei.size))) (hh - l) (m - l))) w := by
    intro a w e ei b n c l hh m hu hei hx hb
    refine key a w _ ?_
    simp only [Instr.sliceAt, Sem.run_bind, run_und ok hu, Result.andThen_ok, hx, Instr.slice, hb, run_size ok hei]
    rfl
  have ofArr : ∀ (a : Act) (w : World) {N : Nat} {e : TypeId} {ei : TypeInfo} {ad : Addr} {l hh m : Nat}, E.arr t = some (N, e) → E.tt.get e = some ei → a.eval x = .pointer (some ad) →
      (∀ isS, (Instr.sliceBounds isS N N (lo.map a.eval) (hi.map a.eval) (mx.map a.eval)).run E.P w = .ok (l, hh, m) w) → (execOp a.eval o).run E.P w = .ok (.value (.slice (some (if m = l then ad else ad.add (l * ei.size))) (hh - l) (m - l))) w := by
    intro a w N e ei ad l hh m hu hei hx hb
    refine key a w _ ?_
    unfold Env.arr at hu
    split at hu
    · rename_i hut
      cases hu
      simp only [Instr.sliceAt, Sem.run_bind, run_und ok hut, Result.andThen_ok, hx, Instr.sureAddr, Sem.run_pure, hb, run_size ok hei]
    · rename_i arr hut
      split at hu
      · rename_i hua
        cases hu
        simp only [Instr.sliceAt, Sem.run_bind, run_und ok hut, Result.andThen_ok, hx, Instr.slice, asAddr, Sem.run_pure, run_und ok hua, hb, run_size ok hei]
      · cases hu
    · cases hu
  unfold sliceF at hu
  split at hu
  · rename_i hxe
    split at hu
    · rename_i e l hh m hut h1 h2 h3
      split at hu
      · rename_i ei hei hnm
        cases hu
        refine ⟨valid_pure rfl fun Z γ H' w a hs hx hn => ?_, rfl, fun i hi => by cases hi⟩
        have hv := hx x
        rw [hxe] at hv
        generalize hav : a.eval x = v at hv
        cases hv
        obtain ⟨g1, g2, g3, g4⟩ := okB_spec hc
        obtain ⟨m', k1, k2, k3, k4⟩ := bounds_go (E := E) hx h1 h2 h3 hnm hc (Nat.le_refl 0) true
        refine ⟨_, ?_, ofSlice a w hut hei hav k4⟩
        have e1 : m' = 0 := by omega
        have e2 : l.toNat = 0 := by omega
        have e3 : hh.toNat = 0 := by omega
        rw [e1, e2, e3]; exact .nils
      · cases hu
    · cases hu
  · rename_i id base start sz n cap hxe
    split at hu
    · rename_i e l hh m hut h1 h2 h3
      split at hu
      · rename_i ei hei hnm
        split at hu
        · rename_i hsz
          have hsz := Nat.eq_of_beq_eq_true hsz
          cases hu
          refine ⟨valid_pure rfl fun Z γ H' w a hs hx hn => ?_, rfl, fun i hi => by cases hi⟩
          have hv := hx x
          rw [hxe] at hv
          generalize hav : a.eval x = v at hv
          obtain ⟨g1, g2, g3, g4⟩ := okB_spec hc
          cases hv
          · rename_i b c q1 q2 q3 q4
            have hb : γ id = some b := by assumption
            have hnc : n ≤ c := by assumption
            have hcap : ∀ c0, cap = some c0 → c = c0 := by assumption
            have hshape : ∀ ty m, w.shape? b = some (ty, m) → base + (start + c) * sz ≤ m := by assumption
            have htop : topOf cap n ≤ c := by
              unfold topOf; split
              · rename_i c0; rw [hcap c0 rfl]; exact Nat.le_refl _
              · exact hnc
            obtain ⟨m', k1, k2, k3, k4⟩ := bounds_go (E := E) hx h1 h2 h3 hnm hc htop true
            refine ⟨_, ?_, ofSlice a w hut hei hav k4⟩
            by_cases hml : m' = l.toNat
            · rw [if_pos hml]
              have e3 : hh.toNat - l.toNat = 0 := by omega
              have e4 : m' - l.toNat = 0 := by omega
              rw [e3, e4]
              exact .sl0 rfl (fun c0 hc0 => by have := newCap_ok k1 hcap hc0; omega)
            · rw [if_neg hml, ← hsz]
              simp only [Option.map_some, add_zero']
              have e5 : base + start * sz + l.toNat * sz = base + (start + l.toNat) * sz := by rw [Nat.add_mul]; omega
              rw [e5]
              refine .sl hb (by omega) (fun c0 hc0 => newCap_ok k1 hcap hc0) (fun ty q hq => ?_)
              have := hshape ty q hq
              have h6 : (start + l.toNat + (m' - l.toNat)) * sz ≤ (start + c) * sz := Nat.mul_le_mul_right _ (by omega)
              omega
          · rename_i b q1 q2
            have hn0 : n = 0 := by assumption
            have hcap : ∀ c0, cap = some c0 → c0 = 0 := by assumption
            subst hn0
            have htop : topOf cap 0 ≤ 0 := by
              unfold topOf; split
              · rename_i c0; rw [hcap c0 rfl]; exact Nat.le_refl _
              · exact Nat.le_refl _
            obtain ⟨m', k1, k2, k3, k4⟩ := bounds_go (E := E) hx h1 h2 h3 hnm hc htop true
            refine ⟨_, ?_, ofSlice a w hut hei hav k4⟩
            have e1 : m' = 0 := by omega
            have e2 : l.toNat = 0 := by omega
            have e3 : hh.toNat = 0 := by omega
            have hq : ∀ c0, newCap (optAV ρ mx) m cap l.toNat = some c0 → c0 = 0 := fun c0 hc0 => by have := newCap_ok k1 (fun c0 h => (hcap c0 h).symm) hc0; omega
            rw [e1, e2, e3] at *
            exact .sl0 rfl hq
        · cases hu
      · cases hu
    · cases hu
  · rename_i sz n cap f hxe
    split at hu
    · rename_i e l hh m hut h1 h2 h3
      split at hu
      · rename_i ei hei hnm
        split at hu
        · rename_i hsz
          have hsz := Nat.eq_of_beq_eq_true hsz
          cases hu
          refine ⟨valid_pure rfl fun Z γ H' w a hs hx hn => ?_, rfl, fun i hi => by cases hi⟩
          have hv := hx x
          rw [hxe] at hv
          generalize hav : a.eval x = v at hv
          have hc1 : okB l hh m (topOf cap n) = true := by have : (okB l hh m (topOf cap n) && decide (hh ≤ n)) = true := hc; simp at this; exact this.1
          have hc2 : hh ≤ n := by have : (okB l hh m (topOf cap n) && decide (hh ≤ n)) = true := hc; simp at this; exact this.2
          obtain ⟨g1, g2, g3, g4⟩ := okB_spec hc1
          cases hv
          case isl b c vs q1 q2 q3 q4 q5 q6 =>
            have hZ : Z b.block := by assumption
            have hsp : b.spot = none := by assumption
            have hnc : n ≤ c := by assumption
            have hcap : ∀ c0, cap = some c0 → c = c0 := by assumption
            have hcell : ∀ (i j : Nat) (x : AV), i < n → (f i)[j]? = some x → w.cell? { block := b.block, off := b.off + i * sz + j, spot := none } = some (vs i j) := by assumption
            have hrel : ∀ (i j : Nat) (x : AV), i < n → (f i)[j]? = some x → VRel Z w noG x (vs i j) := by assumption
            have htop : topOf cap n ≤ c := by
              unfold topOf; split
              · rename_i c0; rw [hcap c0 rfl]; exact Nat.le_refl _
              · exact hnc
            obtain ⟨m', k1, k2, k3, k4⟩ := bounds_go (E := E) hx h1 h2 h3 hnm hc1 htop true
            refine ⟨_, ?_, ofSlice a w hut hei hav k4⟩
            by_cases hml : m' = l.toNat
            · rw [if_pos hml]
              have e3 : hh.toNat - l.toNat = 0 := by omega
              rw [e3]
              exact .isl0 rfl (fun c0 hc0 => newCap_ok k1 hcap hc0)
            · rw [if_neg hml, ← hsz]
              simp only [Option.map_some, add_spot hsp]
              refine .isl (vs := fun i j => vs (l.toNat + i) j) hZ rfl (by omega) (fun c0 hc0 => newCap_ok k1 hcap hc0) (fun i j x hi hx => ?_) (fun i j x hi hx => hrel _ j x (by omega) hx)
              have := hcell _ j x (by omega) hx
              rw [← this]
              show w.cell? ⟨b.block, b.off + l.toNat * sz + i * sz + j, none⟩ = _
              rw [Nat.add_mul]
              congr 2; omega
          case isl0 b c q1 q2 =>
            have hn0 : n = 0 := by assumption
            have hcap : ∀ c0, cap = some c0 → c = c0 := by assumption
            subst hn0
            have htop : topOf cap 0 ≤ c := by
              unfold topOf; split
              · rename_i c0; rw [hcap c0 rfl]; exact Nat.le_refl _
              · exact Nat.zero_le _
            obtain ⟨m', k1, k2, k3, k4⟩ := bounds_go (E := E) hx h1 h2 h3 hnm hc1 htop true
            refine ⟨_, ?_, ofSlice a w hut hei hav k4⟩
            have e3 : hh.toNat - l.toNat = 0 := by omega
            rw [e3]
            exact .isl0 rfl (fun c0 hc0 => newCap_ok k1 hcap hc0)
        · cases hu
      · cases hu
    · cases hu
  · rename_i id off hxe
    split at hu
    · rename_i N e ty cs harr hid
      split at hu
      · rename_i l hh m h1 h2 h3
        split at hu
        · rename_i ei hei hnm
          split at hu
          · rename_i hle
            have hle := Nat.le_of_ble_eq_true hle
            cases hu
            refine ⟨valid_pure rfl fun Z γ H' w a hs hx hn => ?_, rfl, fun i hi => by simp at hi; subst hi; exact ⟨_, hid, rfl⟩⟩
            have hv := hx x
            rw [hxe] at hv
            generalize hav : a.eval x = v at hv
            obtain ⟨g1, g2, g3, g4⟩ := okB_spec hc
            cases hv
            rename_i b hb
            obtain ⟨b', hb', _, arr, ha, hasz, hrel⟩ := hs.own id _ ((hn id (by simp)).trans hid) rfl
            rw [hb] at hb'; cases hb'
            obtain ⟨m', k1, k2, k3, k4⟩ := bounds_go (E := E) hx h1 h2 h3 hnm hc (Nat.le_refl N) true
            have hmm := slice_bounds_arr hx h3 k1 (by omega)
            refine ⟨_, ?_, ofArr a w harr hei hav (fun isS => by
              obtain ⟨m2, k1', k2', k3', k4'⟩ := bounds_go (E := E) hx h1 h2 h3 hnm hc (Nat.le_refl N) isS
              have := slice_bounds_arr hx h3 k1' (by omega)
              rw [this, ← hmm] at k4'; exact k4')⟩
            rw [hmm]
            by_cases hml : m.toNat = l.toNat
            · rw [if_pos hml]
              have e3 : hh.toNat - l.toNat = 0 := by omega
              have e4 : m.toNat - l.toNat = 0 := by omega
              rw [e3, e4]; exact .sl0 rfl (fun c0 hc0 => by cases hc0; rfl)
            · rw [if_neg hml, add_zero']
              refine .sl hb (by omega) (fun c0 hc0 => by cases hc0; rfl) (fun ty q hq => ?_)
              simp only [World.shape?, ha] at hq
              cases hq
              have h6 : (l.toNat + (m.toNat - l.toNat)) * ei.size ≤ N * ei.size := Nat.mul_le_mul_right _ (by omega)
              omega
          · cases hu
        · cases hu
      · cases hu
    · cases hu
  · rename_i cs hxe
    split at hu
    · rename_i N e harr
      split at hu
      · rename_i l hh m h1 h2 h3
        split at hu
        · rename_i ei hei hnm
          split at hu
          · rename_i hle
            have hle := Nat.le_of_ble_eq_true hle
            cases hu
            refine ⟨valid_pure rfl fun Z γ H' w a hs hx hn => ?_, rfl, fun i hi => by cases hi⟩
            have hv := hx x
            rw [hxe] at hv
            generalize hav : a.eval x = v at hv
            obtain ⟨g1, g2, g3, g4⟩ := okB_spec hc
            cases hv
            rename_i b vs q1 q2 q3 q4
            have hZ : Z b.block := by assumption
            have hsp : b.spot = none := by assumption
            have hcell : ∀ (i : Nat) (c : AV), cs[i]? = some c → w.cell? { block := b.block, off := b.off + i, spot := none } = some (vs i) := by assumption
            have hrel : ∀ (i : Nat) (c : AV), cs[i]? = some c → VRel Z w noG c (vs i) := by assumption
            obtain ⟨m', k1, k2, k3, k4⟩ := bounds_go (E := E) hx h1 h2 h3 hnm hc (Nat.le_refl N) true
            have hmm := slice_bounds_arr hx h3 k1 (by omega)
            refine ⟨_, ?_, ofArr a w harr hei hav (fun isS => by
              obtain ⟨m2, k1', k2', k3', k4'⟩ := bounds_go (E := E) hx h1 h2 h3 hnm hc (Nat.le_refl N) isS
              have := slice_bounds_arr hx h3 k1' (by omega)
              rw [this, ← hmm] at k4'; exact k4')⟩
            rw [hmm]
            by_cases hml : m.toNat = l.toNat
            · rw [if_pos hml]
              have e3 : hh.toNat - l.toNat = 0 := by omega
              rw [e3]; exact .isl0 rfl (fun c0 hc0 => by cases hc0; rfl)
            · rw [if_neg hml, add_spot hsp]
              have hget : ∀ (i j : Nat) (x : AV), ((cs.drop ((l.toNat + i) * ei.size)).take ei.size)[j]? = some x → cs[(l.toNat + i) * ei.size + j]? = some x := fun i j x h => by
                rw [List.getElem?_take] at h
                split at h
                · rwa [List.getElem?_drop] at h
                · cases h
              refine .isl (vs := fun i j => vs ((l.toNat + i) * ei.size + j)) hZ rfl (by omega) (fun c0 hc0 => by cases hc0; rfl) (fun i j x hi hx => ?_) (fun i j x hi hx => hrel _ _ (hget i j x hx))
              have := hcell _ _ (hget i j x hx)
              rw [← this]
              show w.cell? ⟨b.block, b.off + l.toNat * ei.size + i * ei.size + j, none⟩ = _
              rw [Nat.add_mul]
              congr 2; omega
          · cases hu
        · cases hu
      · cases hu
    · cases hu
  · cases hu

end
end Go.Sx

namespace Go.Sx
section
variable {E : Env} (ok : E.Ok)

/-! #### make -/
def okMake (bytes : Nat) (a b : Int) : Bool :=
  match decide (0 ≤ a), decide (a ≤ b), decide ((bytes : Int) * b ≤ 281474976710656), decide (b ≤ 9223372036854775807) with
  | true, true, true, true => true
  | _, _, _, _ => false

def makeF (E : Env) (t : TypeId) (l c : AV) (nid : Nat) : Option Out :=
  match l, c with
  | .int ll _ a, .int lc _ b => match E.und t with
    | some (.slice e) => match E.tt.get e with
      | some ei => match zeros ei with
        | some z => match Nat.beq z.length ei.size with
          | true => match (ll && lc) && E.lit with
            | true => some ⟨some (okMake ei.bytes a b), [], .sl nid 0 0 ei.size a.toNat (some b.toNat), [(nid, .cells e (times z b.toNat))]⟩
            | false => some ⟨some (okMake ei.bytes a b), [], .sl nid 0 0 ei.size a.toNat (some b.toNat), [(nid, .row e ei.size b.toNat (fun _ => z))]⟩
          | false => none
        | none => none
      | none => none
    | _ => none
  | _, _ => none

include ok in
theorem valid_make {o : Oper} {t : TypeId} {x y : Operand} (h : o.op = .makeSlice t x y) (ρ : Operand → AV) (H : Heap) (nid : Nat) {u : Out} (hu : makeF E t (ρ x) (ρ y) nid = some u) (hc : Asked u.c) :
    Valid E.P o ρ H nid u ∧ (∀ p, p ∈ u.wr → p.1 = nid) ∧ u.nd = [] := by
  unfold makeF at hu
  split at hu
  rotate_left
  · cases hu
  rename_i ll kl a lc kc b hx hy
  split at hu
  rotate_left
  · cases hu
  rename_i e hut
  split at hu
  rotate_left
  · cases hu
  rename_i ei hei
  split at hu
  rotate_left
  · cases hu
  rename_i z hz
  split at hu
  rotate_left
  · cases hu
  rename_i hzl
  have hzl := Nat.eq_of_beq_eq_true hzl
  obtain ⟨zv, hz1, hz2, hz3⟩ := zeros_rel hz
  have hcond : okMake ei.bytes a b = true := by
    split at hu <;> cases hu <;> exact hc
  unfold okMake at hcond
  split at hcond
  rotate_left
  · cases hcond
  rename_i c1 c2 c3 c4
  have c1 := of_decide_eq_true c1
  have c2 := of_decide_eq_true c2
  have c3 := of_decide_eq_true c3
  have c4 := of_decide_eq_true c4
  have hrun : ∀ (w : World) (ac : Act) {Z γ}, (∀ x, VRel Z w γ (ρ x) (ac.eval x)) →
      (execOp ac.eval o).run E.P w = .ok (.value (.slice (some ⟨w.heap.size, 0, none⟩) a.toNat b.toNat)) (w.alloc (.cells (madeCells zv.cells (b.toNat * ei.size)) e)) := fun w ac Z γ hr => by
    have h1 := hr x
    have h2 := hr y
    rw [hx] at h1; rw [hy] at h2
    generalize hav : ac.eval x = v at h1
    generalize hau : ac.eval y = u at h2
    cases h1; cases h2
    have := run_make (P := E.P) w t e ei zv (E.und_ok ok hut) (ok.info _ _ hei) hz1 kl kc a b c1 c2 c3 c4
    simp only [execOp, h, Sem.run_bind, hav, hau, this]; rfl
  have hsize : (madeCells zv.cells (b.toNat * ei.size)).size = b.toNat * ei.size := size_madeCells _ _
  have hsl : ∀ {Z γ} {w : World}, VRel Z (w.alloc (.cells (madeCells zv.cells (b.toNat * ei.size)) e)) (upd γ nid w.heap.size) (.sl nid 0 0 ei.size a.toNat (some b.toNat)) (.slice (some ⟨w.heap.size, 0, none⟩) a.toNat b.toNat) := fun {Z γ w} => by
    have := VRel.sl (Z := Z) (w := w.alloc (.cells (madeCells zv.cells (b.toNat * ei.size)) e)) (γ := upd γ nid w.heap.size) (id := nid) (base := 0) (start := 0) (sz := ei.size) (n := a.toNat) (cap := some b.toNat) (b := w.heap.size) (c := b.toNat)
      (by simp [upd]) (by omega) (fun c0 h => by cases h; rfl) (fun ty m hm => by
        simp only [World.shape?, heap_alloc_new] at hm
        cases hm; rw [hsize, Nat.zero_add, Nat.zero_add]; exact Nat.le_refl _)
    simpa using this
  split at hu
  · cases hu
    refine ⟨valid_new rfl fun Z γ H' w ac hs hr hn hg => ⟨_, _, ?_, hsl, hrun w ac hr⟩, (fun p hp => by simp at hp; subst hp; rfl), rfl⟩
    obtain ⟨q1, q2⟩ := range_mod_rel (z := z) (zc := zv.cells) hz2 (n := b.toNat) (hz3 Z (w.alloc (.cells (madeCells zv.cells (b.toNat * ei.size)) e)) (upd γ nid w.heap.size))
    rw [hzl] at q1 q2
    exact ⟨_, heap_alloc_new _ _, Nat.le_of_eq q1.symm, q2⟩
  · cases hu
    refine ⟨valid_new rfl fun Z γ H' w ac hs hr hn hg => ⟨_, _, ?_, hsl, hrun w ac hr⟩, (fun p hp => by simp at hp; subst hp; rfl), rfl⟩
    refine ⟨_, heap_alloc_new _ _, Nat.le_of_eq hsize.symm, fun i j x v hi hj hx hv => ?_⟩
    have hlt : i * ei.size + j < b.toNat * ei.size := by
      have : (i + 1) * ei.size ≤ b.toNat * ei.size := Nat.mul_le_mul_right _ (by omega)
      rw [Nat.add_mul] at this; omega
    have hz0 : 0 < zv.cells.size := by omega
    simp only [madeCells, Array.getElem?_map, Option.map_eq_some_iff] at hv
    obtain ⟨k, hk, rfl⟩ := hv
    have hk' : k = i * ei.size + j := by rw [Array.getElem?_range] at hk; split at hk <;> simp_all
    subst hk'
    have hmod : (i * ei.size + j) % zv.cells.size = j := by
      rw [hz2, hzl, Nat.mul_comm, Nat.mul_add_mod, Nat.mod_eq_of_lt hj]
    rw [hmod]
    have hjz : j < zv.cells.size := by omega
    rw [getElem!_pos zv.cells j hjz]
    exact hz3 _ _ _ j x _ hx (by simp [hjz])

/-! #### copy -/
theorem take_get' {l : List AV} {m j : Nat} {a : AV} (h : (l.take m)[j]? = some a) : j < m ∧ l[j]? = some a := by
  rw [List.getElem?_take] at h
  split at h
  · rename_i h1; exact ⟨h1, h⟩
  · cases h

/-- A slice's elements, where they lie. -/
theorem src_some {sz x k l nd} {H : Heap} (h : srcF sz x H = some (k, l, nd)) {H' : Heap} (hn : ∀ i, i ∈ nd → H'.get i = H.get i) {Z γ w v} (hs : Sat Z γ H' w) (hv : VRel Z w γ x v) :
    ∃ base c, v = .slice base k c ∧ (k = 0 ∨ ∃ ad, base = some ad ∧ ∃ vs : List Value, vs.length = l.length ∧ (∀ (j : Nat) u, vs[j]? = some u → w.cell? (ad.add j) = some u) ∧ (∀ (j : Nat) a u, l[j]? = some a → vs[j]? = some u → VRel Z w γ a u)) := by
  unfold srcF at h
  split at h
  · cases h; cases hv; exact ⟨_, _, rfl, .inl rfl⟩
  · rename_i id base start sz' n cap
    split at h
    · rename_i ty cs hid
      split at h
      · rename_i hsz hcut
        have hsz := Nat.eq_of_beq_eq_true hsz
        subst hsz
        cases h
        obtain ⟨c1, c2, c3⟩ := cut_spec hcut
        cases hv
        · rename_i b c hb h3 h1 h2
          have hb : γ id = some b := by assumption
          obtain ⟨b', hb', _, arr, ha, hsz, hrel⟩ := hs.own id _ ((hn id (by simp)).trans hid) rfl
          rw [hb] at hb'; cases hb'
          obtain ⟨vs, hvl, hvg⟩ := arr_vals (arr := arr) (off := base + start * sz) (m := k * sz) (by omega)
          refine ⟨_, _, rfl, .inr ⟨_, rfl, vs, by omega, fun j u hj => by rw [add_zero', cell_of_row w b _ arr ty _ ha]; exact hvg j u hj, fun j a u h1 h2 => ?_⟩⟩
          have hj : j < k * sz := by have := (List.getElem?_eq_some_iff.1 h1).1; omega
          rw [c3 j hj] at h1
          exact hrel _ a u h1 (hvg j u h2)
        · have hk : k = 0 := by assumption
          exact ⟨_, _, by rw [hk], .inl hk⟩
      · cases h
    · cases h
  · rename_i sz' n cap f
    split at h
    · rename_i hsz hrows
      have hsz := Nat.eq_of_beq_eq_true hsz
      subst hsz
      cases h
      obtain ⟨r1, r2⟩ := rowsF_spec hrows
      cases hv
      case isl a c vs q1 q2 q3 q4 q5 q6 =>
        have hsp : a.spot = none := by assumption
        have hcell : ∀ (i j : Nat) (x : AV), i < k → (f i)[j]? = some x → w.cell? { block := a.block, off := a.off + i * sz + j, spot := none } = some (vs i j) := by first | exact q6 | exact q5 | exact q4 | exact q1
        have hrel : ∀ (i j : Nat) (x : AV), i < k → (f i)[j]? = some x → VRel Z w noG x (vs i j) := by first | exact q6 | exact q1 | exact q5
        have hget : ∀ (j : Nat) u, ((List.range l.length).map (fun j => vs (j / sz) (j % sz)))[j]? = some u → j < l.length ∧ u = vs (j / sz) (j % sz) := fun j u h => by
          simp only [List.getElem?_map, Option.map_eq_some_iff] at h
          obtain ⟨q, hq, rfl⟩ := h
          obtain ⟨h1, h2⟩ := List.getElem?_eq_some_iff.1 hq
          simp at h1 h2; subst h2; exact ⟨h1, rfl⟩
        refine ⟨_, _, rfl, .inr ⟨_, rfl, (List.range l.length).map (fun j => vs (j / sz) (j % sz)), by simp, fun j u hj => ?_, fun j a u h1 h2 => ?_⟩⟩
        · obtain ⟨g1, rfl⟩ := hget j u hj
          obtain ⟨e1, e2, e3⟩ := r2 j l[j] (List.getElem?_eq_getElem g1)
          rw [Nat.zero_add] at e2
          rw [add_spot hsp, ← hcell _ _ _ e3 e2]
          have := Nat.div_add_mod j sz
          rw [Nat.mul_comm] at this
          congr 2; omega
        · obtain ⟨g1, rfl⟩ := hget j u h2
          obtain ⟨e1, e2, e3⟩ := r2 j a h1
          rw [Nat.zero_add] at e2
          exact noG_le (hrel _ _ a e3 e2)
      case isl0 a c q1 q2 =>
        have hk : k = 0 := by assumption
        exact ⟨_, _, by rw [hk], .inl hk⟩
    · cases h
  · cases h
    cases hv
    exact ⟨_, _, rfl, .inl rfl⟩
  · cases h

def copyF (E : Env) (t : TypeId) (d s : AV) (H : Heap) : Option Out :=
  match E.und t with
  | some (.slice e) => match E.tt.get e with
    | some ei => match srcF ei.size s H with
      | some (k, l, nd) => match oneAll l with
        | true => match d with
          | .sl id base start sz n _ => match H.get id with
            | some (.cells ty cs) => match Nat.ble (base + start * sz + (l.take (min k n * ei.size)).length) cs.length with
              | true => some ⟨none, id :: nd, .int true .i64 (min k n : Nat), [(id, .cells ty (splice (base + start * sz) (l.take (min k n * ei.size)) cs))]⟩
              | false => none
            | _ => none
          | _ => none
        | false => none
      | none => none
    | none => none
  | _ => none

include ok in
theorem valid_copy {o : Oper} {t tx : TypeId} {x y : Operand} {args : Array Operand} {ats : Array TypeId} (h : o.op = .call { callee := .builtin .copy, args := args, argTypes := ats }) (ha : args.toList = [x, y]) (hat : ats.toList = [t, tx])
    (ρ : Operand → AV) (H : Heap) (nid : Nat) {u : Out} (hu : copyF E t (ρ x) (ρ y) H = some u) : Valid E.P o ρ H nid u ∧ ((∀ p, p ∈ u.wr → p.1 ∈ u.nd) ∧ ∀ i, i ∈ u.nd → ∃ ch, H.get i = some ch ∧ ch.live = true) := by
  have ha := argsTwo ha
  have hat := typesTwo hat
  subst ha; subst hat
  have key : ∀ (a : Act) (w w' : World) v, (Builtin.copy_ #[t, tx] o.type #[a.eval x, a.eval y]).run E.P w = .ok v w' → (execOp a.eval o).run E.P w = .ok (.value v) w' := fun a w w' v hv => ex_builtin h (by
    simp only [builtin, Sem.run_bind, List.map_toArray, List.map_cons, List.map_nil, hv]; rfl)
  unfold copyF at hu
  split at hu
  rotate_left
  · cases hu
  rename_i e hut
  split at hu
  rotate_left
  · cases hu
  rename_i ei hei
  split at hu
  rotate_left
  · cases hu
  rename_i k l nd hss
  split at hu
  rotate_left
  · cases hu
  rename_i hone
  split at hu
  rotate_left
  · cases hu
  rename_i id base start sz n cap hdx
  split at hu
  rotate_left
  · cases hu
  rename_i ty cs hid
  split at hu
  rotate_left
  · cases hu
  rename_i hle
  have hle := Nat.le_of_ble_eq_true hle
  cases hu
  obtain ⟨nl1, nl2⟩ := srcF_live hss
  refine ⟨?_, fun p hp => by simp at hp; subst hp; simp, fun i hi => by
    rcases List.mem_cons.1 hi with rfl | hi
    · exact ⟨_, hid, rfl⟩
    · exact nl2 i hi⟩
  intro R Z γ H' w a next Q hs hx hn hf hk
  obtain ⟨b2, c2, f1, f2⟩ := src_some hss (fun i hi => hn i (List.mem_cons_of_mem _ hi)) hs (hx y)
  have hxx := hx x
  rw [hdx] at hxx
  have hid' := (hn id (by simp)).trans hid
  obtain ⟨b, hb, hzb, arr, harr, hasz, hrel⟩ := hs.own id _ hid' rfl
  have hm : (l.take (min k n * ei.size)).length = min k n * ei.size := by
    have : min k n * ei.size ≤ k * ei.size := Nat.mul_le_mul_right _ (Nat.min_le_left _ _)
    simp; omega
  -- nothing is copied
  have none_case : min k n = 0 → ∀ v, a.eval x = v → (∃ bb cc, v = .slice bb n cc) → (Builtin.copy_ #[t, tx] o.type #[a.eval x, a.eval y]).run E.P w = .ok (.int .i64 (min k n : Nat)) w := fun h0 v hv ⟨bb, cc, hb⟩ => by
    have hmin : Nat.min k n = 0 := h0
    rw [hv, hb, f1]
    cases b2 with
    | none => cases bb <;> simp [Builtin.copy_, run_und ok hut, Builtin.lenOf, run_size ok hei, Builtin.firstCells, storeCells, goInt]
    | some ad =>
      have hfc := run_firstCells_some (P := E.P) w ei.size 0 ad k c2 [] (by simp) (fun j v h => by simp at h)
      cases bb <;> simp [Builtin.copy_, run_und ok hut, Builtin.lenOf, run_size ok hei, h0, hfc, storeCells, goInt]
  by_cases h0 : min k n = 0
  · have hl0 : l.take (min k n * ei.size) = [] := by rw [h0]; simp
    have hsame : splice (base + start * sz) (l.take (min k n * ei.size)) cs = cs := by rw [hl0]; simp [splice]
    refine owp_value (key a w w _ (none_case h0 _ rfl (by obtain ⟨bb, cc, e, _⟩ := sl_len hxx; exact ⟨bb, cc, e⟩))) ?_ R
    refine hk _ _ Z γ .int ?_ (Stp.refl _ _ _ _) (fun i h1 h2 => absurd h1 h2)
    rw [hsame]
    refine hs.congr fun i => ?_
    simp only [Tr.puts, Tr.get_put]
    split
    · rename_i e; rw [e, hid']
    · rfl
  · rcases f2 with hk0 | ⟨ad, rfl, vs, f3, f4, f5⟩
    · exact absurd (by omega : min k n = 0) h0
    generalize hav : a.eval x = xv at hxx
    cases hxx
    rotate_left
    · omega
    rename_i b' c q1 q2 q3 q4
    have hb' : γ id = some b' := by assumption
    rw [hb] at hb'; cases hb'
    have hvone : ∀ v, v ∈ vs.take (min k n * ei.size) → v.oneCell' = true := fun v hv => by
      have hv := List.mem_of_mem_take hv
      obtain ⟨j, hj, rfl⟩ := List.getElem_of_mem hv
      exact (f5 j l[j] _ (List.getElem?_eq_getElem (by omega)) (List.getElem?_eq_getElem hj)).oneCell (oneAll_spec hone _ (List.getElem_mem _))
    have hvl : (vs.take (min k n * ei.size)).length = min k n * ei.size := by
      have : min k n * ei.size ≤ k * ei.size := Nat.mul_le_mul_right _ (Nat.min_le_left _ _)
      simp; omega
    have hfc := run_firstCells_some (P := E.P) w ei.size (min k n) ad k c2 (vs.take (min k n * ei.size)) hvl (fun j v h => by
      rw [List.getElem?_take] at h
      split at h
      · exact f4 j v h
      · cases h)
    obtain ⟨w', arr', h1, h2, h3, h4, h5, h6, h7, h8, h9⟩ := run_storeCells E.P (b := b) (ty := ty) (vs.take (min k n * ei.size)) w arr (base + start * sz) 0 harr hvone (by omega)
    have hrun : (Builtin.copy_ #[t, tx] o.type #[a.eval x, a.eval y]).run E.P w = .ok (.int .i64 (min k n : Nat)) w' := by
      rw [hav, f1]
      have hmin : Nat.min k n = min k n := rfl
      simp only [Builtin.copy_, Sem.run_bind, run_und ok hut, Result.andThen_ok, Builtin.lenOf, Sem.run_pure, run_size ok hei, hmin, hfc, List.getElem?_toArray, List.getElem?_cons_zero, List.getElem?_cons_succ]
      rw [h1]; rfl
    have hshape := shape_of_cells harr h2 h3 h5
    refine owp_value (key a w w' _ hrun) ?_ R
    refine hk _ _ Z γ .int ?_ (Stp.turn (i := id) (by simp) hb h4 h5 hshape h6 h7 h8) (fun i h1 h2 => absurd h1 h2)
    refine hs.turn hid' rfl hb h4 h5 hshape ⟨arr', h2, by rw [splice_length hle]; omega, fun j c v hj hv => ?_⟩
    rw [splice_get hle] at hj
    rw [h9] at hv
    have hmono : ∀ {c v}, VRel Z w γ c v → VRel Z w' γ c v := fun h => h.mono (fun q hq => ⟨hq, h5 q (fun e => hzb (e ▸ hq))⟩) (fun _ _ h => h) (fun _ q _ => hshape q)
    simp only [Nat.add_zero, hvl] at hv
    rw [hm] at hj
    by_cases hin : base + start * sz ≤ j ∧ j < base + start * sz + min k n * ei.size
    · rw [if_pos hin] at hj hv
      obtain ⟨_, hj'⟩ := take_get' hj
      rw [List.getElem?_take, if_pos (by omega)] at hv
      exact hmono (f5 _ _ _ hj' hv)
    · rw [if_neg hin] at hj hv
      exact hmono (hrel j c v hj hv)

/-! #### maps -/
def mmapF (E : Env) (t : TypeId) (hint : Option AV) (nid : Nat) : Option Out :=
  match hint with
  | none => some ⟨none, [], .mp nid, [(nid, .obj (fun o => o = .map #[] 0))]⟩
  | some (.int _ _ _) => match E.und t with
    | some (.map _ _) => some ⟨none, [], .mp nid, [(nid, .obj (fun o => o = .map #[] 0))]⟩
    | _ => none
  | _ => none

include ok in
theorem valid_mmap {o : Oper} {t : TypeId} {x : Option Operand} (h : o.op = .makeMap t x) (ρ : Operand → AV) (H : Heap) (nid : Nat) {u : Out} (hu : mmapF E t (optAV ρ x) nid = some u) :
    Valid E.P o ρ H nid u ∧ (∀ p, p ∈ u.wr → p.1 = nid) ∧ u.nd = [] := by
  have fin : ∀ (hr : ∀ Z γ w (a : Act), (∀ x, VRel Z w γ (ρ x) (a.eval x)) → (execOp a.eval o).run E.P w = .ok (.value (.map (some w.heap.size))) (w.alloc (.map #[] 0))) (hu : u = ⟨none, [], .mp nid, [(nid, .obj (fun o => o = .map #[] 0))]⟩),
      Valid E.P o ρ H nid u ∧ (∀ p, p ∈ u.wr → p.1 = nid) ∧ u.nd = [] := by
    intro hr hu
    subst hu
    refine ⟨valid_new rfl fun Z γ H' w a hs hx hn hg => ⟨.map (some w.heap.size), .map #[] 0, ?_, .mp (by simp [upd]), hr Z γ w a hx⟩, fun p hp => by simp at hp; subst hp; rfl, rfl⟩
    exact ⟨_, heap_alloc_new _ _, (fun c t f hh => by cases hh), rfl⟩
  unfold mmapF at hu
  cases x with
  | none =>
    simp only [optAV] at hu
    cases hu
    exact fin (fun Z γ w a hx => by simp only [execOp, h, Option.map_none, Instr.makeMap, Sem.run_bind, Sem.run_pure, run_newObj, Result.andThen_ok]; rfl) rfl
  | some p =>
    simp only [optAV] at hu
    split at hu
    · rename_i hq; cases hq
    · rename_i l k n hq
      have hq : ρ p = .int l k n := (Option.some.inj hq)
      split at hu
      · rename_i kt et hut
        cases hu
        refine fin (fun Z γ w a hx => ?_) rfl
        have hp := hx p
        rw [hq] at hp
        generalize hv : a.eval p = v at hp
        cases hp
        simp only [execOp, h, Option.map_some, hv, Instr.makeMap, Sem.run_bind, run_und ok hut, asInt, asIntOf, Sem.run_pure, run_newObj, Result.andThen_ok]; rfl
      · cases hu
    · cases hu

end
end Go.Sx
