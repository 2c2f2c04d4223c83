/- Part of an own symbolic executor for the model's code, proved sound, and of the proof of one statement (see the text of the claimed theorem). -/
import Derived.Test.YtkpkfccgbehilaaGreatDoorBoC16
import Derived.Test.YtkpkfccgbehilaaGreatDoorSxAH
namespace Go.Sx
open Go.Proofs

/-! # The plain law: a config that may be, by the reference, has a net; what it is told takes what the reference tells -/
theorem nb_f {x : Int} (h : ¬ (x != 0) = true) : x = 0 := by simpa using h

structure Fine (c : Cfg) : Prop where
  nodes : 4 ≤ c.nodes ∧ c.nodes ≤ 16
  np : 2 ≤ c.np ∧ c.np ≤ 8
  prs : prs c 0 c.np = true
  ns : 1 ≤ c.ns ∧ c.ns ≤ 16
  sl : rslv c = true
  long : w6 c = 0
  nb : (c.nb : Int) = c.nodes
  boots : each c.boots 0 4096 0 c.nb = 0
  nst : c.nst ≤ 8
  sts : rsts c 0 c.nst = 0
  miss : 1 ≤ c.miss ∧ c.miss ≤ 100
  good : 1 ≤ c.good ∧ c.good ≤ 100
  fresh : 1 ≤ c.fresh ∧ c.fresh ≤ 100

theorem within_ne {x lo hi : Int} : ¬ (within x lo hi != 0) = true → lo ≤ x ∧ x ≤ hi := fun h => within_0.1 (nb_f h)

theorem bif_0 {b : Bool} {v e : Int} (h : (bif b then v else e) = 0) (hv : b = true → v ≠ 0) : b = false ∧ e = 0 := by
  cases b with
  | true => exact absurd h (hv rfl)
  | false => exact ⟨rfl, h⟩

theorem ne_of {v : Int} : (v != 0) = true → v ≠ 0 := fun h => by simpa using h

theorem fine_of {c : Cfg} (h : refE c = 0) : Fine c := by
  unfold refE at h
  obtain ⟨a0, h⟩ := bif_0 h ne_of
  obtain ⟨a1, h⟩ := bif_0 h ne_of
  obtain ⟨a2, h⟩ := bif_0 h (fun _ => by decide)
  obtain ⟨a3, h⟩ := bif_0 h ne_of
  obtain ⟨a4, h⟩ := bif_0 h (fun _ => by decide)
  obtain ⟨a5, h⟩ := bif_0 h ne_of
  obtain ⟨a6, h⟩ := bif_0 h (fun _ => by decide)
  obtain ⟨a7, h⟩ := bif_0 h ne_of
  obtain ⟨a8, h⟩ := bif_0 h ne_of
  obtain ⟨a9, h⟩ := bif_0 h ne_of
  obtain ⟨a10, h⟩ := bif_0 h ne_of
  obtain ⟨a11, h⟩ := bif_0 h ne_of
  obtain ⟨a12, _⟩ := bif_0 h ne_of
  have b1 := within_0.1 (bne_f a1)
  have b3 := within_0.1 (bne_f a3)
  have b8 := within_0.1 (bne_f a8)
  exact ⟨within_0.1 (bne_f a0), by omega, by simpa using a2, by omega, by simpa using a4, bne_f a5, bne_f a6, bne_f a7, by omega, bne_f a9, within_0.1 (bne_f a10), within_0.1 (bne_f a11), within_0.1 (bne_f a12)⟩

theorem prs_all {c : Cfg} : ∀ {m i : Nat}, prs c i m = true → ∀ j, i ≤ j → j < i + m → bad c j = false
  | 0, i, _, j, h1, h2 => by omega
  | m + 1, i, h, j, h1, h2 => by
    simp only [prs] at h
    cases hb : bad c i with
    | true => rw [hb] at h; cases h
    | false =>
      rw [hb] at h
      by_cases e : j = i
      · rw [e]; exact hb
      · exact prs_all h j (by omega) (by omega)

theorem usd_1 {c : Cfg} : ∀ {i j : Nat}, j < i → usd c i (0 + (c.pairs j).toNat) = true ∧ usd c i (0 + (pb c j).toNat) = true
  | i + 1, j, h => by
    have up : ∀ (u : Nat → Bool) (e k : Nat), u k = true → updB u e k = true := fun u e k hu => by
      unfold updB; split <;> first | rfl | exact hu
    have self : ∀ (u : Nat → Bool) (e : Nat), updB u e e = true := fun u e => by
      unfold updB; simp
    simp only [usd]
    by_cases e : j = i
    · subst e
      exact ⟨up _ _ _ (self _ _), self _ _⟩
    · have := usd_1 (c := c) (i := i) (j := j) (by omega)
      exact ⟨up _ _ _ (up _ _ _ this.1), up _ _ _ (up _ _ _ this.2)⟩

structure Good (c : Cfg) (j : Nat) : Prop where
  lo : 0 ≤ c.pairs j
  hi : c.pairs j < c.nodes
  up : 0 < j → c.pairs (j - 1) < c.pairs j
  ua : usd c j (0 + (c.pairs j).toNat) = false
  ub : usd c j (0 + (pb c j).toNat) = false

theorem good_of {c : Cfg} {j : Nat} (h : bad c j = false) : Good c j := by
  unfold bad at h
  simp only [Bool.or_eq_false_iff, Bool.and_eq_false_iff, decide_eq_false_iff_not] at h
  obtain ⟨h1, h2, h3, h4, h5⟩ := h
  exact ⟨by omega, by omega, fun h0 => by omega, h4, h5⟩

theorem hv_even {c : Cfg} {j : Nat} (h : j % 2 = 0) : hv c j = c.pairs (j / 2) := by
  unfold hv; rw [h]; rfl
theorem hv_odd {c : Cfg} {j : Nat} (hn : 4 ≤ c.nodes ∧ c.nodes ≤ 16) (g : Good c (j / 2)) (h : j % 2 = 1) : hv c j = pb c (j / 2) := by
  unfold hv; rw [h]
  show step c.nodes 0 (c.pairs (j / 2)) 1 = _
  rw [step_1 hn.1 hn.2 g.lo g.hi, (pb_in hn.1 hn.2 g.lo g.hi).1]

theorem hv_ne {c : Cfg} (f : Fine c) {p q : Nat} (hpq : p < q) (hq : q < 2 * c.np) : hv c p ≠ hv c q := by
  have gd : ∀ j, j < c.np → Good c j := fun j hj => good_of (prs_all f.prs j (by omega) (by omega))
  have gp := gd (p / 2) (by omega)
  have gq := gd (q / 2) (by omega)
  have bp := pb_in f.nodes.1 f.nodes.2 gp.lo gp.hi
  have bq := pb_in f.nodes.1 f.nodes.2 gq.lo gq.hi
  by_cases e : p / 2 = q / 2
  · rw [hv_even (j := p) (by omega), hv_odd (j := q) f.nodes gq (by omega), e, bq.1]
    have := gq.lo; have := gq.hi; have := f.nodes
    by_cases ec : c.pairs (q / 2) + 1 = c.nodes
    · rw [ec, Int.emod_self]; omega
    · rw [Int.emod_eq_of_lt (by omega) (by omega)]; omega
  · have hu := usd_1 (c := c) (i := q / 2) (j := p / 2) (by omega)
    intro he
    have hx : ∀ x y : Int, 0 ≤ x → usd c (q / 2) (0 + x.toNat) = true → usd c (q / 2) (0 + y.toNat) = false → x ≠ y := fun x y _ h1 h2 e => by
      rw [e, h2] at h1; cases h1
    have c1 : ∀ j, j = p → (hv c j = c.pairs (p / 2) ∨ hv c j = pb c (p / 2)) := fun j e => by
      subst e
      by_cases h : j % 2 = 0
      · exact .inl (hv_even h)
      · exact .inr (hv_odd f.nodes gp (by omega))
    have c2 : hv c q = c.pairs (q / 2) ∨ hv c q = pb c (q / 2) := by
      by_cases h : q % 2 = 0
      · exact .inl (hv_even h)
      · exact .inr (hv_odd f.nodes gq (by omega))
    rcases c1 p rfl with h1 | h1 <;> rcases c2 with h2 | h2 <;> rw [h1, h2] at he
    · exact hx _ _ gp.lo hu.1 gq.ua he
    · exact hx _ _ gp.lo hu.1 gq.ub he
    · exact hx _ _ bp.2.1 hu.2 gq.ua he
    · exact hx _ _ bp.2.1 hu.2 gq.ub he

theorem sgl_of {l : Nat → Int} {n : Nat} (h : ∀ p q, p < q → q < n → l p ≠ l q) : sgl l n = true := by
  unfold sgl
  have hnd : ((List.range n).map l).Nodup := by
    unfold List.Nodup
    rw [List.pairwise_iff_getElem]
    intro i j hi hj hij
    simp at hi hj
    simpa using h i j hij hj
  generalize hS : ((List.range n).map l).mergeSort (fun x y => decide (x ≤ y)) = S
  have hp : S.Perm ((List.range n).map l) := hS ▸ List.mergeSort_perm _ _
  have hl : S.length = n := by rw [hp.length_eq]; simp
  have hSn : S.Nodup := hp.nodup_iff.2 hnd
  have e : compZs (fun i => [.int false .i64 (srtd ((List.range n).map l) i)]) n = S := by
    apply List.ext_getElem
    · simp [compZs, hl]
    · intro i h1 h2
      simp [compZs, geti, srtd, hS, h2]
  rw [e, Lib.compact_all S (fun j hj => ?_)]
  · simp [hl]
  · by_cases h0 : j = 0
    · subst h0; exact Lib.keeps_lt_one _ 0 (by omega)
    · apply Lib.keeps_pos
      have hj' : j - 1 < S.length := by omega
      intro he
      have := (List.pairwise_iff_getElem.1 hSn) (j - 1) j hj' hj (by omega)
      apply this
      simpa [getElem!_pos, hj, hj'] using he.symm

theorem srt_of {l : Nat → Int} : ∀ {m : Nat}, (∀ j, 0 < j → j ≤ m → l (j - 1) < l j) → srt l m = true
  | 0, _ => rfl
  | m + 1, h => by
    have := h (m + 1) (by omega) (by omega)
    simp only [Nat.add_sub_cancel] at this
    unfold srt
    rw [show decide (l (m + 1) < l m) = false by simp; omega]
    exact srt_of fun j h1 h2 => h j h1 (by omega)

theorem r3_of {c : Cfg} (f : Fine c) : r3 c = 0 := by
  have gd : ∀ j, j < c.np → Good c j := fun j hj => good_of (prs_all f.prs j (by omega) (by omega))
  unfold r3
  rw [must_0, inP_t.2 fun j hj => ⟨(gd j hj).lo, (gd j hj).hi⟩, srt_of (fun j h1 h2 => (gd j (by have := f.np; omega)).up h1), sgl_of fun p q h1 h2 => hv_ne f h1 h2]
  rfl

theorem sls_all {c : Cfg} : ∀ {m i : Nat}, sls c i m = true → ∀ j, i ≤ j → j < i + m → 0 ≤ c.slots j ∧ c.slots j < (c.np : Int)
  | 0, i, _, j, h1, h2 => by omega
  | m + 1, i, h, j, h1, h2 => by
    simp only [sls] at h
    cases hb : sbad c i with
    | true => rw [hb] at h; cases h
    | false =>
      rw [hb] at h
      by_cases e : j = i
      · rw [e]; unfold sbad at hb; simp only [Bool.or_eq_false_iff, decide_eq_false_iff_not] at hb; omega
      · exact sls_all h j (by omega) (by omega)

theorem alls_all {u : Nat → Bool} : ∀ {m i : Nat}, alls u i m = true → ∀ j, i ≤ j → j < i + m → u j = true
  | 0, i, _, j, h1, h2 => by omega
  | m + 1, i, h, j, h1, h2 => by
    simp only [alls] at h
    cases hb : u (0 + i) with
    | false => rw [hb] at h; cases h
    | true =>
      rw [hb] at h
      by_cases e : j = i
      · rw [e]; simpa using hb
      · exact alls_all h j (by omega) (by omega)

theorem slu_ex {c : Cfg} : ∀ {i k : Nat}, slu c i k = true → ∃ j, j < i ∧ k = (c.slots j).toNat
  | 0, k, h => by cases h
  | i + 1, k, h => by
    simp only [slu, updB] at h
    by_cases e : k = 0 + (c.slots i).toNat
    · exact ⟨i, by omega, by omega⟩
    · have : Nat.beq k (0 + (c.slots i).toNat) = false := by
        cases hb : Nat.beq k (0 + (c.slots i).toNat) with
        | false => rfl
        | true => exact absurd (Nat.eq_of_beq_eq_true hb) e
      rw [this] at h
      obtain ⟨j, h1, h2⟩ := slu_ex h
      exact ⟨j, by omega, h2⟩

theorem allc_t {c : Cfg} {b : Bool} (hb : b = true) : ∀ {n : Nat}, (∀ p, p < n → has c p = true) → allc b c n = true
  | 0, _ => hb
  | n + 1, h => by
    unfold allc
    rw [allc_t hb fun p hp => h p (by omega)]
    exact h n (by omega)

theorem r5_of {c : Cfg} (f : Fine c) : r5 c = 0 := by
  have hs := f.sl
  unfold rslv at hs
  rw [Bool.and_eq_true] at hs
  have hin := sls_all hs.1
  unfold r5
  rw [must_0]
  refine allc_t ?_ fun p hp => ?_
  · unfold insC
    rw [decide_eq_true_iff, findI_neg]
    intro j _ hj
    have := hin j (by omega) (by omega)
    unfold outB; simp; omega
  · have hu := alls_all hs.2 p (by omega) (by omega)
    obtain ⟨j, h1, h2⟩ := slu_ex hu
    have hj := hin j (by omega) (by omega)
    unfold has
    rw [Bool.not_eq_true', decide_eq_false_iff_not, findI_neg]
    intro h
    have := h j (by omega) (by omega)
    rw [beq_eq_false_iff_ne] at this
    exact this (by simp; omega)

theorem r6_of {c : Cfg} (f : Fine c) : r6 c = 0 := by
  have hn := f.nodes
  have h := f.long
  unfold w6 at h
  unfold r6
  rw [wrap_i64 (x := c.nodes + 116) (by omega) (by omega)] at h
  rw [wrap_i64 (x := c.nodes + 114) (by omega) (by omega), wrap_i64 (x := c.nodes + 114 + 2) (by omega) (by omega), show c.nodes + 114 + 2 = c.nodes + 116 by omega]
  exact h

theorem long_of {c : Cfg} (f : Fine c) : 1 ≤ c.long ∧ c.long ≤ 4096 := by
  have hn := f.nodes
  have h := within_0.1 f.long
  rw [wrap_i64 (x := c.nodes + 116) (by omega) (by omega)] at h
  refine ⟨?_, h.2⟩
  have h1 := h.1
  unfold mnmx at h1
  simp only at h1
  split at h1 <;> omega

theorem r9_of {c : Cfg} (f : Fine c) : r9 c = 0 := by
  have key : ∀ m i, sts c i m = rsts c i m := by
    intro m
    induction m with
    | zero => intro i; rfl
    | succ m ih =>
      intro i
      have e : st9 c i = rst c i := by
        unfold st9 rst first2 must
        by_cases h1 : c.sa i < 0
        · simp [h1, show ¬ (0 ≤ c.sa i) by omega]
        · by_cases h2 : c.sa i ≥ c.nodes
          · simp [h1, h2, show ¬ (c.sa i < c.nodes) by omega]
          · simp [h1, h2, show 0 ≤ c.sa i by omega, show c.sa i < c.nodes by omega]
      simp only [sts, rsts, e, ih]
  unfold r9
  rw [key]
  exact f.sts

theorem newE_of {c : Cfg} (f : Fine c) : newE c = 0 := by
  have e1 : r1 c = 0 := within_0.2 f.nodes
  have e2 : r2 c = 0 := within_0.2 (by have := f.np; omega)
  have e4 : r4 c = 0 := within_0.2 (by have := f.ns; omega)
  have e7 : r7 c = 0 := by
    unfold r7
    rw [f.boots, show decide ((c.nb : Int) = c.nodes) = true by simpa using f.nb]
    rfl
  have e8 : r8 c = 0 := within_0.2 (by have := f.nst; omega)
  have e10 : r10 c = 0 := by
    unfold r10
    show (bif within c.miss 1 100 != 0 then within c.miss 1 100 else bif within c.good 1 100 != 0 then within c.good 1 100 else bif within c.fresh 1 100 != 0 then within c.fresh 1 100 else 0) = 0
    rw [within_0.2 f.miss, within_0.2 f.good, within_0.2 f.fresh]
    rfl
  unfold newE
  rw [c_f e1, c_f e2, c_f (r3_of f), c_f e4, c_f (r5_of f), c_f (r6_of f), c_f e7, c_f e8, c_f (r9_of f), e10]

theorem each_all {l : Nat → Int} {lo hi : Int} : ∀ {m i : Nat}, each l lo hi i m = 0 → ∀ j, i ≤ j → j < i + m → lo ≤ l j ∧ l j ≤ hi
  | 0, i, _, j, h1, h2 => by omega
  | m + 1, i, h, j, h1, h2 => by
    simp only [each] at h
    obtain ⟨a, b⟩ := bif_0 h ne_of
    by_cases e : j = i
    · rw [e]; exact within_0.1 (bne_f a)
    · exact each_all b j (by omega) (by omega)

theorem btl_mxs {c : Cfg} : ∀ {n : Nat}, (∀ j, j < n + 1 → 0 ≤ c.boots j) → btl c (n + 1) = mxs c.boots n
  | 0, h => by
    have := h 0 (by omega)
    unfold btl btl mxs mnmx
    simp only
    split <;> omega
  | n + 1, h => by
    have ih := btl_mxs (c := c) (n := n) fun j hj => h j (by omega)
    rw [btl, ih]; rfl

theorem rdl_eq {c : Cfg} (f : Fine c) : ∀ {i : Nat}, i ≤ 16 → rdl c i = (i : Int) * c.long
  | 0, _ => by simp [rdl]
  | i + 1, h => by
    have hl := long_of f
    unfold rdl
    rw [rdl_eq f (by omega)]
    have e : (i : Int) * c.long + c.long = ((i + 1 : Nat) : Int) * c.long := by
      rw [Int.natCast_add, Int.add_mul]; simp
    have h1 : 0 ≤ ((i + 1 : Nat) : Int) * c.long := Int.mul_nonneg (by omega) (by omega)
    have h2 : ((i + 1 : Nat) : Int) * c.long ≤ 16 * 4096 := Int.mul_le_mul (by omega) hl.2 (by omega) (by omega)
    rw [e, wrap_i64 (by omega) (by omega)]

structure Same (c : Cfg) : Prop where
  st : stv c = rsv c
  hd : hdv c = rhv c
  ag : agv c = rav c
  ot : otv c = rov c
  inn : inv c = riv c
  tk : tkv c = rtv c
  fr : frv c = rfv c
  rd : rdv c ≠ 0
  nb : 0 < c.nb

theorem mul_in {m r : Int} (h1 : 0 ≤ m) (h2 : m ≤ 101) (h3 : 0 ≤ r) (h4 : r ≤ 65536) : 0 ≤ m * r ∧ m * r ≤ 101 * 65536 :=
  ⟨Int.mul_nonneg h1 h3, Int.mul_le_mul h2 h4 h3 (by omega)⟩

theorem same_of {c : Cfg} (f : Fine c) : Same c := by
  have hn := f.nodes
  have hl := long_of f
  have hb : ∀ j, j < c.nb → 0 ≤ c.boots j := fun j hj => (each_all f.boots j (by omega) (by omega)).1
  have hnb : 0 < c.nb := by have := f.nb; omega
  have hR : rdl c c.ns = (c.ns : Int) * c.long := rdl_eq f f.ns.2
  have hns := f.ns
  have h0 : 1 * 1 ≤ (c.ns : Int) * c.long := Int.mul_le_mul (by omega) hl.1 (by omega) (by omega)
  have h1 : (c.ns : Int) * c.long ≤ 16 * 4096 := Int.mul_le_mul (by omega) hl.2 (by omega) (by omega)
  have hD : rdv c = (c.ns : Int) * c.long := wrap_i64 (by omega) (by omega)
  have hs : stv c = rsv c := by
    obtain ⟨n, e⟩ : ∃ n, c.nb = n + 1 := ⟨c.nb - 1, by omega⟩
    unfold stv rsv
    rw [e, btl_mxs fun j hj => hb j (by omega)]
    rfl
  have hh : hdv c = rhv c := by unfold hdv rhv; rw [hs]
  generalize (c.ns : Int) * c.long = r at h0 h1 hD hR
  have ml : ∀ m : Int, 1 ≤ m → m ≤ 100 → IntKind.wrap .i64 (IntKind.wrap .i64 (m + 1) * rdv c) = IntKind.wrap .i64 (IntKind.wrap .i64 (m * rdl c c.ns) + rdl c c.ns) := fun m h2 h3 => by
    have a := mul_in (m := m) (r := r) (by omega) (by omega) (by omega) (by omega)
    rw [hD, hR, wrap_i64 (x := m + 1) (by omega) (by omega), wrap_i64 (x := m * r) (by omega) (by omega), Int.add_mul, Int.one_mul]
  have ho : otv c = rov c := ml _ f.miss.1 f.miss.2
  refine ⟨hs, hh, ?_, ho, ml _ f.good.1 f.good.2, ?_, ?_, by omega, hnb⟩
  · unfold agv rav; rw [hh, hD, hR]
  · unfold tkv rtv; rw [ho, hD, hR]
  · unfold frv rfv
    rw [wrap_i64 (x := c.long + c.nodes) (by omega) (by omega), wrap_i64 (x := 2 * c.long) (by omega) (by omega), wrap_i64 (x := 2 * c.nodes) (by omega) (by omega), Int.mul_add]
end Go.Sx

namespace Go.Sx
open Go.Proofs
set_option maxRecDepth 1000000

theorem Wk.cfg0 {nodes np cp fp ns cs fs long nb cb fb nst ct ft miss good fresh} (h : Ints .i64 fp np ∧ Ints .i64 fs ns ∧ Ints .i64 fb nb ∧ Ints3 .i64 .u32 .i64 ft nst) :
    WkL [.int false .i64 nodes, .isl 1 np cp fp, .isl 1 ns cs fs, .int false .i64 long, .isl 1 nb cb fb, .isl 3 nst ct ft, .int false .i64 miss, .int false .i64 good, .int false .i64 fresh] (cfg9 nodes np fp ns fs long nb fb nst ft miss good fresh).cells :=
  .cons (.refl _) (.cons (.trans .cap (Wk.isl h.1)) (.cons (.trans .cap (Wk.isl h.2.1)) (.cons (.refl _) (.cons (.trans .cap (Wk.isl h.2.2.1)) (.cons (.trans .cap (Wk.isl h.2.2.2)) (.cons (.refl _) (.cons (.refl _) (.cons (.refl _) .nil))))))))
/-- more than is gone through -/
def grt (c : Cfg) : Bool := decide ((c.np : Int) > 60) || (decide ((c.ns : Int) > 60) || (decide ((c.nb : Int) > 60) || decide ((c.nst : Int) > 60)))
def noNet (c : Cfg) : Bool := grt c || refE c != 0
theorem small_of {c : Cfg} (h : grt c = false) : c.ok := by
  unfold grt at h
  simp only [Bool.or_eq_false_iff, decide_eq_false_iff_not] at h
  refine CfgOk.of c ?_
  unfold Len
  omega

noncomputable abbrev greatI : Nat × SC := (20, sexec E0 (FE (fun _ _ => False) [] []) Tryz.f20 [])
theorem greatI_ok : SOK E0 20 greatI.2 :=
  fun_ok (FE_ok E0_ok .nil .nil) T0_ok (f := 20) (fn := Tryz.f20) (by kernel_rfl) (ls := []) .nil

/-! ## sennit/sennitlaw06.Net -/
def netP : SCP := fun args L k => match args, L with
  | [.agg [.int false .i64 nodes, .isl 1 np _ fp, .isl 1 ns _ fs, .int false .i64 long, .isl 1 nb _ fb, .isl 3 nst _ ft, .int false .i64 miss, .int false .i64 good, .int false .i64 fresh]], [] => (Ints .i64 fp np ∧ Ints .i64 fs ns ∧ Ints .i64 fb nb ∧ Ints3 .i64 .u32 .i64 ft nst) ∧ bcase (noNet (cfg9 nodes np fp ns fs long nb fb nst ft miss good fresh)) (k .nilp .e 0) (k (netAV (cfg9 nodes np fp ns fs long nb fb nst ft miss good fresh) (parts (cfg9 nodes np fp ns fs long nb fb nst ft miss good fresh))) .e 0)
  | _, _ => False
theorem net_sx (c : Cfg) (k : AV → Heap → Nat → Prop) : gcSC (sexec E0 (FE (fun _ _ => False) [rnewC, newC] [greatI]) Tryz.f4 []) [.agg c.cells] .e 0 k =
    (bcase (decide ((c.np : Int) > 60)) (k .nilp .e 0) (bcase (decide ((c.ns : Int) > 60)) (k .nilp .e 0) (bcase (decide ((c.nb : Int) > 60)) (k .nilp .e 0) (bcase (decide ((c.nst : Int) > 60)) (k .nilp .e 0) (c.ok ∧ bcase (refE c != 0) (k .nilp .e 0) (c.ok ∧ bcase (newE c != 0) (k .nilp .e 0) (k (netAV c (parts c)) .e 0))))))) := by kernel_rfl
theorem net_ok : SOK E0 4 (scN 0 netP) :=
  (gcSC_ok (fun_ok (FE_ok E0_ok (.cons rnewC_ok (.cons newC_ok .nil)) (.cons (f := 20) (sc := greatI.2) greatI_ok .nil)) T0_ok (f := 4) (fn := Tryz.f4) (by kernel_rfl) (ls := []) .nil)).spec0 fun args L k h => by
    unfold netP at h; split at h
    · rename_i nodes np cp fp ns cs fs long nb cb fb nst ct ft miss good fresh
      obtain ⟨hc, h⟩ := h
      refine ⟨rfl, _, .cons (Wk.cfg0 hc).agg .nil, ?_⟩
      rw [net_sx]
      revert h
      generalize cfg9 nodes np fp ns fs long nb fb nst ft miss good fresh = g
      intro h
      have hn : noNet g = true → ∃ r', Wk .nilp r' ∧ k r' .e 0 := fun hb => by rw [hb] at h; exact ⟨_, .refl _, h⟩
      unfold noNet grt at hn
      refine bc_i (fun b => hn (by rw [b]; rfl)) fun b1 => bc_i (fun b => hn (by rw [b1, b]; rfl)) fun b2 => bc_i (fun b => hn (by rw [b1, b2, b]; rfl)) fun b3 => bc_i (fun b => hn (by rw [b1, b2, b3, b]; rfl)) fun b4 => ?_
      have hg : grt g = false := by unfold grt; rw [b1, b2, b3, b4]; rfl
      refine ⟨small_of hg, bc_i (fun b => hn (by rw [b1, b2, b3, b4, b]; rfl)) fun b5 => ?_⟩
      have hb : noNet g = false := by unfold noNet; rw [hg, b5]; rfl
      rw [hb] at h
      exact ⟨small_of hg, bc_f (bne_f' (newE_of (fine_of (bne_f b5)))) ⟨_, .refl _, h⟩⟩
    · exact h.elim
noncomputable abbrev netC : Nat × FC := (4, vcall (clrSC (scN 0 netP)))
theorem netC_ok : FOK E0 4 (vcall (clrSC (scN 0 netP))) := vcall_ok (clrSC_ok net_ok)

noncomputable def FL : Fs := fsOf E1 FT0 64 (fun _ => true) (FE (fun _ _ => False) [] []) 30
theorem FL_ok : FsEnv E1 FL := fsOf_ok E1_ok T0_ok 64 _ (FE_ok E1_ok .nil .nil) 30
theorem lives_sx (k : AV → Heap → Nat → Prop) : gcSC (sexec E1 FL Tryz.f5 []) [] .e 0 k = k (.bool true) .e 0 := by kernel_rfl
def livesP : SCP := fun args L k => match args, L with
  | [], [] => k (.bool true) .e 0
  | _, _ => False
theorem lives_ok : SOK E0 5 (scN 0 livesP) :=
  (SOK.env (E := E0) (E' := E1) rfl rfl (gcSC_ok (fun_ok FL_ok T0_ok (f := 5) (fn := Tryz.f5) (by kernel_rfl) (ls := []) .nil))).spec0 fun args L k h => by
    unfold livesP at h; split at h
    · refine ⟨rfl, _, .nil, ?_⟩
      rw [lives_sx]
      exact ⟨_, .refl _, h⟩
    · exact h.elim
noncomputable abbrev livesC : Nat × FC := (5, vcall (clrSC (scN 0 livesP)))
theorem livesC_ok : FOK E0 5 (vcall (clrSC (scN 0 livesP))) := vcall_ok (clrSC_ok lives_ok)

end Go.Sx

namespace Go.Sx
open Go.Proofs
set_option maxRecDepth 1000000

def isTrue : AV → Heap → Nat → Prop := fun r _ _ => r = .bool true
theorem law_sx (c : Cfg) (k : AV → Heap → Nat → Prop) : gcSC (sexec E0 (FE (fun _ _ => False) [netC, bstC, bhdC, bagC, botC, binC, btkC, bfrC, rstartC, rheardC, ragreedC, routC, rinC, rtakeC, rfreshC, livesC] []) Tryz.f3 []) [.agg c.cells] .e 0 k =
  ((Ints .i64 (fun j => [.int false .i64 (c.pairs j)]) c.np ∧ Ints .i64 (fun j => [.int false .i64 (c.slots j)]) c.ns ∧ Ints .i64 (fun j => [.int false .i64 (c.boots j)]) c.nb ∧ Ints3 .i64 .u32 .i64 (fun j => [.int false .i64 (c.sa j), .int false .u32 (c.sb j), .int false .i64 (c.sc j)]) c.nst) ∧ bcase (noNet c) (k (.bool true) .e 0) ((c.ok ∧ 0 < c.nodes.toNat ∧ rdv c ≠ 0 ∧ 0 < c.nb) ∧ c.ok ∧ bcase (stv c == rsv c) ((c.ok ∧ 0 < c.nodes.toNat ∧ rdv c ≠ 0 ∧ 0 < c.nb) ∧ c.ok ∧ bcase (hdv c == rhv c) ((c.ok ∧ 0 < c.nodes.toNat ∧ rdv c ≠ 0 ∧ 0 < c.nb) ∧ c.ok ∧ bcase (agv c == rav c) ((c.ok ∧ 0 < c.nodes.toNat ∧ rdv c ≠ 0) ∧ c.ok ∧ bcase (otv c == rov c) ((c.ok ∧ 0 < c.nodes.toNat ∧ rdv c ≠ 0) ∧ c.ok ∧ bcase (inv c == riv c) ((c.ok ∧ 0 < c.nodes.toNat ∧ rdv c ≠ 0) ∧ c.ok ∧ bcase (tkv c == rtv c) ((c.ok ∧ 0 < c.nodes.toNat ∧ rdv c ≠ 0) ∧ c.ok ∧ bcase (frv c == rfv c) (k (.bool true) .e 0) (k (.bool false) .e 0)) (k (.bool false) .e 0)) (k (.bool false) .e 0)) (k (.bool false) .e 0)) (k (.bool false) .e 0)) (k (.bool false) .e 0)) (k (.bool false) .e 0))) := by kernel_rfl
theorem law_ok : SOK E0 3 (gcSC (sexec E0 (FE (fun _ _ => False) [netC, bstC, bhdC, bagC, botC, binC, btkC, bfrC, rstartC, rheardC, ragreedC, routC, rinC, rtakeC, rfreshC, livesC] []) Tryz.f3 [])) := gcSC_ok (fun_ok (FE_ok E0_ok (.cons netC_ok (.cons bstC_ok (.cons bhdC_ok (.cons bagC_ok (.cons botC_ok (.cons binC_ok (.cons btkC_ok (.cons bfrC_ok (.cons rstartC_ok (.cons rheardC_ok (.cons ragreedC_ok (.cons routC_ok (.cons rinC_ok (.cons rtakeC_ok (.cons rfreshC_ok (.cons livesC_ok .nil)))))))))))))))) .nil) T0_ok (f := 3) (fn := Tryz.f3) (by kernel_rfl) (ls := []) .nil)
theorem law_true (c : Cfg) : gcSC (sexec E0 (FE (fun _ _ => False) [netC, bstC, bhdC, bagC, botC, binC, btkC, bfrC, rstartC, rheardC, ragreedC, routC, rinC, rtakeC, rfreshC, livesC] []) Tryz.f3 []) [.agg c.cells] .e 0 isTrue := by
  rw [law_sx]
  refine ⟨⟨.of, .of, .of, fun _ _ => rfl⟩, bc_i (fun _ => rfl) fun b => ?_⟩
  unfold noNet at b
  rw [Bool.or_eq_false_iff] at b
  have hg : c.ok := small_of b.1
  have f : Fine c := fine_of (bne_f b.2)
  have s := same_of f
  have hN : 0 < c.nodes.toNat := by have := f.nodes; omega
  exact ⟨⟨hg, hN, s.rd, s.nb⟩, hg, bc_t (by rw [s.st]; simp) ⟨⟨hg, hN, s.rd, s.nb⟩, hg, bc_t (by rw [s.hd]; simp) ⟨⟨hg, hN, s.rd, s.nb⟩, hg, bc_t (by rw [s.ag]; simp) ⟨⟨hg, hN, s.rd⟩, hg, bc_t (by rw [s.ot]; simp) ⟨⟨hg, hN, s.rd⟩, hg, bc_t (by rw [s.inn]; simp) ⟨⟨hg, hN, s.rd⟩, hg, bc_t (by rw [s.tk]; simp) ⟨⟨hg, hN, s.rd⟩, hg, bc_t (by rw [s.fr]; simp) rfl⟩⟩⟩⟩⟩⟩⟩

/-- A run of the law. -/
theorem law_calls (c : Cfg) (v : Value) (w : World) (hg : GOk E0 (fun b => b < w.heap.size) w) (hv : VRel (fun b => b < w.heap.size) w noG (.agg c.cells) v) :
    Calls Tryz.prog 3 #[v] w fun e w' => e = .returned (.bool true) ∧ Grown w w' := by
  have he : ∀ i, (.e : Heap).get i = none := fun i => Tr.get_e i
  obtain ⟨r, H', nid', hk, _, hrun⟩ := law_ok.run [.agg c.cells] .e 0 isTrue (fun i _ => Tr.get_e i) (law_true c)
  refine (hrun (fun b => b < w.heap.size) noG w #[v] ⟨fun i ch hi => (by rw [he i] at hi; cases hi), fun i j ci cj b hi => (by rw [he i] at hi; cases hi), fun i b h => (by cases h), fun b hb => hb, fun _ _ => rfl⟩ hg rfl (fun i c' v' hc hv' => by
    rcases i with _ | i
    · simp at hc hv'; subst hc; subst hv'; exact hv
    · simp at hc)).mono ?_
  rintro e w' ⟨v, Z', γ', rfl, hr, _, hrn⟩
  obtain rfl : r = .bool true := hk
  cases hr
  exact ⟨rfl, hrn.size, fun b hb => hrn.keep b hb (fun i ⟨ch, hc, _⟩ => by rw [he i] at hc; cases hc), hrn.tape, hrn.os, hrn.output⟩

end Go.Sx
