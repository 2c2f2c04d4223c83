/- Part of an own symbolic executor for the model's code, proved sound, and of the proof of one statement (see the text of the claimed theorem). -/
import Derived.Test.YtkpkfccgbehilaaGreatDoorBoTab
import Derived.Test.YtkpkfccgbehilaaGreatDoorSxAK
import Derived.Test.YtkpkfccgbehilaaGreatDoorSxAM
namespace Go.Sx
open Go.Proofs
set_option maxRecDepth 1000000
noncomputable def E0 : Env := { P := Tryz.prog, tt := TT, G := [(0, [.int true .i64 1, .int true .i64 (-1)])], eqt := [], lit := false }
theorem mixed0 : Tryz.prog.follows .mixedOrders = true := by kernel_rfl
theorem eq0 : (E0.eqt.all fun t => !Tryz.prog.stoodInHeld t && !Tryz.prog.eqGuardType Tryz.prog.depth t) = true := by kernel_rfl
theorem E0_ok : E0.Ok where
  info := info_of TT_ok
  mixed := mixed0
  stood := fun t ht => by
    have := List.all_eq_true.1 eq0 t ht
    simp only [Bool.and_eq_true, Bool.not_eq_true'] at this
    exact this.1
  guard := fun t ht => by
    have := List.all_eq_true.1 eq0 t ht
    simp only [Bool.and_eq_true, Bool.not_eq_true'] at this
    exact this.2
theorem T0_ok : TabOk E0.P FT0 := tabOk_of FT0_ok
abbrev NoS : Op → List AV → Prop := fun _ _ => False

end Go.Sx

namespace Go.Sx
open Go.Proofs
set_option maxRecDepth 1000000

def within (x lo hi : Int) : Int := bif decide (x > hi) then 3 else bif decide (x < lo) then 1 else 0
/-! ## sennit/configs.within -/
def withinP : SCP := fun args L k => match args, L with
  | [.int false .i64 x, .int false .i64 lo, .int false .i64 hi], [] => k (.int false .i64 (within x lo hi)) .e 0
  | _, _ => False
theorem within_sx (x lo hi : Int) (k : AV → Heap → Nat → Prop) : gcSC (sexec E0 (FE (fun _ _ => False) [] []) Tryz.f43 []) [.int false .i64 x, .int false .i64 lo, .int false .i64 hi] .e 0 k =
    (bcase (decide (x > hi)) (k (.int true .i64 3) .e 0) (bcase (decide (x < lo)) (k (.int true .i64 1) .e 0) (k (.int true .i64 0) .e 0))) := by kernel_rfl
theorem within_ok : SOK E0 43 (scN 0 withinP) :=
  (gcSC_ok (fun_ok (FE_ok E0_ok .nil .nil) T0_ok (f := 43) (fn := Tryz.f43) (by kernel_rfl) (ls := []) .nil)).spec0 fun args L k h => by
    unfold withinP at h; split at h
    · refine ⟨rfl, _, .refl _, ?_⟩
      rw [within_sx]
      exact bc_i (fun c => kI h (by simp [within, c])) fun c => bc_i (fun d => kI h (by simp [within, c, d])) fun d => kI h (by simp [within, c, d])
    · exact h.elim
noncomputable abbrev withinC : Nat × FC := (43, vcall (clrSC (scN 0 withinP)))
theorem withinC_ok : FOK E0 43 (vcall (clrSC (scN 0 withinP))) := vcall_ok (clrSC_ok within_ok)

def each (l : Nat → Int) (lo hi : Int) : Nat → Nat → Int
  | _, 0 => 0
  | i, m + 1 => bif within (l i) lo hi != 0 then within (l i) lo hi else each l lo hi (i + 1) m
noncomputable def eachB : Code := loopB ((items (bodyOf Tryz.f56)).getD 0 .skip)

noncomputable def eachST (lo hi : Int) (n : Nat) (cap : Option Nat) (l : Nat → Int) (H : Heap) (nid : Nat) (i : Int) : St := ⟨putT [1, 2, 10, 11, 12, 6] [.int false .i64 lo, .int false .i64 hi, .isl 1 n cap (fun j => [.int false .i64 (l j)]), .int false .i64 (Int.ofNat n), .int false .i64 i, .int false .i64 0] .e, H, nid, 24, none⟩
theorem each_round (lo hi : Int) (n : Nat) (cap : Option Nat) (l : Nat → Int) (H : Heap) (nid : Nat) (i : Nat) (next : St → Prop) (K : Exit → List AV → Heap → Nat → Prop) :
  roundG E0 (FE (fun _ _ => False) [withinC] []) eachB [] (gcT [1, 2, 10, 11, 12, 6]) next (endK [6] 24 K) (eachST lo hi n cap l H nid (Int.ofNat i)) =
    (bcase (decide (Int.ofNat i < Int.ofNat n)) (bcase (decide (0 ≤ Int.ofNat i ∧ Int.ofNat i < (n : Int))) (bcase (within (l i) lo hi != 0) (K .ret [.int false .i64 (within (l i) lo hi)] H nid) (next (eachST lo hi n cap l H nid (IntKind.wrap .i64 (Int.ofNat i + 1))))) False) (K (.exit 0) [.int false .i64 0] H nid)) := by kernel_rfl

def eachL : LSC := fun args H nid K => match args with
  | [.int false .i64 lo, .int false .i64 hi, .isl 1 n _ f, .int false .i64 m, .int false .i64 i, .int false .i64 r] => (Ints .i64 f n ∧ Len n ∧ m = n ∧ i = 0 ∧ r = 0) ∧ bcase (each (geti f) lo hi 0 n != 0) (K .ret [.int false .i64 (each (geti f) lo hi 0 n)] H nid) (K (.exit 0) [.int false .i64 0] H nid)
  | _ => False
theorem eachL_ok : LSOK E0 false (.loop eachB) 24 [1, 2, 10, 11, 12, 6] [6] eachL :=
  LSOK.wk (ls' := fun args H nid K => ∃ (lo hi : Int) (n : Nat) (cap : Option Nat) (l : Nat → Int), Len n ∧ args = [.int false .i64 lo, .int false .i64 hi, .isl 1 n cap (fun j => [.int false .i64 (l j)]), .int false .i64 (Int.ofNat n), .int false .i64 (Int.ofNat 0), .int false .i64 0] ∧ bcase (each l lo hi 0 n != 0) (K .ret [.int false .i64 (each l lo hi 0 n)] H nid) (K (.exit 0) [.int false .i64 0] H nid))
    (fun args H nid K _ ⟨lo, hi, n, cap, l, hn, ha, hk⟩ => by
      subst ha
      refine loop_T (FE_ok E0_ok (.cons withinC_ok .nil) .nil) .nil [1, 2, 10, 11, 12, 6] (fun i => eachST lo hi n cap l H nid (Int.ofNat i)) (fun i => bcase (each l lo hi i (n - i) != 0) (K .ret [.int false .i64 (each l lo hi i (n - i))] H nid) (K (.exit 0) [.int false .i64 0] H nid)) n (fun i hi hd next hnx => ?_) (fun hd next => ?_) hk
      · rw [each_round]
        refine bc_t (lt_t hi) (bc_t (in_t hi) ?_)
        rw [wrap_succ hi hn]
        rw [show n - i = (n - (i + 1)) + 1 by omega] at hd
        refine bc_i (fun c => ?_) (fun c => hnx ?_)
        · simp only [each, c, cond_true] at hd; exact hd
        · simp only [each, c, cond_false] at hd; exact hd
      · rw [each_round]
        refine bc_f (lt_f (Nat.le_refl _)) ?_
        rw [Nat.sub_self] at hd; exact hd)
    fun args H nid K _ h => by
      unfold eachL at h; split at h
      · obtain ⟨⟨h1, h2, rfl, rfl, rfl⟩, h3⟩ := h
        exact ⟨_, .cons (.refl _) (.cons (.refl _) (.cons (Wk.isl h1) (.refl _))), _, _, _, _, _, h2, rfl, h3⟩
      · exact h.elim

/-! ## sennit/configs.each -/
def eachP : SCP := fun args L k => match args, L with
  | [.isl 1 n _ f, .int false .i64 lo, .int false .i64 hi], [] => (Ints .i64 f n ∧ Len n) ∧ k (.int false .i64 (each (geti f) lo hi 0 n)) .e 0
  | _, _ => False
theorem each_sx (lo hi : Int) (n : Nat) (cap : Option Nat) (l : Nat → Int) (k : AV → Heap → Nat → Prop) : gcSC (sexec E0 (FE (fun _ _ => False) [withinC] []) Tryz.f56 [LCd 24 [1, 2, 10, 11, 12, 6] [6] eachL]) [.isl 1 n cap (fun j => [.int false .i64 (l j)]), .int false .i64 lo, .int false .i64 hi] .e 0 k =
    ((Ints .i64 (fun j => [.int false .i64 (l j)]) n ∧ Len n ∧ (n : Int) = n ∧ (0 : Int) = 0 ∧ (0 : Int) = 0) ∧ bcase (each l lo hi 0 n != 0) (k (.int false .i64 (each l lo hi 0 n)) .e 0) (k (.int true .i64 0) .e 0)) := by kernel_rfl
theorem each_ok : SOK E0 56 (scN 0 eachP) :=
  (gcSC_ok (fun_ok (FE_ok E0_ok (.cons withinC_ok .nil) .nil) T0_ok (f := 56) (fn := Tryz.f56) (by kernel_rfl) (ls := [LCd 24 [1, 2, 10, 11, 12, 6] [6] eachL]) (by rw [show items (bodyOf Tryz.f56) = [.loop eachB] by kernel_rfl]; exact (.cons (LCd_ok eachL_ok) .nil)))).spec0 fun args L k h => by
    unfold eachP at h; split at h
    · obtain ⟨hc, h⟩ := h
      refine ⟨rfl, _, .cons (Wk.isl hc.1) (.refl _), ?_⟩
      rw [each_sx]
      exact ⟨⟨.of, hc.2, rfl, rfl, rfl⟩, bc_i (fun _ => kR h) fun c => kI h (bne_f c).symm⟩
    · exact h.elim
noncomputable abbrev eachC : Nat × FC := (56, vcall (clrSC (scN 0 eachP)))
theorem eachC_ok : FOK E0 56 (vcall (clrSC (scN 0 eachP))) := vcall_ok (clrSC_ok each_ok)

end Go.Sx

namespace Go.Sx
open Go.Proofs
set_option maxRecDepth 1000000

def must (b : Bool) : Int := bif b then 0 else 1
/-! ## sennit/configs.must -/
def mustP : SCP := fun args L k => match args, L with
  | [.bool b], [] => k (.int false .i64 (must b)) .e 0
  | _, _ => False
theorem must_sx (b : Bool) (k : AV → Heap → Nat → Prop) : gcSC (sexec E0 (FE (fun _ _ => False) [] []) Tryz.f46 []) [.bool b] .e 0 k =
    (bcase (!b) (k (.int true .i64 1) .e 0) (k (.int true .i64 0) .e 0)) := by kernel_rfl
theorem must_ok : SOK E0 46 (scN 0 mustP) :=
  (gcSC_ok (fun_ok (FE_ok E0_ok .nil .nil) T0_ok (f := 46) (fn := Tryz.f46) (by kernel_rfl) (ls := []) .nil)).spec0 fun args L k h => by
    unfold mustP at h; split at h
    · refine ⟨rfl, _, .refl _, ?_⟩
      rw [must_sx]
      exact bc_i (fun c => kI h (by simp at c; simp [must, c])) fun c => kI h (by simp at c; simp [must, c])
    · exact h.elim
noncomputable abbrev mustC : Nat × FC := (46, vcall (clrSC (scN 0 mustP)))
theorem mustC_ok : FOK E0 46 (vcall (clrSC (scN 0 mustP))) := vcall_ok (clrSC_ok must_ok)

/-! ## configs.inside -/
def outB (many x : Int) : Bool := decide (x < 0) || decide (x ≥ many)

noncomputable def idxB : Code := loopB ((items (bodyOf Tryz.f80)).getD 0 .skip)

noncomputable abbrev insClI : Nat × SC := (67, sexec E0 (FE (fun _ _ => False) [] []) Tryz.f67 [])
theorem insClI_ok : SOK E0 67 insClI.2 :=
  fun_ok (FE_ok E0_ok .nil .nil) T0_ok (f := 67) (fn := Tryz.f67) (by kernel_rfl) (ls := []) .nil

noncomputable def idxInsST (many : Int) (n : Nat) (cap : Option Nat) (l : Nat → Int) (i : Int) : St := ⟨putT [0, 1, 7, 8, 4] [.isl 1 n cap (fun j => [.int false .i64 (l j)]), .fn (.func 67) [] [.ptr 0 0], .int false .i64 (Int.ofNat n), .int false .i64 i, .int false .i64 0] .e, Tr.puts .e [(0, .cells 3 [.int false .i64 many])], 16, 19, none⟩
theorem idxIns_round (many : Int) (n : Nat) (cap : Option Nat) (l : Nat → Int) (i : Nat) (next : St → Prop) (K : Exit → List AV → Heap → Nat → Prop) :
  roundG E0 (FE (fun _ _ => False) [] [insClI]) idxB [] (gcT [0, 1, 7, 8, 4]) next (endK [4] 19 K) (idxInsST many n cap l (Int.ofNat i)) =
    (bcase (decide (Int.ofNat i < Int.ofNat n)) (bcase (decide (0 ≤ Int.ofNat i ∧ Int.ofNat i < (n : Int)))
      (bcase (decide (l i < 0)) (K .ret [.int false .i64 (Int.ofNat i)] (Tr.puts .e [(0, .cells 3 [.int false .i64 many])]) 16)
        (bcase (decide (l i ≥ many)) (K .ret [.int false .i64 (Int.ofNat i)] (Tr.puts .e [(0, .cells 3 [.int false .i64 many])]) 16) (next (idxInsST many n cap l (IntKind.wrap .i64 (Int.ofNat i + 1)))))) False)
      (K (.exit 0) [.int false .i64 0] (Tr.puts .e [(0, .cells 3 [.int false .i64 many])]) 16)) := by kernel_rfl

def idxInsP : LSP := fun args L K => match args, L with
  | [.isl 1 n _ f, .fn (.func 67) [] [.ptr 0 0], .int false .i64 m, .int false .i64 i, .int false .i64 r], [(0, .cells 3 [.int false .i64 many])] => (Ints .i64 f n ∧ Len n ∧ m = n ∧ i = 0 ∧ r = 0) ∧ bcase (decide (findI (fun j => outB many (geti f j)) 0 n < 0)) (K (.exit 0) [.int false .i64 0] (Tr.puts .e [(0, .cells 3 [.int false .i64 many])]) 16) (K .ret [.int false .i64 (findI (fun j => outB many (geti f j)) 0 n)] (Tr.puts .e [(0, .cells 3 [.int false .i64 many])]) 16)
  | _, _ => False
def idxInsL : LSC := atN 16 idxInsP
theorem idxInsL_ok : LSOK E0 false (.loop idxB) 19 [0, 1, 7, 8, 4] [4] idxInsL :=
  LSOK_at fun args L K hfr h => by
    unfold idxInsP at h; split at h
    · rename_i n cap f m i r many
      obtain ⟨⟨h1, hn, rfl, rfl, rfl⟩, hk⟩ := h
      obtain ⟨l, hl⟩ : ∃ l, l = geti f := ⟨_, rfl⟩
      rw [← hl] at hk
      refine COK.less (.cons (Wk.isl (f' := fun j => [.int false .i64 (l j)]) (by rw [hl]; exact h1)) (.refl _)) ?_
      refine loop_T (FE_ok E0_ok .nil (.cons (f := 67) (sc := insClI.2) insClI_ok .nil)) .nil [0, 1, 7, 8, 4] (fun i => idxInsST many n cap l (Int.ofNat i)) (fun i => bcase (decide (findI (fun j => outB many (l j)) i (n - i) < 0)) (K (.exit 0) [.int false .i64 0] (Tr.puts .e [(0, .cells 3 [.int false .i64 many])]) 16) (K .ret [.int false .i64 (findI (fun j => outB many (l j)) i (n - i))] (Tr.puts .e [(0, .cells 3 [.int false .i64 many])]) 16)) n (fun i hi hd next hnx => ?_) (fun hd next => ?_) hk
      · rw [idxIns_round]
        refine bc_t (lt_t hi) (bc_t (in_t hi) ?_)
        rw [wrap_succ hi hn]
        rw [show n - i = (n - (i + 1)) + 1 by omega] at hd
        refine bc_i (fun c => ?_) (fun c => bc_i (fun d => ?_) (fun d => hnx ?_))
        · simp only [findI, outB, c, Bool.true_or, cond_true] at hd
          exact (bcase_iff.1 hd).2 (by simp)
        · simp only [findI, outB, c, d, Bool.false_or, cond_true] at hd
          exact (bcase_iff.1 hd).2 (by simp)
        · simp only [findI, c, d, outB, Bool.false_or, cond_false] at hd; exact hd
      · rw [idxIns_round]
        refine bc_f (lt_f (Nat.le_refl _)) ?_
        rw [Nat.sub_self] at hd; exact (bcase_iff.1 hd).1 (by simp [findI])
    · exact h.elim

noncomputable abbrev idxI : Nat × SC := (80, sexec E0 (FE (fun _ _ => False) [] [insClI]) Tryz.f80 [LCd 19 [0, 1, 7, 8, 4] [4] idxInsL])
theorem idxI_ok : SOK E0 80 idxI.2 :=
  fun_ok (FE_ok E0_ok .nil (.cons (f := 67) (sc := insClI.2) insClI_ok .nil)) T0_ok (f := 80) (fn := Tryz.f80) (by kernel_rfl) (ls := [LCd 19 [0, 1, 7, 8, 4] [4] idxInsL]) (by rw [show items (bodyOf Tryz.f80) = [.loop idxB] by kernel_rfl]; exact (.cons (LCd_ok idxInsL_ok) .nil))

noncomputable abbrev conI : Nat × SC := (66, sexec E0 (FE (fun _ _ => False) [] [idxI]) Tryz.f66 [])
theorem conI_ok : SOK E0 66 conI.2 :=
  fun_ok (FE_ok E0_ok .nil (.cons (f := 80) (sc := idxI.2) idxI_ok .nil)) T0_ok (f := 66) (fn := Tryz.f66) (by kernel_rfl) (ls := []) .nil

/-! ## sennit/configs.inside -/
def insideP : SCP := fun args L k => match args, L with
  | [.isl 1 n _ f, .int false .i64 many], [] => (Ints .i64 f n ∧ Len n) ∧ k (.bool (decide (findI (fun j => outB many (geti f j)) 0 n < 0))) .e 0
  | _, _ => False
theorem inside_sx (many : Int) (n : Nat) (cap : Option Nat) (l : Nat → Int) (k : AV → Heap → Nat → Prop) : gcSC (sexec E0 (FE (fun _ _ => False) [] [conI]) Tryz.f47 []) [.isl 1 n cap (fun j => [.int false .i64 (l j)]), .int false .i64 many] .e 0 k =
    ((Ints .i64 (fun j => [.int false .i64 (l j)]) n ∧ Len n ∧ (n : Int) = n ∧ (0 : Int) = 0 ∧ (0 : Int) = 0) ∧ bcase (decide (findI (fun j => outB many (l j)) 0 n < 0)) (k (.bool true) .e 0) (k (.bool (!decide (findI (fun j => outB many (l j)) 0 n ≥ 0))) .e 0)) := by kernel_rfl
theorem inside_ok : SOK E0 47 (scN 0 insideP) :=
  (gcSC_ok (fun_ok (FE_ok E0_ok .nil (.cons (f := 66) (sc := conI.2) conI_ok .nil)) T0_ok (f := 47) (fn := Tryz.f47) (by kernel_rfl) (ls := []) .nil)).spec0 fun args L k h => by
    unfold insideP at h; split at h
    · obtain ⟨hc, h⟩ := h
      refine ⟨rfl, _, .cons (Wk.isl hc.1) (.refl _), ?_⟩
      rw [inside_sx]
      exact ⟨⟨.of, hc.2, rfl, rfl, rfl⟩, bc_i (fun c => kB h c.symm) fun c => kB h (by rw [c]; simp at c; simp [c])⟩
    · exact h.elim
noncomputable abbrev insideC : Nat × FC := (47, vcall (clrSC (scN 0 insideP)))
theorem insideC_ok : FOK E0 47 (vcall (clrSC (scN 0 insideP))) := vcall_ok (clrSC_ok inside_ok)

noncomputable abbrev isnanI : Nat × SC := (81, sexec E0 (FE (fun _ _ => False) [] []) Tryz.f81 [])
theorem isnanI_ok : SOK E0 81 isnanI.2 :=
  fun_ok (FE_ok E0_ok .nil .nil) T0_ok (f := 81) (fn := Tryz.f81) (by kernel_rfl) (ls := []) .nil

/-! ## cmp.Less[int] -/
def lessP : SCP := fun args L k => match args, L with
  | [.int false .i64 x, .int false .i64 y], [] => k (.bool (decide (x < y))) .e 0
  | _, _ => False
theorem less_sx (x y : Int) (k : AV → Heap → Nat → Prop) : gcSC (sexec E0 (FE (fun _ _ => False) [] [isnanI]) Tryz.f68 []) [.int false .i64 x, .int false .i64 y] .e 0 k =
    (bcase (x != x) (bcase (!(y != y)) (k (.bool true) .e 0) (k (.bool (decide (x < y))) .e 0)) (k (.bool (decide (x < y))) .e 0)) := by kernel_rfl
theorem less_ok : SOK E0 68 (scN 0 lessP) :=
  (gcSC_ok (fun_ok (FE_ok E0_ok .nil (.cons (f := 81) (sc := isnanI.2) isnanI_ok .nil)) T0_ok (f := 68) (fn := Tryz.f68) (by kernel_rfl) (ls := []) .nil)).spec0 fun args L k h => by
    unfold lessP at h; split at h
    · refine ⟨rfl, _, .refl _, ?_⟩
      rw [less_sx]
      refine bc_f (by simp) (kR h)
    · exact h.elim
noncomputable abbrev lessC : Nat × FC := (68, vcall (clrSC (scN 0 lessP)))
theorem lessC_ok : FOK E0 68 (vcall (clrSC (scN 0 lessP))) := vcall_ok (clrSC_ok less_ok)

def srt (l : Nat → Int) : Nat → Bool
  | 0 => true
  | i + 1 => bif decide (l (i + 1) < l i) then false else srt l i
noncomputable def sortedB : Code := loopB ((items (bodyOf Tryz.f48)).getD 0 .skip)

noncomputable def srtST (n : Nat) (cap : Option Nat) (l : Nat → Int) (H : Heap) (nid : Nat) (i : Int) : St := ⟨putT [0, 3, 2] [.isl 1 n cap (fun j => [.int false .i64 (l j)]), .int false .i64 i, .bool false] .e, H, nid, 21, none⟩
theorem srt_round (n : Nat) (cap : Option Nat) (l : Nat → Int) (H : Heap) (nid : Nat) (i : Nat) (next : St → Prop) (K : Exit → List AV → Heap → Nat → Prop) :
  roundG E0 (FE (fun _ _ => False) [lessC] []) sortedB [] (gcT [0, 3, 2]) next (endK [2] 21 K) (srtST n cap l H nid (Int.ofNat i)) =
    (bcase (decide (Int.ofNat i > 0)) (bcase (decide (0 ≤ Int.ofNat i ∧ Int.ofNat i < (n : Int))) (bcase (decide (0 ≤ IntKind.wrap .i64 (Int.ofNat i - 1) ∧ IntKind.wrap .i64 (Int.ofNat i - 1) < (n : Int)))
      (bcase (decide (l i < l (IntKind.wrap .i64 (Int.ofNat i - 1)).toNat)) (K .ret [.bool false] H nid) (next (srtST n cap l H nid (IntKind.wrap .i64 (Int.ofNat i - 1))))) False) False) (K (.exit 0) [.bool false] H nid)) := by kernel_rfl

def srtL : LSC := fun args H nid K => match args with
  | [.isl 1 n _ f, .int false .i64 i, .bool false] => (Ints .i64 f n ∧ (Len n ∧ 0 < n) ∧ i = Int.ofNat (n - 1)) ∧ bcase (srt (geti f) (n - 1)) (K (.exit 0) [.bool false] H nid) (K .ret [.bool false] H nid)
  | _ => False
theorem srtL_ok : LSOK E0 false (.loop sortedB) 21 [0, 3, 2] [2] srtL :=
  LSOK.wk (ls' := fun args H nid K => ∃ (n : Nat) (cap : Option Nat) (l : Nat → Int), (Len n ∧ 0 < n) ∧ args = [.isl 1 n cap (fun j => [.int false .i64 (l j)]), .int false .i64 (Int.ofNat (n - 1 - 0)), .bool false] ∧ bcase (srt l (n - 1 - 0)) (K (.exit 0) [.bool false] H nid) (K .ret [.bool false] H nid))
    (fun args H nid K _ ⟨n, cap, l, hn, ha, hk⟩ => by
      subst ha
      refine loop_T (FE_ok E0_ok (.cons lessC_ok .nil) .nil) .nil [0, 3, 2] (fun i => srtST n cap l H nid (Int.ofNat (n - 1 - i))) (fun i => bcase (srt l (n - 1 - i)) (K (.exit 0) [.bool false] H nid) (K .ret [.bool false] H nid)) (n - 1) (fun i hi hd next hnx => ?_) (fun hd next => ?_) hk
      · rw [srt_round]
        obtain ⟨j, hj⟩ : ∃ j, n - 1 - i = j + 1 := ⟨n - 1 - i - 1, by omega⟩
        have e1 : n - 1 - (i + 1) = j := by omega
        rw [hj] at hd ⊢
        rw [e1] at hnx
        have hn' := hn.1
        refine bc_t (by simp) (bc_t (in_t (by omega)) ?_)
        have hw : IntKind.wrap .i64 (Int.ofNat (j + 1) - 1) = Int.ofNat j := by
          rw [show Int.ofNat (j + 1) - 1 = Int.ofNat j by simp]
          unfold Len at hn'
          refine wrap_i64 ?_ ?_ <;> simp <;> omega
        rw [hw]
        refine bc_t (in_t (by omega)) (bc_i (fun c => ?_) fun c => hnx ?_)
        · have c : decide (l (j + 1) < l j) = true := c
          simp only [srt, c, cond_true] at hd; exact hd
        · have c : decide (l (j + 1) < l j) = false := c
          simp only [srt, c, cond_false] at hd; exact hd
      · rw [srt_round]
        rw [show n - 1 - (n - 1) = 0 by omega] at hd ⊢
        exact bc_f (by simp) hd)
    fun args H nid K _ h => by
      unfold srtL at h; split at h
      · obtain ⟨⟨h1, h2, rfl⟩, h3⟩ := h
        exact ⟨_, .cons (Wk.isl h1) (.refl _), _, _, _, h2, rfl, h3⟩
      · exact h.elim

/-! ## slices.IsSorted[[]int,int] -/
def srtP : SCP := fun args L k => match args, L with
  | [.isl 1 n _ f], [] => (Ints .i64 f n ∧ Len n ∧ 0 < n) ∧ k (.bool (srt (geti f) (n - 1))) .e 0
  | _, _ => False
theorem srt_sx (n : Nat) (cap : Option Nat) (l : Nat → Int) (k : AV → Heap → Nat → Prop) : gcSC (sexec E0 (FE (fun _ _ => False) [lessC] []) Tryz.f48 [LCd 21 [0, 3, 2] [2] srtL]) [.isl 1 (n + 1) cap (fun j => [.int false .i64 (l j)])] .e 0 k =
    ((Ints .i64 (fun j => [.int false .i64 (l j)]) (n + 1) ∧ (Len (n + 1) ∧ 0 < n + 1) ∧ IntKind.wrap .i64 (Int.ofNat (n + 1) - 1) = Int.ofNat n) ∧ bcase (srt l n) (k (.bool true) .e 0) (k (.bool false) .e 0)) := by kernel_rfl
theorem srt_ok : SOK E0 48 (scN 0 srtP) :=
  (gcSC_ok (fun_ok (FE_ok E0_ok (.cons lessC_ok .nil) .nil) T0_ok (f := 48) (fn := Tryz.f48) (by kernel_rfl) (ls := [LCd 21 [0, 3, 2] [2] srtL]) (by rw [show items (bodyOf Tryz.f48) = [.loop sortedB] by kernel_rfl]; exact (.cons (LCd_ok srtL_ok) .nil)))).spec0 fun args L k h => by
    unfold srtP at h; split at h
    · rename_i n cap f
      obtain ⟨hc, h⟩ := h
      obtain ⟨n, rfl⟩ : ∃ m, n = m + 1 := ⟨n - 1, by have := hc.2.2; omega⟩
      refine ⟨rfl, _, .cons (Wk.isl hc.1) (.refl _), ?_⟩
      rw [srt_sx]
      refine ⟨⟨.of, ⟨hc.2.1, by omega⟩, ?_⟩, bc_i (fun c => kB h c.symm) fun c => kB h c.symm⟩
      rw [show Int.ofNat (n + 1) - 1 = Int.ofNat n by simp]
      have := hc.2.1
      unfold Len at this
      refine wrap_i64 ?_ ?_ <;> simp <;> omega
    · exact h.elim
noncomputable abbrev srtC : Nat × FC := (48, vcall (clrSC (scN 0 srtP)))
theorem srtC_ok : FOK E0 48 (vcall (clrSC (scN 0 srtP))) := vcall_ok (clrSC_ok srt_ok)

end Go.Sx

namespace Go.Sx
open Go.Proofs
set_option maxRecDepth 1000000

theorem findI_congr {p q : Nat → Bool} (h : ∀ i, p i = q i) : ∀ {m i : Nat}, findI p i m = findI q i m
  | 0, i => rfl
  | m + 1, i => by simp only [findI, h, findI_congr h]

noncomputable def indexB : Code := loopB ((items (bodyOf Tryz.f72)).getD 0 .skip)

noncomputable def indexST (x : Int) (n : Nat) (cap : Option Nat) (l : Nat → Int) (H : Heap) (nid : Nat) (i : Int) : St := ⟨putT [0, 1, 7, 8, 4] [.isl 1 n cap (fun j => [.int false .i64 (l j)]), .int false .i64 x, .int false .i64 (Int.ofNat n), .int false .i64 i, .int false .i64 0] .e, H, nid, 19, none⟩
theorem index_round (x : Int) (n : Nat) (cap : Option Nat) (l : Nat → Int) (H : Heap) (nid : Nat) (i : Nat) (next : St → Prop) (K : Exit → List AV → Heap → Nat → Prop) :
  roundG E0 (FE (fun _ _ => False) [] []) indexB [] (gcT [0, 1, 7, 8, 4]) next (endK [4] 19 K) (indexST x n cap l H nid (Int.ofNat i)) =
    (bcase (decide (Int.ofNat i < Int.ofNat n)) (bcase (decide (0 ≤ Int.ofNat i ∧ Int.ofNat i < (n : Int))) (bcase (x == l i) (K .ret [.int false .i64 (Int.ofNat i)] H nid) (next (indexST x n cap l H nid (IntKind.wrap .i64 (Int.ofNat i + 1))))) False) (K (.exit 0) [.int false .i64 0] H nid)) := by kernel_rfl

def indexL : LSC := fun args H nid K => match args with
  | [.isl 1 n _ f, .int false .i64 x, .int false .i64 m, .int false .i64 i, .int false .i64 r] => (Ints .i64 f n ∧ Len n ∧ m = n ∧ i = 0 ∧ r = 0) ∧ bcase (decide (findI (fun j => x == geti f j) 0 n < 0)) (K (.exit 0) [.int false .i64 0] H nid) (K .ret [.int false .i64 (findI (fun j => x == geti f j) 0 n)] H nid)
  | _ => False
theorem indexL_ok : LSOK E0 false (.loop indexB) 19 [0, 1, 7, 8, 4] [4] indexL :=
  LSOK.wk (ls' := fun args H nid K => ∃ (x : Int) (n : Nat) (cap : Option Nat) (l : Nat → Int), Len n ∧ args = [.isl 1 n cap (fun j => [.int false .i64 (l j)]), .int false .i64 x, .int false .i64 (Int.ofNat n), .int false .i64 (Int.ofNat 0), .int false .i64 0] ∧ bcase (decide (findI (fun j => x == l j) 0 n < 0)) (K (.exit 0) [.int false .i64 0] H nid) (K .ret [.int false .i64 (findI (fun j => x == l j) 0 n)] H nid))
    (fun args H nid K _ ⟨x, n, cap, l, hn, ha, hk⟩ => by
      subst ha
      refine loop_T (FE_ok E0_ok .nil .nil) .nil [0, 1, 7, 8, 4] (fun i => indexST x n cap l H nid (Int.ofNat i)) (fun i => bcase (decide (findI (fun j => x == l j) i (n - i) < 0)) (K (.exit 0) [.int false .i64 0] H nid) (K .ret [.int false .i64 (findI (fun j => x == l j) i (n - i))] H nid)) n (fun i hi hd next hnx => ?_) (fun hd next => ?_) hk
      · rw [index_round]
        refine bc_t (lt_t hi) (bc_t (in_t hi) ?_)
        rw [wrap_succ hi hn]
        rw [show n - i = (n - (i + 1)) + 1 by omega] at hd
        refine bc_i (fun c => ?_) (fun c => hnx ?_)
        · simp only [findI, c, cond_true] at hd; exact (bcase_iff.1 hd).2 (by simp)
        · simp only [findI, c, cond_false] at hd; exact hd
      · rw [index_round]
        refine bc_f (lt_f (Nat.le_refl _)) ?_
        rw [Nat.sub_self] at hd; exact (bcase_iff.1 hd).1 (by simp [findI]))
    fun args H nid K _ h => by
      unfold indexL at h; split at h
      · obtain ⟨⟨h1, h2, rfl, rfl, rfl⟩, h3⟩ := h
        exact ⟨_, .cons (Wk.isl h1) (.refl _), _, _, _, _, h2, rfl, h3⟩
      · exact h.elim

noncomputable abbrev indexI : Nat × SC := (72, sexec E0 (FE (fun _ _ => False) [] []) Tryz.f72 [LCd 19 [0, 1, 7, 8, 4] [4] indexL])
theorem indexI_ok : SOK E0 72 indexI.2 :=
  fun_ok (FE_ok E0_ok .nil .nil) T0_ok (f := 72) (fn := Tryz.f72) (by kernel_rfl) (ls := [LCd 19 [0, 1, 7, 8, 4] [4] indexL]) (by rw [show items (bodyOf Tryz.f72) = [.loop indexB] by kernel_rfl]; exact (.cons (LCd_ok indexL_ok) .nil))

/-! ## slices.Contains[[]int,int] -/
def containsP : SCP := fun args L k => match args, L with
  | [.isl 1 n _ f, .int false .i64 x], [] => (Ints .i64 f n ∧ Len n) ∧ k (.bool (!decide (findI (fun j => x == geti f j) 0 n < 0))) .e 0
  | _, _ => False
theorem contains_sx (x : Int) (n : Nat) (cap : Option Nat) (l : Nat → Int) (k : AV → Heap → Nat → Prop) : gcSC (sexec E0 (FE (fun _ _ => False) [] [indexI]) Tryz.f52 []) [.isl 1 n cap (fun j => [.int false .i64 (l j)]), .int false .i64 x] .e 0 k =
    ((Ints .i64 (fun j => [.int false .i64 (l j)]) n ∧ Len n ∧ (n : Int) = n ∧ (0 : Int) = 0 ∧ (0 : Int) = 0) ∧ bcase (decide (findI (fun j => x == l j) 0 n < 0)) (k (.bool false) .e 0) (k (.bool (decide (findI (fun j => x == l j) 0 n ≥ 0))) .e 0)) := by kernel_rfl
theorem contains_ok : SOK E0 52 (scN 0 containsP) :=
  (gcSC_ok (fun_ok (FE_ok E0_ok .nil (.cons (f := 72) (sc := indexI.2) indexI_ok .nil)) T0_ok (f := 52) (fn := Tryz.f52) (by kernel_rfl) (ls := []) .nil)).spec0 fun args L k h => by
    unfold containsP at h; split at h
    · obtain ⟨hc, h⟩ := h
      refine ⟨rfl, _, .cons (Wk.isl hc.1) (.refl _), ?_⟩
      rw [contains_sx]
      exact ⟨⟨.of, hc.2, rfl, rfl, rfl⟩, bc_i (fun c => kB h (by rw [c]; rfl)) fun c => kB h (by rw [c]; simp at c; simp [c])⟩
    · exact h.elim
noncomputable abbrev containsC : Nat × FC := (52, vcall (clrSC (scN 0 containsP)))
theorem containsC_ok : FOK E0 52 (vcall (clrSC (scN 0 containsP))) := vcall_ok (clrSC_ok contains_ok)

/-- The greatest of the first ones. -/
def mxs (l : Nat → Int) : Nat → Int
  | 0 => l 0
  | i + 1 => mnmx true (mxs l i) (l (i + 1))

noncomputable def maxB : Code := loopB ((items (bodyOf Tryz.f25)).getD 0 .skip)

noncomputable def mxST (n : Nat) (cap : Option Nat) (l : Nat → Int) (H : Heap) (nid : Nat) (x i : Int) : St := ⟨putT [0, 3, 4] [.isl 1 n cap (fun j => [.int false .i64 (l j)]), .int false .i64 x, .int false .i64 i] .e, H, nid, 25, none⟩
theorem mx_round (n : Nat) (cap : Option Nat) (l : Nat → Int) (H : Heap) (nid : Nat) (x : Int) (i : Nat) (next : St → Prop) (K : Exit → List AV → Heap → Nat → Prop) :
  roundG E0 (FE (fun _ _ => False) [] []) maxB [] (gcT [0, 3, 4]) next (endK [3] 25 K) (mxST n cap l H nid x (Int.ofNat i)) =
    (bcase (decide (Int.ofNat i < (n : Int))) (bcase (decide (0 ≤ Int.ofNat i ∧ Int.ofNat i < (n : Int))) (next (mxST n cap l H nid  (mnmx true x (l i)) (IntKind.wrap .i64 (Int.ofNat i + 1)))) False) (K (.exit 0) [.int false .i64 x] H nid)) := by kernel_rfl

def mxL : LSC := fun args H nid K => match args with
  | [.isl 1 n _ f, .int false .i64 x, .int false .i64 i] => (Ints .i64 f n ∧ (Len n ∧ 0 < n) ∧ x = geti f 0 ∧ i = 1) ∧ K (.exit 0) [.int false .i64 (mxs (geti f) (n - 1))] H nid
  | _ => False
theorem mxL_ok : LSOK E0 false (.loop maxB) 25 [0, 3, 4] [3] mxL :=
  LSOK.wk (ls' := fun args H nid K => ∃ (n : Nat) (cap : Option Nat) (l : Nat → Int), (Len n ∧ 0 < n) ∧ args = [.isl 1 n cap (fun j => [.int false .i64 (l j)]), .int false .i64 (mxs l 0), .int false .i64 (Int.ofNat (0 + 1))] ∧ K (.exit 0) [.int false .i64 (mxs l (n - 1))] H nid)
    (fun args H nid K _ ⟨n, cap, l, hn, ha, hk⟩ => by
      subst ha
      refine loop_T (FE_ok E0_ok .nil .nil) .nil [0, 3, 4] (fun i => mxST n cap l H nid (mxs l i) (Int.ofNat (i + 1))) (fun i => K (.exit 0) [.int false .i64 (mxs l (n - 1))] H nid) (n - 1) (fun i hi hd next hnx => ?_) (fun hd next => ?_) hk
      · rw [mx_round]
        have hi' : i + 1 < n := by omega
        refine bc_t (lt_t hi') (bc_t (in_t hi') ?_)
        rw [wrap_succ hi' hn.1]
        exact hnx hd
      · rw [mx_round]
        have := hn.2
        refine bc_f (lt_f (by omega)) hd)
    fun args H nid K _ h => by
      unfold mxL at h; split at h
      · obtain ⟨⟨h1, h2, rfl, rfl⟩, h3⟩ := h
        exact ⟨_, .cons (Wk.isl h1) (.refl _), _, _, _, h2, rfl, h3⟩
      · exact h.elim

/-! ## slices.Max[[]int,int] -/
def mxP : SCP := fun args L k => match args, L with
  | [.isl 1 n _ f], [] => (Ints .i64 f n ∧ Len n ∧ 0 < n) ∧ k (.int false .i64 (mxs (geti f) (n - 1))) .e 0
  | _, _ => False
theorem mx_sx (n : Nat) (cap : Option Nat) (l : Nat → Int) (k : AV → Heap → Nat → Prop) : gcSC (sexec E0 (FE (fun _ _ => False) [] []) Tryz.f25 [LCd 25 [0, 3, 4] [3] mxL]) [.isl 1 n cap (fun j => [.int false .i64 (l j)])] .e 0 k =
    (bcase (decide ((n : Int) < 1)) False (bcase (decide (0 ≤ Int.ofNat 0 ∧ Int.ofNat 0 < (n : Int))) ((Ints .i64 (fun j => [.int false .i64 (l j)]) n ∧ (Len n ∧ 0 < n) ∧ l 0 = l 0 ∧ (1 : Int) = 1) ∧ k (.int false .i64 (mxs l (n - 1))) .e 0) False)) := by kernel_rfl
theorem mx_ok : SOK E0 25 (scN 0 mxP) :=
  (gcSC_ok (fun_ok (FE_ok E0_ok .nil .nil) T0_ok (f := 25) (fn := Tryz.f25) (by kernel_rfl) (ls := [LCd 25 [0, 3, 4] [3] mxL]) (by rw [show items (bodyOf Tryz.f25) = [.loop maxB] by kernel_rfl]; exact (.cons (LCd_ok mxL_ok) .nil)))).spec0 fun args L k h => by
    unfold mxP at h; split at h
    · obtain ⟨hc, h⟩ := h
      refine ⟨rfl, _, .cons (Wk.isl hc.1) (.refl _), ?_⟩
      rw [mx_sx]
      refine bc_f (by simp; omega) (bc_t (in_t hc.2.2) ?_)
      exact ⟨⟨.of, hc.2, rfl, rfl⟩, kR h⟩
    · exact h.elim
noncomputable abbrev mxC : Nat × FC := (25, vcall (clrSC (scN 0 mxP)))
theorem mxC_ok : FOK E0 25 (vcall (clrSC (scN 0 mxP))) := vcall_ok (clrSC_ok mx_ok)

end Go.Sx

namespace Go.Sx
open Go.Proofs
set_option maxRecDepth 1000000

/-! ## slices.Clone[[]int,int] -/
theorem clone_fun : SOK E0 61 (sexec E0 (FE (fun _ _ => False) [] []) Tryz.f61 []) := fun_ok (FE_ok E0_ok .nil .nil) T0_ok (f := 61) (fn := Tryz.f61) (by kernel_rfl) .nil
theorem clone_sx (l : Nat → Int) (n : Nat) (cap : Option Nat) (k : AV → Heap → Nat → Prop) : frzSC (sexec E0 (FE (fun _ _ => False) [] []) Tryz.f61 []) [.isl 1 n cap (fun j => [.int false .i64 (l j)])] .e 0 k =
    bcase (decide (0 < n)) (bcase (okApp n 8 1 fun j => [.int false .i64 (l j)]) (bcase (Nat.ble (0 + n) n) (k (.isl 1 n none fun j => [.int false .i64 (l (0 + j))]) .e 0) False) False) False := by kernel_rfl
theorem clone_sx0 (a : Addr) (c : Nat) (k : AV → Heap → Nat → Prop) : gcSC (wk0SC 1 (fun _ => []) (sexec E0 (FE (fun _ _ => False) [] []) Tryz.f61 [])) [.raw (.slice (some a) 0 c)] .e 0 k = (Wk (.sl 0 0 0 1 0 (some 0)) (.isl 1 0 none fun _ => []) ∧ k (.isl 1 0 none fun _ => []) .e 0) := by kernel_rfl
theorem clone_sx1 (c : Nat) (k : AV → Heap → Nat → Prop) : gcSC (wk0SC 1 (fun _ => []) (sexec E0 (FE (fun _ _ => False) [] []) Tryz.f61 [])) [.raw (.slice none 0 c)] .e 0 k = (Wk .nils (.isl 1 0 none fun _ => []) ∧ k (.isl 1 0 none fun _ => []) .e 0) := by kernel_rfl
def cloneP : SCP := fun args L k => match args, L with
  | [.isl 1 n _ f], [] => (Ints .i64 f n ∧ Len n) ∧ k (.isl 1 n none fun j => [.int false .i64 (geti f j)]) .e 0
  | _, _ => False
theorem clone_ok : SOK E0 61 (scN 0 cloneP) :=
  SOK.or (((frzSC_ok clone_fun).spec0 (sp := fun args L k => match args, L with
      | [.isl 1 n _ f], [] => (Ints .i64 f n ∧ Len n ∧ 0 < n) ∧ k (.isl 1 n none fun j => [.int false .i64 (geti f j)]) .e 0
      | _, _ => False) fun args L k h => by
    split at h
    · obtain ⟨hc, h⟩ := h
      refine ⟨rfl, _, .cons (Wk.isl hc.1) .nil, ?_⟩
      rw [clone_sx]
      have := hc.2.1
      unfold Len at this
      exact bc_t (by simpa using hc.2.2) (bc_t (okApp_of hc.2.2 (by omega) (by omega) fun _ _ => rfl) (bc_t (by simp) ⟨_, Wk.isl fun _ _ => by simp, h⟩))
    · exact h.elim))
  (((gcSC_ok (wk0SC_ok clone_fun)).empty (sz := 1) (g := fun _ => []) fun a c => by
    cases a with
    | none => rw [clone_sx1]; exact ⟨Wk.nils, .refl _, fun i => Tr.get_e i, rfl⟩
    | some a => rw [clone_sx0]; exact ⟨Wk.sl0, .refl _, fun i => Tr.get_e i, rfl⟩).res (sc := scN 0 fun args L k => match args, L with
      | [.isl _ 0 _ _], [] => ∃ r, Wk (.isl 1 0 none fun _ => []) r ∧ k r .e 0
      | _, _ => False) fun args H nid k _ h => by
    unfold scN at h ⊢
    split at h
    · split at h
      · exact h
      · exact h.elim
    · exact h.elim)
  fun args H nid k h => by
    unfold scN at h ⊢
    split at h
    rotate_left
    · exact h.elim
    unfold cloneP at h
    split at h
    rotate_left
    · exact h.elim
    rename_i n cap f hL
    obtain ⟨hc, h⟩ := h
    rw [hL]
    rcases Nat.eq_zero_or_pos n with h0 | h0
    · subst h0; exact .inr ⟨_, Wk.isl0, h⟩
    · exact .inl ⟨⟨hc.1, hc.2, h0⟩, h⟩
noncomputable abbrev cloneC : Nat × FC := (61, vcall (clrSC (scN 0 cloneP)))
theorem cloneC_ok : FOK E0 61 (vcall (clrSC (scN 0 cloneP))) := vcall_ok (clrSC_ok clone_ok)

/-! ## slices.Clone[[]sennit/api.Station,sennit/api.Station] -/
theorem cloneSt_fun : SOK E0 63 (sexec E0 (FE (fun _ _ => False) [] []) Tryz.f63 []) := fun_ok (FE_ok E0_ok .nil .nil) T0_ok (f := 63) (fn := Tryz.f63) (by kernel_rfl) .nil
theorem cloneSt_sx (a b c : Nat → Int) (n : Nat) (cap : Option Nat) (k : AV → Heap → Nat → Prop) : frzSC (sexec E0 (FE (fun _ _ => False) [] []) Tryz.f63 []) [.isl 3 n cap (fun j => [.int false .i64 (a j), .int false .u32 (b j), .int false .i64 (c j)])] .e 0 k =
    bcase (decide (0 < n)) (bcase (okApp n 24 3 fun j => [.int false .i64 (a j), .int false .u32 (b j), .int false .i64 (c j)]) (bcase (Nat.ble (0 + n) n) (k (.isl 3 n none fun j => [.int false .i64 (a (0 + j)), .int false .u32 (b (0 + j)), .int false .i64 (c (0 + j))]) .e 0) False) False) False := by kernel_rfl
theorem cloneSt_sx0 (a : Addr) (c : Nat) (k : AV → Heap → Nat → Prop) : gcSC (wk0SC 3 (fun _ => []) (sexec E0 (FE (fun _ _ => False) [] []) Tryz.f63 [])) [.raw (.slice (some a) 0 c)] .e 0 k = (Wk (.sl 0 0 0 3 0 (some 0)) (.isl 3 0 none fun _ => []) ∧ k (.isl 3 0 none fun _ => []) .e 0) := by kernel_rfl
theorem cloneSt_sx1 (c : Nat) (k : AV → Heap → Nat → Prop) : gcSC (wk0SC 3 (fun _ => []) (sexec E0 (FE (fun _ _ => False) [] []) Tryz.f63 [])) [.raw (.slice none 0 c)] .e 0 k = (Wk .nils (.isl 3 0 none fun _ => []) ∧ k (.isl 3 0 none fun _ => []) .e 0) := by kernel_rfl
def cloneStP : SCP := fun args L k => match args, L with
  | [.isl 3 n _ f], [] => (Ints3 .i64 .u32 .i64 f n ∧ Len n) ∧ k (.isl 3 n none fun j => [.int false .i64 (getk f 0 j), .int false .u32 (getk f 1 j), .int false .i64 (getk f 2 j)]) .e 0
  | _, _ => False
theorem cloneSt_ok : SOK E0 63 (scN 0 cloneStP) :=
  SOK.or (((frzSC_ok cloneSt_fun).spec0 (sp := fun args L k => match args, L with
      | [.isl 3 n _ f], [] => (Ints3 .i64 .u32 .i64 f n ∧ Len n ∧ 0 < n) ∧ k (.isl 3 n none fun j => [.int false .i64 (getk f 0 j), .int false .u32 (getk f 1 j), .int false .i64 (getk f 2 j)]) .e 0
      | _, _ => False) fun args L k h => by
    split at h
    · obtain ⟨hc, h⟩ := h
      refine ⟨rfl, _, .cons (Wk.isl hc.1) .nil, ?_⟩
      rw [cloneSt_sx]
      have := hc.2.1
      unfold Len at this
      exact bc_t (by simpa using hc.2.2) (bc_t (okApp_of hc.2.2 (by omega) (by omega) fun _ _ => rfl) (bc_t (by simp) ⟨_, Wk.isl fun _ _ => by simp, h⟩))
    · exact h.elim))
  (((gcSC_ok (wk0SC_ok cloneSt_fun)).empty (sz := 3) (g := fun _ => []) fun a c => by
    cases a with
    | none => rw [cloneSt_sx1]; exact ⟨Wk.nils, .refl _, fun i => Tr.get_e i, rfl⟩
    | some a => rw [cloneSt_sx0]; exact ⟨Wk.sl0, .refl _, fun i => Tr.get_e i, rfl⟩).res (sc := scN 0 fun args L k => match args, L with
      | [.isl _ 0 _ _], [] => ∃ r, Wk (.isl 3 0 none fun _ => []) r ∧ k r .e 0
      | _, _ => False) fun args H nid k _ h => by
    unfold scN at h ⊢
    split at h
    · split at h
      · exact h
      · exact h.elim
    · exact h.elim)
  fun args H nid k h => by
    unfold scN at h ⊢
    split at h
    rotate_left
    · exact h.elim
    unfold cloneStP at h
    split at h
    rotate_left
    · exact h.elim
    rename_i n cap f hL
    obtain ⟨hc, h⟩ := h
    rw [hL]
    rcases Nat.eq_zero_or_pos n with h0 | h0
    · subst h0; exact .inr ⟨_, Wk.isl0, h⟩
    · exact .inl ⟨⟨hc.1, hc.2, h0⟩, h⟩
noncomputable abbrev cloneStC : Nat × FC := (63, vcall (clrSC (scN 0 cloneStP)))
theorem cloneStC_ok : FOK E0 63 (vcall (clrSC (scN 0 cloneStP))) := vcall_ok (clrSC_ok cloneSt_ok)

end Go.Sx
