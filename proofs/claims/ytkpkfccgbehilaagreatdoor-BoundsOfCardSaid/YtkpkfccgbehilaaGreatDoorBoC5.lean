/- Part of an own symbolic executor for the model's code, proved sound, and of the proof of one statement (see the text of the claimed theorem). -/
import Derived.Test.YtkpkfccgbehilaaGreatDoorBoC0
namespace Go.Sx
open Go.Proofs
set_option maxRecDepth 1000000

/-! ## configs, plainly -/
structure Cfg where
  nodes : Int
  np : Nat
  pairs : Nat → Int
  ns : Nat
  slots : Nat → Int
  long : Int
  nb : Nat
  boots : Nat → Int
  nst : Nat
  sa : Nat → Int
  sb : Nat → Int
  sc : Nat → Int
  miss : Int
  good : Int
  fresh : Int

def Cfg.cells (c : Cfg) : List AV := [.int false .i64 c.nodes, .isl 1 c.np none (fun j => [.int false .i64 (c.pairs j)]), .isl 1 c.ns none (fun j => [.int false .i64 (c.slots j)]), .int false .i64 c.long, .isl 1 c.nb none (fun j => [.int false .i64 (c.boots j)]),
  .isl 3 c.nst none (fun j => [.int false .i64 (c.sa j), .int false .u32 (c.sb j), .int false .i64 (c.sc j)]), .int false .i64 c.miss, .int false .i64 c.good, .int false .i64 c.fresh]
def Cfg.av (c : Cfg) : AV := .agg c.cells
def cfg9 (nodes : Int) (np : Nat) (fp : Nat → List AV) (ns : Nat) (fs : Nat → List AV) (long : Int) (nb : Nat) (fb : Nat → List AV) (nst : Nat) (ft : Nat → List AV) (miss good fresh : Int) : Cfg :=
  ⟨nodes, np, geti fp, ns, geti fs, long, nb, geti fb, nst, getk ft 0, getk ft 1, getk ft 2, miss, good, fresh⟩
def CfgOk (np : Nat) (fp : Nat → List AV) (ns : Nat) (fs : Nat → List AV) (nb : Nat) (fb : Nat → List AV) (nst : Nat) (ft : Nat → List AV) : Prop :=
  (Ints .i64 fp np ∧ Ints .i64 fs ns ∧ Ints .i64 fb nb ∧ Ints3 .i64 .u32 .i64 ft nst) ∧ Len np ∧ Len ns ∧ Len nb ∧ Len nst
theorem Wk.cfg {nodes np cp fp ns cs fs long nb cb fb nst ct ft miss good fresh} (h : CfgOk np fp ns fs nb fb nst ft) :
    WkL [.int false .i64 nodes, .isl 1 np cp fp, .isl 1 ns cs fs, .int false .i64 long, .isl 1 nb cb fb, .isl 3 nst ct ft, .int false .i64 miss, .int false .i64 good, .int false .i64 fresh] (cfg9 nodes np fp ns fs long nb fb nst ft miss good fresh).cells :=
  .cons (.refl _) (.cons (.trans .cap (Wk.isl h.1.1)) (.cons (.trans .cap (Wk.isl h.1.2.1)) (.cons (.refl _) (.cons (.trans .cap (Wk.isl h.1.2.2.1)) (.cons (.trans .cap (Wk.isl h.1.2.2.2)) (.cons (.refl _) (.cons (.refl _) (.cons (.refl _) .nil))))))))
theorem CfgOk.of (c : Cfg) (h : Len c.np ∧ Len c.ns ∧ Len c.nb ∧ Len c.nst) : CfgOk c.np (fun j => [.int false .i64 (c.pairs j)]) c.ns (fun j => [.int false .i64 (c.slots j)]) c.nb (fun j => [.int false .i64 (c.boots j)]) c.nst (fun j => [.int false .i64 (c.sa j), .int false .u32 (c.sb j), .int false .i64 (c.sc j)]) :=
  ⟨⟨fun _ _ => rfl, fun _ _ => rfl, fun _ _ => rfl, fun _ _ => rfl⟩, h⟩
theorem okB_n {n : Nat} : okB 0 (n : Int) (n : Int) n = true := by simp [okB]

/-! ## slices.Clip[[]int,int] -/
def clipP : SCP := fun args L k => match args, L with
  | [.isl 1 n _ f], [] => (Ints .i64 f n) ∧ k (.isl 1 n none (fun j => [.int false .i64 (geti f j)])) .e 0
  | _, _ => False
theorem clip_sx (n : Nat) (l : Nat → Int) (k : AV → Heap → Nat → Prop) : gcSC (sexec E0 (FE (fun _ _ => False) [] []) Tryz.f60 []) [.isl 1 n none (fun j => [.int false .i64 (l j)])] .e 0 k =
    (bcase (okB 0 (n : Int) (n : Int) n && decide ((n : Int) ≤ (n : Int))) (k (.isl 1 n (some n) (fun j => [.int false .i64 (l (0 + j))])) .e 0) False) := by kernel_rfl
theorem clip_ok : SOK E0 60 (scN 0 clipP) :=
  (gcSC_ok (fun_ok (FE_ok E0_ok .nil .nil) T0_ok (f := 60) (fn := Tryz.f60) (by kernel_rfl) (ls := []) .nil)).spec0 fun args L k h => by
    unfold clipP at h; split at h
    · obtain ⟨hc, h⟩ := h
      refine ⟨rfl, _, .cons (.trans .cap (Wk.isl hc)) .nil, ?_⟩
      rw [clip_sx]
      exact bc_t (by rw [okB_n]; simp) ⟨_, .trans (Wk.isl fun _ _ => by simp) .cap, h⟩
    · exact h.elim
noncomputable abbrev clipC : Nat × FC := (60, vcall (clrSC (scN 0 clipP)))
theorem clipC_ok : FOK E0 60 (vcall (clrSC (scN 0 clipP))) := vcall_ok (clrSC_ok clip_ok)

/-! ## slices.Clip[[]sennit/api.Station,sennit/api.Station] -/
def clipStP : SCP := fun args L k => match args, L with
  | [.isl 3 n _ f], [] => (Ints3 .i64 .u32 .i64 f n) ∧ k (.isl 3 n none (fun j => [.int false .i64 (getk f 0 j), .int false .u32 (getk f 1 j), .int false .i64 (getk f 2 j)])) .e 0
  | _, _ => False
theorem clipSt_sx (n : Nat) (a b c : Nat → Int) (k : AV → Heap → Nat → Prop) : gcSC (sexec E0 (FE (fun _ _ => False) [] []) Tryz.f62 []) [.isl 3 n none (fun j => [.int false .i64 (a j), .int false .u32 (b j), .int false .i64 (c j)])] .e 0 k =
    (bcase (okB 0 (n : Int) (n : Int) n && decide ((n : Int) ≤ (n : Int))) (k (.isl 3 n (some n) (fun j => [.int false .i64 (a (0 + j)), .int false .u32 (b (0 + j)), .int false .i64 (c (0 + j))])) .e 0) False) := by kernel_rfl
theorem clipSt_ok : SOK E0 62 (scN 0 clipStP) :=
  (gcSC_ok (fun_ok (FE_ok E0_ok .nil .nil) T0_ok (f := 62) (fn := Tryz.f62) (by kernel_rfl) (ls := []) .nil)).spec0 fun args L k h => by
    unfold clipStP at h; split at h
    · obtain ⟨hc, h⟩ := h
      refine ⟨rfl, _, .cons (.trans .cap (Wk.isl hc)) .nil, ?_⟩
      rw [clipSt_sx]
      exact bc_t (by rw [okB_n]; simp) ⟨_, .trans (Wk.isl fun _ _ => by simp) .cap, h⟩
    · exact h.elim
noncomputable abbrev clipStC : Nat × FC := (62, vcall (clrSC (scN 0 clipStP)))
theorem clipStC_ok : FOK E0 62 (vcall (clrSC (scN 0 clipStP))) := vcall_ok (clrSC_ok clipSt_ok)

noncomputable def ownB : Code := loopB ((items (bodyOf Tryz.f37)).getD 0 .skip)

/-! ## sennit/configs.own -/
def ownP : SCP := fun args L k => match args, L with
  | [.agg [.int false .i64 nodes, .isl 1 np _ fp, .isl 1 ns _ fs, .int false .i64 long, .isl 1 nb _ fb, .isl 3 nst _ ft, .int false .i64 miss, .int false .i64 good, .int false .i64 fresh]], [] => (CfgOk np fp ns fs nb fb nst ft) ∧ k ((cfg9 nodes np fp ns fs long nb fb nst ft miss good fresh).av) .e 0
  | _, _ => False
theorem own_sx (c : Cfg) (k : AV → Heap → Nat → Prop) : gcSC (sexec E0 (FE (fun _ _ => False) [clipC, cloneC, clipStC, cloneStC] []) Tryz.f37 [unroll E0 (FE (fun _ _ => False) [clipC, cloneC] []) ownB [] 5]) [.agg c.cells] .e 0 k =
    ((Ints .i64 (fun j => [.int false .i64 (c.pairs j)]) c.np ∧ Len c.np) ∧ Ints .i64 (fun j => [.int false .i64 (c.pairs j)]) c.np ∧ (Ints .i64 (fun j => [.int false .i64 (c.slots j)]) c.ns ∧ Len c.ns) ∧ Ints .i64 (fun j => [.int false .i64 (c.slots j)]) c.ns ∧ (Ints .i64 (fun j => [.int false .i64 (c.boots j)]) c.nb ∧ Len c.nb) ∧ Ints .i64 (fun j => [.int false .i64 (c.boots j)]) c.nb ∧ (Ints3 .i64 .u32 .i64 (fun j => [.int false .i64 (c.sa j), .int false .u32 (c.sb j), .int false .i64 (c.sc j)]) c.nst ∧ Len c.nst) ∧ Ints3 .i64 .u32 .i64 (fun j => [.int false .i64 (c.sa j), .int false .u32 (c.sb j), .int false .i64 (c.sc j)]) c.nst ∧ k c.av .e 0) := by kernel_rfl
theorem own_ok : SOK E0 37 (scN 0 ownP) :=
  (gcSC_ok (fun_ok (FE_ok E0_ok (.cons clipC_ok (.cons cloneC_ok (.cons clipStC_ok (.cons cloneStC_ok .nil)))) .nil) T0_ok (f := 37) (fn := Tryz.f37) (by kernel_rfl) (ls := [unroll E0 (FE (fun _ _ => False) [clipC, cloneC] []) ownB [] 5]) (by rw [show items (bodyOf Tryz.f37) = [.loop ownB] by kernel_rfl]; exact (.cons (fun st k h => unroll_ok (FE_ok E0_ok (.cons clipC_ok (.cons cloneC_ok .nil)) .nil) (LAll_items _ _ .nil) 5 st k h) .nil)))).spec0 fun args L k h => by
    unfold ownP at h; split at h
    · rename_i nodes np cp fp ns cs fs long nb cb fb nst ct ft miss good fresh
      obtain ⟨hc, h⟩ := h
      refine ⟨rfl, _, .cons (Wk.cfg hc).agg .nil, ?_⟩
      rw [own_sx]
      exact ⟨⟨.of, hc.2.1⟩, .of, ⟨.of, hc.2.2.1⟩, .of, ⟨.of, hc.2.2.2.1⟩, .of, ⟨fun _ _ => rfl, hc.2.2.2.2⟩, fun _ _ => rfl, kR h⟩
    · exact h.elim
noncomputable abbrev ownC : Nat × FC := (37, vcall (clrSC (scN 0 ownP)))
theorem ownC_ok : FOK E0 37 (vcall (clrSC (scN 0 ownP))) := vcall_ok (clrSC_ok own_ok)

noncomputable abbrev first1I : Nat × SC := (74, sexec E0 (FE (fun _ _ => False) [] []) Tryz.f74 [])
theorem first1I_ok : SOK E0 74 first1I.2 :=
  fun_ok (FE_ok E0_ok .nil .nil) T0_ok (f := 74) (fn := Tryz.f74) (by kernel_rfl) (ls := []) .nil

noncomputable def firstB : Code := loopB ((items (bodyOf Tryz.f73)).getD 0 .skip)

noncomputable abbrev idxEI : Nat × SC := (73, sexec E0 (FE (fun _ _ => False) [] [first1I]) Tryz.f73 [unroll E0 (FE (fun _ _ => False) [] [first1I]) firstB [] 4])
theorem idxEI_ok : SOK E0 73 idxEI.2 :=
  fun_ok (FE_ok E0_ok .nil (.cons (f := 74) (sc := first1I.2) first1I_ok .nil)) T0_ok (f := 73) (fn := Tryz.f73) (by kernel_rfl) (ls := [unroll E0 (FE (fun _ _ => False) [] [first1I]) firstB [] 4]) (by rw [show items (bodyOf Tryz.f73) = [.loop firstB] by kernel_rfl]; exact (.cons (fun st k h => unroll_ok (FE_ok E0_ok .nil (.cons (f := 74) (sc := first1I.2) first1I_ok .nil)) (LAll_items _ _ .nil) 4 st k h) .nil))

def first2 (a b : Int) : Int := bif a != 0 then a else b
/-! ## sennit/configs.first -/
def firstP : SCP := fun args L k => match args, L with
  | [.isl 1 2 _ f], [] => (Ints .i64 f 2) ∧ k (.int false .i64 (first2 (geti f 0) (geti f 1))) .e 0
  | _, _ => False
theorem first_sx (cap : Option Nat) (l : Nat → Int) (k : AV → Heap → Nat → Prop) : gcSC (sexec E0 (FE (fun _ _ => False) [] [idxEI]) Tryz.f55 []) [.isl 1 2 cap (fun j => [.int false .i64 (l j)])] .e 0 k =
    (bcase (l 0 != 0) (k (.int false .i64 (l 0)) .e 0) (bcase (l 1 != 0) (k (.int false .i64 (l 1)) .e 0) (k (.int true .i64 0) .e 0))) := by kernel_rfl
theorem first_ok : SOK E0 55 (scN 0 firstP) :=
  (gcSC_ok (fun_ok (FE_ok E0_ok .nil (.cons (f := 73) (sc := idxEI.2) idxEI_ok .nil)) T0_ok (f := 55) (fn := Tryz.f55) (by kernel_rfl) (ls := []) .nil)).spec0 fun args L k h => by
    unfold firstP at h; split at h
    · rename_i cap f
      obtain ⟨hc, h⟩ := h
      refine ⟨rfl, _, .cons (Wk.isl hc) .nil, ?_⟩
      rw [first_sx]
      exact bc_i (fun c => kI h (by simp [first2, c])) fun c => bc_i (fun d => kI h (by simp [first2, c])) fun d => kI h (by rw [bne_f d] at h; simp only [first2, c, cond_false]; exact (bne_f d).symm)
    · exact h.elim
noncomputable abbrev firstC : Nat × FC := (55, vcall (clrSC (scN 0 firstP)))
theorem firstC_ok : FOK E0 55 (vcall (clrSC (scN 0 firstP))) := vcall_ok (clrSC_ok first_ok)

end Go.Sx

namespace Go.Sx
open Go.Proofs
set_option maxRecDepth 1000000

/-- A list's places, as a callee sees them. -/
def lst (xs : List AV) : Nat → List AV := fun i => mapA (clr 11) ((xs.drop (0 + (0 + i) * 1)).take 1)
theorem lst2 {x y : Int} : Ints .i64 (lst [.int false .i64 x, .int false .i64 y]) 2 := fun j hj => by
  rcases j with _ | _ | j
  · rfl
  · rfl
  · omega
theorem lst3 {x y z : Int} : Ints .i64 (lst [.int false .i64 x, .int false .i64 y, .int false .i64 z]) 3 := fun j hj => by
  rcases j with _ | _ | _ | j
  · rfl
  · rfl
  · rfl
  · omega
def Cfg.small (c : Cfg) : Prop := Len c.np ∧ Len c.ns ∧ Len c.nb ∧ Len c.nst

def r1 (c : Cfg) : Int := within c.nodes 4 16
def r2 (c : Cfg) : Int := within c.np 2 8
def r4 (c : Cfg) : Int := within c.ns 1 16
def r8 (c : Cfg) : Int := within c.nst 0 8
def r6 (c : Cfg) : Int := within c.long (mnmx true (IntKind.wrap .i64 (IntKind.wrap .i64 (3 * c.nodes) + 1)) (IntKind.wrap .i64 (IntKind.wrap .i64 (c.nodes + 114) + 2))) 4096
def r7 (c : Cfg) : Int := first2 (must (decide ((c.nb : Int) = c.nodes))) (each c.boots 0 4096 0 c.nb)
def r10 (c : Cfg) : Int := each (geti (lst [.int false .i64 c.miss, .int false .i64 c.good, .int false .i64 c.fresh])) 1 100 0 3
/-! ## sennit/configs.rules$1 -/
def rule1P : SCP := fun args L k => match args, L with
  | [.agg [.int false .i64 nodes, .isl 1 np _ fp, .isl 1 ns _ fs, .int false .i64 long, .isl 1 nb _ fb, .isl 3 nst _ ft, .int false .i64 miss, .int false .i64 good, .int false .i64 fresh]], [] => (CfgOk np fp ns fs nb fb nst ft) ∧ k (.int false .i64 (r1 (cfg9 nodes np fp ns fs long nb fb nst ft miss good fresh))) .e 0
  | _, _ => False
theorem rule1_sx (c : Cfg) (k : AV → Heap → Nat → Prop) : gcSC (sexec E0 (FE (fun _ _ => False) [withinC] []) Tryz.f42 []) [.agg c.cells] .e 0 k =
    (k (.int false .i64 (r1 c)) .e 0) := by kernel_rfl
theorem rule1_ok : SOK E0 42 (scN 0 rule1P) :=
  (gcSC_ok (fun_ok (FE_ok E0_ok (.cons withinC_ok .nil) .nil) T0_ok (f := 42) (fn := Tryz.f42) (by kernel_rfl) (ls := []) .nil)).spec0 fun args L k h => by
    unfold rule1P at h; split at h
    · rename_i nodes np cp fp ns cs fs long nb cb fb nst ct ft miss good fresh
      obtain ⟨hc, h⟩ := h
      refine ⟨rfl, _, .cons (Wk.cfg hc).agg .nil, ?_⟩
      rw [rule1_sx]
      exact kR h
    · exact h.elim
noncomputable abbrev rule1C : Nat × FC := (42, vcall (clrSC (scN 0 rule1P)))
theorem rule1C_ok : FOK E0 42 (vcall (clrSC (scN 0 rule1P))) := vcall_ok (clrSC_ok rule1_ok)

/-! ## sennit/configs.rules$2 -/
def rule2P : SCP := fun args L k => match args, L with
  | [.agg [.int false .i64 nodes, .isl 1 np _ fp, .isl 1 ns _ fs, .int false .i64 long, .isl 1 nb _ fb, .isl 3 nst _ ft, .int false .i64 miss, .int false .i64 good, .int false .i64 fresh]], [] => (CfgOk np fp ns fs nb fb nst ft) ∧ k (.int false .i64 (r2 (cfg9 nodes np fp ns fs long nb fb nst ft miss good fresh))) .e 0
  | _, _ => False
theorem rule2_sx (c : Cfg) (k : AV → Heap → Nat → Prop) : gcSC (sexec E0 (FE (fun _ _ => False) [withinC] []) Tryz.f44 []) [.agg c.cells] .e 0 k =
    (k (.int false .i64 (r2 c)) .e 0) := by kernel_rfl
theorem rule2_ok : SOK E0 44 (scN 0 rule2P) :=
  (gcSC_ok (fun_ok (FE_ok E0_ok (.cons withinC_ok .nil) .nil) T0_ok (f := 44) (fn := Tryz.f44) (by kernel_rfl) (ls := []) .nil)).spec0 fun args L k h => by
    unfold rule2P at h; split at h
    · rename_i nodes np cp fp ns cs fs long nb cb fb nst ct ft miss good fresh
      obtain ⟨hc, h⟩ := h
      refine ⟨rfl, _, .cons (Wk.cfg hc).agg .nil, ?_⟩
      rw [rule2_sx]
      exact kR h
    · exact h.elim
noncomputable abbrev rule2C : Nat × FC := (44, vcall (clrSC (scN 0 rule2P)))
theorem rule2C_ok : FOK E0 44 (vcall (clrSC (scN 0 rule2P))) := vcall_ok (clrSC_ok rule2_ok)

/-! ## sennit/configs.rules$4 -/
def rule4P : SCP := fun args L k => match args, L with
  | [.agg [.int false .i64 nodes, .isl 1 np _ fp, .isl 1 ns _ fs, .int false .i64 long, .isl 1 nb _ fb, .isl 3 nst _ ft, .int false .i64 miss, .int false .i64 good, .int false .i64 fresh]], [] => (CfgOk np fp ns fs nb fb nst ft) ∧ k (.int false .i64 (r4 (cfg9 nodes np fp ns fs long nb fb nst ft miss good fresh))) .e 0
  | _, _ => False
theorem rule4_sx (c : Cfg) (k : AV → Heap → Nat → Prop) : gcSC (sexec E0 (FE (fun _ _ => False) [withinC] []) Tryz.f50 []) [.agg c.cells] .e 0 k =
    (k (.int false .i64 (r4 c)) .e 0) := by kernel_rfl
theorem rule4_ok : SOK E0 50 (scN 0 rule4P) :=
  (gcSC_ok (fun_ok (FE_ok E0_ok (.cons withinC_ok .nil) .nil) T0_ok (f := 50) (fn := Tryz.f50) (by kernel_rfl) (ls := []) .nil)).spec0 fun args L k h => by
    unfold rule4P at h; split at h
    · rename_i nodes np cp fp ns cs fs long nb cb fb nst ct ft miss good fresh
      obtain ⟨hc, h⟩ := h
      refine ⟨rfl, _, .cons (Wk.cfg hc).agg .nil, ?_⟩
      rw [rule4_sx]
      exact kR h
    · exact h.elim
noncomputable abbrev rule4C : Nat × FC := (50, vcall (clrSC (scN 0 rule4P)))
theorem rule4C_ok : FOK E0 50 (vcall (clrSC (scN 0 rule4P))) := vcall_ok (clrSC_ok rule4_ok)

/-! ## sennit/configs.rules$6 -/
def rule6P : SCP := fun args L k => match args, L with
  | [.agg [.int false .i64 nodes, .isl 1 np _ fp, .isl 1 ns _ fs, .int false .i64 long, .isl 1 nb _ fb, .isl 3 nst _ ft, .int false .i64 miss, .int false .i64 good, .int false .i64 fresh]], [] => (CfgOk np fp ns fs nb fb nst ft) ∧ k (.int false .i64 (r6 (cfg9 nodes np fp ns fs long nb fb nst ft miss good fresh))) .e 0
  | _, _ => False
theorem rule6_sx (c : Cfg) (k : AV → Heap → Nat → Prop) : gcSC (sexec E0 (FE (fun _ _ => False) [withinC] []) Tryz.f53 []) [.agg c.cells] .e 0 k =
    (k (.int false .i64 (r6 c)) .e 0) := by kernel_rfl
theorem rule6_ok : SOK E0 53 (scN 0 rule6P) :=
  (gcSC_ok (fun_ok (FE_ok E0_ok (.cons withinC_ok .nil) .nil) T0_ok (f := 53) (fn := Tryz.f53) (by kernel_rfl) (ls := []) .nil)).spec0 fun args L k h => by
    unfold rule6P at h; split at h
    · rename_i nodes np cp fp ns cs fs long nb cb fb nst ct ft miss good fresh
      obtain ⟨hc, h⟩ := h
      refine ⟨rfl, _, .cons (Wk.cfg hc).agg .nil, ?_⟩
      rw [rule6_sx]
      exact kR h
    · exact h.elim
noncomputable abbrev rule6C : Nat × FC := (53, vcall (clrSC (scN 0 rule6P)))
theorem rule6C_ok : FOK E0 53 (vcall (clrSC (scN 0 rule6P))) := vcall_ok (clrSC_ok rule6_ok)

/-! ## sennit/configs.rules$8 -/
def rule8P : SCP := fun args L k => match args, L with
  | [.agg [.int false .i64 nodes, .isl 1 np _ fp, .isl 1 ns _ fs, .int false .i64 long, .isl 1 nb _ fb, .isl 3 nst _ ft, .int false .i64 miss, .int false .i64 good, .int false .i64 fresh]], [] => (CfgOk np fp ns fs nb fb nst ft) ∧ k (.int false .i64 (r8 (cfg9 nodes np fp ns fs long nb fb nst ft miss good fresh))) .e 0
  | _, _ => False
theorem rule8_sx (c : Cfg) (k : AV → Heap → Nat → Prop) : gcSC (sexec E0 (FE (fun _ _ => False) [withinC] []) Tryz.f57 []) [.agg c.cells] .e 0 k =
    (k (.int false .i64 (r8 c)) .e 0) := by kernel_rfl
theorem rule8_ok : SOK E0 57 (scN 0 rule8P) :=
  (gcSC_ok (fun_ok (FE_ok E0_ok (.cons withinC_ok .nil) .nil) T0_ok (f := 57) (fn := Tryz.f57) (by kernel_rfl) (ls := []) .nil)).spec0 fun args L k h => by
    unfold rule8P at h; split at h
    · rename_i nodes np cp fp ns cs fs long nb cb fb nst ct ft miss good fresh
      obtain ⟨hc, h⟩ := h
      refine ⟨rfl, _, .cons (Wk.cfg hc).agg .nil, ?_⟩
      rw [rule8_sx]
      exact kR h
    · exact h.elim
noncomputable abbrev rule8C : Nat × FC := (57, vcall (clrSC (scN 0 rule8P)))
theorem rule8C_ok : FOK E0 57 (vcall (clrSC (scN 0 rule8P))) := vcall_ok (clrSC_ok rule8_ok)

/-! ## sennit/configs.rules$7 -/
def rule7P : SCP := fun args L k => match args, L with
  | [.agg [.int false .i64 nodes, .isl 1 np _ fp, .isl 1 ns _ fs, .int false .i64 long, .isl 1 nb _ fb, .isl 3 nst _ ft, .int false .i64 miss, .int false .i64 good, .int false .i64 fresh]], [] => (CfgOk np fp ns fs nb fb nst ft) ∧ k (.int false .i64 (r7 (cfg9 nodes np fp ns fs long nb fb nst ft miss good fresh))) .e 0
  | _, _ => False
theorem rule7_sx (c : Cfg) (k : AV → Heap → Nat → Prop) : gcSC (sexec E0 (FE (fun _ _ => False) [mustC, eachC, firstC] []) Tryz.f54 []) [.agg c.cells] .e 0 k =
    ((Ints .i64 (fun j => [.int false .i64 (c.boots j)]) c.nb ∧ Len c.nb) ∧ Ints .i64 (lst [.int false .i64 (must (decide ((c.nb : Int) = c.nodes))), .int false .i64 (each c.boots 0 4096 0 c.nb)]) 2 ∧ k (.int false .i64 (r7 c)) .e 0) := by kernel_rfl
theorem rule7_ok : SOK E0 54 (scN 0 rule7P) :=
  (gcSC_ok (fun_ok (FE_ok E0_ok (.cons mustC_ok (.cons eachC_ok (.cons firstC_ok .nil))) .nil) T0_ok (f := 54) (fn := Tryz.f54) (by kernel_rfl) (ls := []) .nil)).spec0 fun args L k h => by
    unfold rule7P at h; split at h
    · rename_i nodes np cp fp ns cs fs long nb cb fb nst ct ft miss good fresh
      obtain ⟨hc, h⟩ := h
      refine ⟨rfl, _, .cons (Wk.cfg hc).agg .nil, ?_⟩
      rw [rule7_sx]
      exact ⟨⟨.of, hc.2.2.2.1⟩, lst2, kR h⟩
    · exact h.elim
noncomputable abbrev rule7C : Nat × FC := (54, vcall (clrSC (scN 0 rule7P)))
theorem rule7C_ok : FOK E0 54 (vcall (clrSC (scN 0 rule7P))) := vcall_ok (clrSC_ok rule7_ok)

/-! ## sennit/configs.rules$10 -/
def rule10P : SCP := fun args L k => match args, L with
  | [.agg [.int false .i64 nodes, .isl 1 np _ fp, .isl 1 ns _ fs, .int false .i64 long, .isl 1 nb _ fb, .isl 3 nst _ ft, .int false .i64 miss, .int false .i64 good, .int false .i64 fresh]], [] => (CfgOk np fp ns fs nb fb nst ft) ∧ k (.int false .i64 (r10 (cfg9 nodes np fp ns fs long nb fb nst ft miss good fresh))) .e 0
  | _, _ => False
theorem rule10_sx (c : Cfg) (k : AV → Heap → Nat → Prop) : gcSC (sexec E0 (FE (fun _ _ => False) [eachC] []) Tryz.f59 []) [.agg c.cells] .e 0 k =
    ((Ints .i64 (lst [.int false .i64 c.miss, .int false .i64 c.good, .int false .i64 c.fresh]) 3 ∧ Len 3) ∧ k (.int false .i64 (r10 c)) .e 0) := by kernel_rfl
theorem rule10_ok : SOK E0 59 (scN 0 rule10P) :=
  (gcSC_ok (fun_ok (FE_ok E0_ok (.cons eachC_ok .nil) .nil) T0_ok (f := 59) (fn := Tryz.f59) (by kernel_rfl) (ls := []) .nil)).spec0 fun args L k h => by
    unfold rule10P at h; split at h
    · rename_i nodes np cp fp ns cs fs long nb cb fb nst ct ft miss good fresh
      obtain ⟨hc, h⟩ := h
      refine ⟨rfl, _, .cons (Wk.cfg hc).agg .nil, ?_⟩
      rw [rule10_sx]
      exact ⟨⟨lst3, by unfold Len; omega⟩, kR h⟩
    · exact h.elim
noncomputable abbrev rule10C : Nat × FC := (59, vcall (clrSC (scN 0 rule10P)))
theorem rule10C_ok : FOK E0 59 (vcall (clrSC (scN 0 rule10P))) := vcall_ok (clrSC_ok rule10_ok)

noncomputable def rule5B : Code := loopB ((items (bodyOf Tryz.f51)).getD 0 .skip)

noncomputable def rule9B : Code := loopB ((items (bodyOf Tryz.f58)).getD 0 .skip)

noncomputable abbrev ringI : Nat × SC := (77, sexec E0 (FE (fun _ _ => False) [] []) Tryz.f77 [])
theorem ringI_ok : SOK E0 77 ringI.2 :=
  fun_ok (FE_ok E0_ok .nil .nil) T0_ok (f := 77) (fn := Tryz.f77) (by kernel_rfl) (ls := []) .nil

noncomputable abbrev rnodeI : Nat × SC := (78, sexec E0 (FE (fun _ _ => False) [] []) Tryz.f78 [])
theorem rnodeI_ok : SOK E0 78 rnodeI.2 :=
  fun_ok (FE_ok E0_ok .nil .nil) T0_ok (f := 78) (fn := Tryz.f78) (by kernel_rfl) (ls := []) .nil

def rnd (n i : Int) : Int := (IntKind.wrap .i64 (i.tmod n + n)).tmod n
def step (n : Int) (d : Int) (a st : Int) : Int := bif decide (n ≥ 4) && decide (n ≤ 16) then bif decide (a ≥ 0) && decide (a < n) then rnd n (IntKind.wrap .i64 (a + IntKind.wrap .i64 ((bif decide (d = 0) then 1 else -1) * st.tmod n))) else -1 else -1
/-! ## sennit/rings.round -/
def rroundP : SCP := fun args L k => match args, L with
  | [.int false .i64 n, .int false .i64 i], [] => (n ≠ 0) ∧ k (.int false .i64 (rnd n i)) .e 0
  | _, _ => False
theorem rround_sx (n i : Int) (k : AV → Heap → Nat → Prop) : gcSC (sexec E0 (FE (fun _ _ => False) [] []) Tryz.f79 []) [.int false .i64 n, .int false .i64 i] .e 0 k =
    (bcase (decide (n ≠ 0)) (bcase (decide (n ≠ 0)) (k (.int false .i64 (rnd n i)) .e 0) False) False) := by kernel_rfl
theorem rround_ok : SOK E0 79 (scN 0 rroundP) :=
  (gcSC_ok (fun_ok (FE_ok E0_ok .nil .nil) T0_ok (f := 79) (fn := Tryz.f79) (by kernel_rfl) (ls := []) .nil)).spec0 fun args L k h => by
    unfold rroundP at h; split at h
    · obtain ⟨hc, h⟩ := h
      refine ⟨rfl, _, .refl _, ?_⟩
      rw [rround_sx]
      exact bc_t (by simpa using hc) (bc_t (by simpa using hc) (kR h))
    · exact h.elim
noncomputable abbrev rroundC : Nat × FC := (79, vcall (clrSC (scN 0 rroundP)))
theorem rroundC_ok : FOK E0 79 (vcall (clrSC (scN 0 rroundP))) := vcall_ok (clrSC_ok rround_ok)

/-! ## sennit/rings.Step -/
def step0P : SCP := fun args L k => match args, L with
  | [.int false .i64 n, .int false .u8 0, .int false .i64 a, .int false .i64 st], [] => k (.int false .i64 (step n 0 a st)) .e 0
  | _, _ => False
theorem step0_sx (n a st : Int) (k : AV → Heap → Nat → Prop) : gcSC (sexec E0 (FE (fun _ _ => False) [rroundC] [ringI, rnodeI]) Tryz.f65 []) [.int false .i64 n, .int true .u8 0, .int false .i64 a, .int false .i64 st] .e 0 k =
    (bcase (decide (n ≥ 4)) (bcase (decide (n ≤ 16)) (bcase (decide (a ≥ 0)) (bcase (!decide (a < n)) (k (.int true .i64 (-1)) .e 0)
      (bcase (decide (n ≠ 0)) (n ≠ 0 ∧ k (.int false .i64 (rnd n (IntKind.wrap .i64 (a + IntKind.wrap .i64 (1 * st.tmod n))))) .e 0) False)) (k (.int true .i64 (-1)) .e 0)) (k (.int true .i64 (-1)) .e 0)) (k (.int true .i64 (-1)) .e 0)) := by kernel_rfl
theorem step0_ok : SOK E0 65 (scN 0 step0P) :=
  (gcSC_ok (fun_ok (FE_ok E0_ok (.cons rroundC_ok .nil) (.cons (f := 77) (sc := ringI.2) ringI_ok (.cons (f := 78) (sc := rnodeI.2) rnodeI_ok .nil))) T0_ok (f := 65) (fn := Tryz.f65) (by kernel_rfl) (ls := []) .nil)).spec0 fun args L k h => by
    unfold step0P at h; split at h
    · rename_i n a st
      refine ⟨rfl, _, .cons (.refl _) (.cons (Wk.int (l' := true)) (.refl _)), ?_⟩
      rw [step0_sx]
      exact bc_i (fun c1 => bc_i (fun c2 => bc_i (fun c3 => bc_i (fun c4 => kI h (by simp [step, c1, c2, c3, show decide (a < n) = false by simpa using c4])) fun c4 => bc_t (by simp at c1; simp; omega) ⟨by simp at c1; omega, by
        have c5 : decide (a < n) = true := by simpa using c4
        have : step n 0 a st = rnd n (IntKind.wrap .i64 (a + IntKind.wrap .i64 (1 * st.tmod n))) := by simp [step, c1, c2, c3, c5]
        rw [this] at h; exact kR h⟩) fun c3 => kI h (by simp [step, c1, c2, c3])) fun c2 => kI h (by simp [step, c1, c2])) fun c1 => kI h (by simp [step, c1])
    · exact h.elim
noncomputable abbrev step0C : Nat × FC := (65, vcall (clrSC (scN 0 step0P)))
theorem step0C_ok : FOK E0 65 (vcall (clrSC (scN 0 step0P))) := vcall_ok (clrSC_ok step0_ok)

/-! ## sennit/rings.Step -/
def step1P : SCP := fun args L k => match args, L with
  | [.int false .i64 n, .int false .u8 1, .int false .i64 a, .int false .i64 st], [] => k (.int false .i64 (step n 1 a st)) .e 0
  | _, _ => False
theorem step1_sx (n a st : Int) (k : AV → Heap → Nat → Prop) : gcSC (sexec E0 (FE (fun _ _ => False) [rroundC] [ringI, rnodeI]) Tryz.f65 []) [.int false .i64 n, .int true .u8 1, .int false .i64 a, .int false .i64 st] .e 0 k =
    (bcase (decide (n ≥ 4)) (bcase (decide (n ≤ 16)) (bcase (decide (a ≥ 0)) (bcase (!decide (a < n)) (k (.int true .i64 (-1)) .e 0)
      (bcase (decide (n ≠ 0)) (n ≠ 0 ∧ k (.int false .i64 (rnd n (IntKind.wrap .i64 (a + IntKind.wrap .i64 ((-1) * st.tmod n))))) .e 0) False)) (k (.int true .i64 (-1)) .e 0)) (k (.int true .i64 (-1)) .e 0)) (k (.int true .i64 (-1)) .e 0)) := by kernel_rfl
theorem step1_ok : SOK E0 65 (scN 0 step1P) :=
  (gcSC_ok (fun_ok (FE_ok E0_ok (.cons rroundC_ok .nil) (.cons (f := 77) (sc := ringI.2) ringI_ok (.cons (f := 78) (sc := rnodeI.2) rnodeI_ok .nil))) T0_ok (f := 65) (fn := Tryz.f65) (by kernel_rfl) (ls := []) .nil)).spec0 fun args L k h => by
    unfold step1P at h; split at h
    · rename_i n a st
      refine ⟨rfl, _, .cons (.refl _) (.cons (Wk.int (l' := true)) (.refl _)), ?_⟩
      rw [step1_sx]
      exact bc_i (fun c1 => bc_i (fun c2 => bc_i (fun c3 => bc_i (fun c4 => kI h (by simp [step, c1, c2, c3, show decide (a < n) = false by simpa using c4])) fun c4 => bc_t (by simp at c1; simp; omega) ⟨by simp at c1; omega, by
        have c5 : decide (a < n) = true := by simpa using c4
        have : step n 1 a st = rnd n (IntKind.wrap .i64 (a + IntKind.wrap .i64 ((-1) * st.tmod n))) := by simp [step, c1, c2, c3, c5]
        rw [this] at h; exact kR h⟩) fun c3 => kI h (by simp [step, c1, c2, c3])) fun c2 => kI h (by simp [step, c1, c2])) fun c1 => kI h (by simp [step, c1])
    · exact h.elim
noncomputable abbrev step1C : Nat × FC := (65, vcall (clrSC (scN 0 step1P)))
theorem step1C_ok : FOK E0 65 (vcall (clrSC (scN 0 step1P))) := vcall_ok (clrSC_ok step1_ok)

def has (c : Cfg) (p : Nat) : Bool := !decide (findI (fun j => Int.ofNat p == c.slots j) 0 c.ns < 0)
def allc (b : Bool) (c : Cfg) : Nat → Bool
  | 0 => b
  | i + 1 => bif allc b c i then has c i else false
def insC (c : Cfg) : Bool := decide (findI (fun j => outB c.np (c.slots j)) 0 c.ns < 0)
def r5 (c : Cfg) : Int := must (allc (insC c) c c.np)
noncomputable def bx (c : Cfg) : Heap := Tr.puts .e [(0, .cells 25 c.cells)]
noncomputable def lp5ST (c : Cfg) (b : Bool) (i : Int) : St := ⟨putT [1, 3, 13, 14] [.ptr 0 0, .bool b, .int false .i64 (Int.ofNat c.np), .int false .i64 i] .e, bx c, 16, 27, none⟩
theorem lp5_round (c : Cfg) (b : Bool) (i : Nat) (next : St → Prop) (K : Exit → List AV → Heap → Nat → Prop) :
  roundG E0 (FE (fun _ _ => False) [containsC] []) rule5B [] (gcT [1, 3, 13, 14]) next (endK [3] 27 K) (lp5ST c b (Int.ofNat i)) =
    (bcase (decide (Int.ofNat i < Int.ofNat c.np)) (bcase b ((Ints .i64 (fun j => [.int false .i64 (c.slots j)]) c.ns ∧ Len c.ns) ∧ next (lp5ST c  (has c i) (IntKind.wrap .i64 (Int.ofNat i + 1)))) (next (lp5ST c  false (IntKind.wrap .i64 (Int.ofNat i + 1))))) (K (.exit 0) [.bool b] (bx c) 16)) := by kernel_rfl

def lp5P : LSP := fun args L K => match args, L with
  | [.ptr 0 0, .bool b0, .int false .i64 m, .int false .i64 i], [(0, .cells 25 [.int false .i64 nodes, .isl 1 np cp fp, .isl 1 ns cs fs, .int false .i64 long, .isl 1 nb cb fb, .isl 3 nst ct ft, .int false .i64 miss, .int false .i64 good, .int false .i64 fresh])] => ([.int false .i64 nodes, .isl 1 np cp fp, .isl 1 ns cs fs, .int false .i64 long, .isl 1 nb cb fb, .isl 3 nst ct ft, .int false .i64 miss, .int false .i64 good, .int false .i64 fresh] = (cfg9 nodes np fp ns fs long nb fb nst ft miss good fresh).cells ∧ Cfg.small (cfg9 nodes np fp ns fs long nb fb nst ft miss good fresh) ∧ m = np ∧ i = 0) ∧ K (.exit 0) [.bool (allc b0 (cfg9 nodes np fp ns fs long nb fb nst ft miss good fresh) np)] (bx (cfg9 nodes np fp ns fs long nb fb nst ft miss good fresh)) 16
  | _, _ => False
def lp5L : LSC := atN 16 lp5P
theorem lp5L_ok : LSOK E0 false (.loop rule5B) 27 [1, 3, 13, 14] [3] lp5L :=
  LSOK_at fun args L K hfr h => by
    unfold lp5P at h; split at h
    · rename_i b0 m i nodes np cp fp ns cs fs long nb cb fb nst ct ft miss good fresh
      obtain ⟨⟨he, hsm, rfl, rfl⟩, hk⟩ := h
      rw [he] at hfr ⊢
      obtain ⟨c, hc⟩ : ∃ c, c = cfg9 nodes np fp ns fs long nb fb nst ft miss good fresh := ⟨_, rfl⟩
      have hnp : np = c.np := by rw [hc]; rfl
      rw [← hc] at hfr hk hsm ⊢
      subst hnp
      refine loop_T (FE_ok E0_ok (.cons containsC_ok .nil) .nil) .nil [1, 3, 13, 14] (fun i => lp5ST c (allc b0 c i) (Int.ofNat i)) (fun i => K (.exit 0) [.bool (allc b0 c c.np)] (bx c) 16) c.np (fun i hi hd next hnx => ?_) (fun hd next => ?_) hk
      · rw [lp5_round]
        refine bc_t (lt_t hi) ?_
        rw [wrap_succ hi hsm.1]
        have hnx := hnx hd
        refine bc_i (fun b => ⟨⟨.of, hsm.2.1⟩, ?_⟩) (fun b => ?_)
        · rw [show allc b0 c (i + 1) = has c i by simp [allc, b]] at hnx; exact hnx
        · rw [show allc b0 c (i + 1) = false by simp [allc, b]] at hnx; exact hnx
      · rw [lp5_round]
        exact bc_f (lt_f (Nat.le_refl _)) hd
    · exact h.elim

/-! ## sennit/configs.rules$5 -/
def rule5P : SCP := fun args L k => match args, L with
  | [.agg [.int false .i64 nodes, .isl 1 np _ fp, .isl 1 ns _ fs, .int false .i64 long, .isl 1 nb _ fb, .isl 3 nst _ ft, .int false .i64 miss, .int false .i64 good, .int false .i64 fresh]], [] => (CfgOk np fp ns fs nb fb nst ft) ∧ k (.int false .i64 (r5 (cfg9 nodes np fp ns fs long nb fb nst ft miss good fresh))) .e 0
  | _, _ => False
theorem rule5_sx (c : Cfg) (k : AV → Heap → Nat → Prop) : gcSC (sexec E0 (FE (fun _ _ => False) [insideC, containsC, mustC] []) Tryz.f51 [LCd 27 [1, 3, 13, 14] [3] lp5L]) [.agg c.cells] .e 0 k =
    ((Ints .i64 (fun j => [.int false .i64 (c.slots j)]) c.ns ∧ Len c.ns) ∧ (c.cells = c.cells ∧ Cfg.small c ∧ (c.np : Int) = c.np ∧ (0 : Int) = 0) ∧ k (.int false .i64 (r5 c)) .e 0) := by kernel_rfl
theorem rule5_ok : SOK E0 51 (scN 0 rule5P) :=
  (gcSC_ok (fun_ok (FE_ok E0_ok (.cons insideC_ok (.cons containsC_ok (.cons mustC_ok .nil))) .nil) T0_ok (f := 51) (fn := Tryz.f51) (by kernel_rfl) (ls := [LCd 27 [1, 3, 13, 14] [3] lp5L]) (by rw [show items (bodyOf Tryz.f51) = [.loop rule5B] by kernel_rfl]; exact (.cons (LCd_ok lp5L_ok) .nil)))).spec0 fun args L k h => by
    unfold rule5P at h; split at h
    · rename_i nodes np cp fp ns cs fs long nb cb fb nst ct ft miss good fresh
      obtain ⟨hc, h⟩ := h
      refine ⟨rfl, _, .cons (Wk.cfg hc).agg .nil, ?_⟩
      rw [rule5_sx]
      exact ⟨⟨.of, hc.2.2.1⟩, ⟨rfl, hc.2, rfl, rfl⟩, kR h⟩
    · exact h.elim
noncomputable abbrev rule5C : Nat × FC := (51, vcall (clrSC (scN 0 rule5P)))
theorem rule5C_ok : FOK E0 51 (vcall (clrSC (scN 0 rule5P))) := vcall_ok (clrSC_ok rule5_ok)

end Go.Sx

namespace Go.Sx
open Go.Proofs
set_option maxRecDepth 1000000

def st9 (c : Cfg) (i : Nat) : Int := first2 (must (decide (c.sa i ≥ 0) && decide (c.sa i < c.nodes))) (within (c.sc i) 1 100)
def sts (c : Cfg) : Nat → Nat → Int
  | _, 0 => 0
  | i, m + 1 => bif st9 c i != 0 then st9 c i else sts c (i + 1) m
def r9 (c : Cfg) : Int := sts c 0 c.nst

noncomputable def lp9ST (c : Cfg) (i : Int) : St := ⟨putT [1, 7, 8, 9, 2] [.ptr 0 0, .isl 3 c.nst none (fun j => [.int false .i64 (c.sa j), .int false .u32 (c.sb j), .int false .i64 (c.sc j)]), .int false .i64 (Int.ofNat c.nst), .int false .i64 i, .int false .i64 0] .e, bx c, 16, 33, none⟩
theorem lp9_round (c : Cfg) (i : Nat) (next : St → Prop) (K : Exit → List AV → Heap → Nat → Prop) :
  roundG E0 (FE (fun _ _ => False) [mustC, withinC, firstC] []) rule9B [] (gcS 16 [1, 7, 8, 9, 2]) next (endG 16 [2] 33 K) (lp9ST c (Int.ofNat i)) =
    (bcase (decide (Int.ofNat i < Int.ofNat c.nst)) (bcase (decide (0 ≤ Int.ofNat i ∧ Int.ofNat i < (c.nst : Int))) (bcase (decide (c.sa i ≥ 0)) (Ints .i64 (lst [.int false .i64 (must (decide (c.sa i < c.nodes))), .int false .i64 (within (c.sc i) 1 100)]) 2 ∧ bcase (first2 (geti (lst [.int false .i64 (must (decide (c.sa i < c.nodes))), .int false .i64 (within (c.sc i) 1 100)]) 0) (geti (lst [.int false .i64 (must (decide (c.sa i < c.nodes))), .int false .i64 (within (c.sc i) 1 100)]) 1) != 0) (K .ret [.int false .i64 (first2 (geti (lst [.int false .i64 (must (decide (c.sa i < c.nodes))), .int false .i64 (within (c.sc i) 1 100)]) 0) (geti (lst [.int false .i64 (must (decide (c.sa i < c.nodes))), .int false .i64 (within (c.sc i) 1 100)]) 1))] (bx c) 16) (next (lp9ST c  (IntKind.wrap .i64 (Int.ofNat i + 1))))) (Ints .i64 (lst [.int false .i64 (must false), .int false .i64 (within (c.sc i) 1 100)]) 2 ∧ bcase (first2 (geti (lst [.int false .i64 (must false), .int false .i64 (within (c.sc i) 1 100)]) 0) (geti (lst [.int false .i64 (must false), .int false .i64 (within (c.sc i) 1 100)]) 1) != 0) (K .ret [.int false .i64 (first2 (geti (lst [.int false .i64 (must false), .int false .i64 (within (c.sc i) 1 100)]) 0) (geti (lst [.int false .i64 (must false), .int false .i64 (within (c.sc i) 1 100)]) 1))] (bx c) 16) (next (lp9ST c  (IntKind.wrap .i64 (Int.ofNat i + 1)))))) False) (K (.exit 0) [.int false .i64 0] (bx c) 16)) := by kernel_rfl

def lp9P : LSP := fun args L K => match args, L with
  | [.ptr 0 0, .isl 3 n _ f, .int false .i64 m, .int false .i64 i, .int false .i64 r], [(0, .cells 25 [.int false .i64 nodes, .isl 1 np cp fp, .isl 1 ns cs fs, .int false .i64 long, .isl 1 nb cb fb, .isl 3 nst ct ft, .int false .i64 miss, .int false .i64 good, .int false .i64 fresh])] => ([.int false .i64 nodes, .isl 1 np cp fp, .isl 1 ns cs fs, .int false .i64 long, .isl 1 nb cb fb, .isl 3 nst ct ft, .int false .i64 miss, .int false .i64 good, .int false .i64 fresh] = (cfg9 nodes np fp ns fs long nb fb nst ft miss good fresh).cells ∧ Cfg.small (cfg9 nodes np fp ns fs long nb fb nst ft miss good fresh) ∧ (n = nst ∧ Ints3 .i64 .u32 .i64 f nst ∧ getk f 0 = getk ft 0 ∧ getk f 1 = getk ft 1 ∧ getk f 2 = getk ft 2) ∧ m = nst ∧ i = 0 ∧ r = 0) ∧ bcase (r9 (cfg9 nodes np fp ns fs long nb fb nst ft miss good fresh) != 0) (K .ret [.int false .i64 (r9 (cfg9 nodes np fp ns fs long nb fb nst ft miss good fresh))] (bx (cfg9 nodes np fp ns fs long nb fb nst ft miss good fresh)) 16) (K (.exit 0) [.int false .i64 0] (bx (cfg9 nodes np fp ns fs long nb fb nst ft miss good fresh)) 16)
  | _, _ => False
def lp9L : LSC := atN 16 lp9P
theorem lp9L_ok : LSOK E0 false (.loop rule9B) 33 [1, 7, 8, 9, 2] [2] lp9L :=
  LSOK_at fun args L K hfr h => by
    unfold lp9P at h; split at h
    · rename_i n cap f m i r nodes np cp fp ns cs fs long nb cb fb nst ct ft miss good fresh
      obtain ⟨⟨he, hsm, ⟨rfl, hf, e1, e2, e3⟩, rfl, rfl, rfl⟩, hk⟩ := h
      rw [he] at hfr ⊢
      obtain ⟨c, hc⟩ : ∃ c, c = cfg9 nodes np fp ns fs long nb fb n ft miss good fresh := ⟨_, rfl⟩
      have hnp : n = c.nst := by rw [hc]; rfl
      have ea : getk f 0 = c.sa := by rw [hc, e1]; rfl
      have eb : getk f 1 = c.sb := by rw [hc, e2]; rfl
      have ec : getk f 2 = c.sc := by rw [hc, e3]; rfl
      rw [← hc] at hfr hk hsm ⊢
      subst hnp
      refine COK.less (.cons (.refl _) (.cons (.trans .cap (Wk.isl (f' := fun j => [.int false .i64 (c.sa j), .int false .u32 (c.sb j), .int false .i64 (c.sc j)]) (by rw [← ea, ← eb, ← ec]; exact hf))) (.refl _))) ?_
      refine COK.gcE 16 rfl ?_
      refine loop_S (FE_ok E0_ok (.cons mustC_ok (.cons withinC_ok (.cons firstC_ok .nil))) .nil) .nil 16 [1, 7, 8, 9, 2] (fun i => lp9ST c (Int.ofNat i)) (fun i => bcase (sts c i (c.nst - i) != 0) (K .ret [.int false .i64 (sts c i (c.nst - i))] (bx c) 16) (K (.exit 0) [.int false .i64 0] (bx c) 16)) c.nst rfl (fun i hi hd next hnx => ?_) (fun hd next => ?_) hk
      · rw [lp9_round]
        refine bc_t (lt_t hi) (bc_t (in_t hi) ?_)
        rw [wrap_succ hi hsm.2.2.2]
        rw [show c.nst - i = (c.nst - (i + 1)) + 1 by omega] at hd
        have go : ∀ b, (decide (c.sa i ≥ 0) && decide (c.sa i < c.nodes)) = b → Ints .i64 (lst [.int false .i64 (must b), .int false .i64 (within (c.sc i) 1 100)]) 2 ∧ bcase (first2 (must b) (within (c.sc i) 1 100) != 0) (K .ret [.int false .i64 (first2 (must b) (within (c.sc i) 1 100))] (bx c) 16) (next (lp9ST c (Int.ofNat (i + 1)))) := fun b hb => by
          refine ⟨lst2, ?_⟩
          have e9 : st9 c i = first2 (must b) (within (c.sc i) 1 100) := by unfold st9; rw [hb]
          rw [← e9]
          refine bc_i (fun d => ?_) fun d => hnx ?_
          · simp only [sts, d, cond_true] at hd; exact hd
          · simp only [sts, d, cond_false] at hd; exact hd
        exact bc_i (fun d => go _ (by rw [d]; rfl)) fun d => go _ (by rw [d]; rfl)
      · rw [lp9_round]
        refine bc_f (lt_f (Nat.le_refl _)) ?_
        rw [Nat.sub_self] at hd; exact hd
    · exact h.elim

/-! ## sennit/configs.rules$9 -/
def rule9P : SCP := fun args L k => match args, L with
  | [.agg [.int false .i64 nodes, .isl 1 np _ fp, .isl 1 ns _ fs, .int false .i64 long, .isl 1 nb _ fb, .isl 3 nst _ ft, .int false .i64 miss, .int false .i64 good, .int false .i64 fresh]], [] => (CfgOk np fp ns fs nb fb nst ft) ∧ k (.int false .i64 (r9 (cfg9 nodes np fp ns fs long nb fb nst ft miss good fresh))) .e 0
  | _, _ => False
theorem rule9_sx (c : Cfg) (k : AV → Heap → Nat → Prop) : gcSC (sexec E0 (FE (fun _ _ => False) [] []) Tryz.f58 [LCd 33 [1, 7, 8, 9, 2] [2] lp9L]) [.agg c.cells] .e 0 k =
    ((c.cells = c.cells ∧ Cfg.small c ∧ (c.nst = c.nst ∧ Ints3 .i64 .u32 .i64 (fun j => [.int false .i64 (c.sa j), .int false .u32 (c.sb j), .int false .i64 (c.sc j)]) c.nst ∧ c.sa = c.sa ∧ c.sb = c.sb ∧ c.sc = c.sc) ∧ (c.nst : Int) = c.nst ∧ (0 : Int) = 0 ∧ (0 : Int) = 0) ∧ bcase (r9 c != 0) (k (.int false .i64 (r9 c)) .e 0) (k (.int true .i64 0) .e 0)) := by kernel_rfl
theorem rule9_ok : SOK E0 58 (scN 0 rule9P) :=
  (gcSC_ok (fun_ok (FE_ok E0_ok .nil .nil) T0_ok (f := 58) (fn := Tryz.f58) (by kernel_rfl) (ls := [LCd 33 [1, 7, 8, 9, 2] [2] lp9L]) (by rw [show items (bodyOf Tryz.f58) = [.loop rule9B] by kernel_rfl]; exact (.cons (LCd_ok lp9L_ok) .nil)))).spec0 fun args L k h => by
    unfold rule9P at h; split at h
    · rename_i nodes np cp fp ns cs fs long nb cb fb nst ct ft miss good fresh
      obtain ⟨hc, h⟩ := h
      refine ⟨rfl, _, .cons (Wk.cfg hc).agg .nil, ?_⟩
      rw [rule9_sx]
      exact ⟨⟨rfl, hc.2, ⟨rfl, fun _ _ => rfl, rfl, rfl, rfl⟩, rfl, rfl, rfl⟩, bc_i (fun _ => kR h) fun d => kI h (bne_f d).symm⟩
    · exact h.elim
noncomputable abbrev rule9C : Nat × FC := (58, vcall (clrSC (scN 0 rule9P)))
theorem rule9C_ok : FOK E0 58 (vcall (clrSC (scN 0 rule9P))) := vcall_ok (clrSC_ok rule9_ok)

end Go.Sx
