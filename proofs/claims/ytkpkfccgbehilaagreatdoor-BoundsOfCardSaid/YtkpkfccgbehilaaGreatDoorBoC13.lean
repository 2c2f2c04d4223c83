/- Part of an own symbolic executor for the model's code, proved sound, and of the proof of one statement (see the text of the claimed theorem). -/
import Derived.Test.YtkpkfccgbehilaaGreatDoorBoC9
import Derived.Test.YtkpkfccgbehilaaGreatDoorSxAP
namespace Go.Sx
open Go.Proofs
set_option maxRecDepth 1000000

noncomputable def FRd : Fs := fsOf E0 FT0 64 (fun _ => true) (FE (fun _ _ => False) [] []) 4
theorem FRd_ok : FsEnv E0 FRd := fsOf_ok E0_ok T0_ok 64 _ (FE_ok E0_ok .nil .nil) 4
def rdv (c : Cfg) : Int := IntKind.wrap .i64 ((c.ns : Int) * c.long)
def stv (c : Cfg) : Int := IntKind.wrap .i64 (mxs c.boots (c.nb - 1) + IntKind.wrap .i64 (6 * c.nodes))
def hdv (c : Cfg) : Int := IntKind.wrap .i64 (stv c + IntKind.wrap .i64 (4 * c.long))
def agv (c : Cfg) : Int := IntKind.wrap .i64 (hdv c + rdv c)
def otv (c : Cfg) : Int := IntKind.wrap .i64 (IntKind.wrap .i64 (c.miss + 1) * rdv c)
def inv (c : Cfg) : Int := IntKind.wrap .i64 (IntKind.wrap .i64 (c.good + 1) * rdv c)
def tkv (c : Cfg) : Int := IntKind.wrap .i64 (otv c + rdv c)
def frv (c : Cfg) : Int := IntKind.wrap .i64 (2 * IntKind.wrap .i64 (c.long + c.nodes))
theorem rd_f {c : Cfg} (h : rdv c ≠ 0) : (rdv c == 0) = false := by simpa using h

/-! ## (*sennit/configs.Net).Round -/
theorem nrd_sx (c : Cfg) (N : Nat) (cap : Option Nat) (f : Nat → List AV) (k : AV → Heap → Nat → Prop) : gcSC (sexec E0 FRd Tryz.f29 []) [.iref (c.cells ++ [.isl 1 N cap f])] .e 0 k =
  (bcase (!(decide ((N : Int) > 0))) (k (.int true .i64 0) .e 0) (k (.int false .i64 (rdv c)) .e 0)) := by kernel_rfl
def nrdP : SCP := fun args L k => match args, L with
  | [.iref [.int false .i64 nodes, .isl 1 np _ fp, .isl 1 ns _ fs, .int false .i64 long, .isl 1 nb _ fb, .isl 3 nst _ ft, .int false .i64 miss, .int false .i64 good, .int false .i64 fresh, .isl 1 N _ _]], [] => (CfgOk np fp ns fs nb fb nst ft ∧ 0 < N) ∧ k (.int false .i64 (rdv (cfg9 nodes np fp ns fs long nb fb nst ft miss good fresh))) .e 0
  | _, _ => False
theorem nrd_ok : SOK E0 29 (scN 0 nrdP) :=
  (gcSC_ok (fun_ok FRd_ok T0_ok (f := 29) (fn := Tryz.f29) (by kernel_rfl) (ls := []) .nil)).spec0 fun args L k h => by
    unfold nrdP at h; split at h
    · rename_i nodes np cp fp ns cs fs long nb cb fb nst ct ft miss good fresh N cap f
      obtain ⟨⟨hc, hN⟩, h⟩ := h
      refine ⟨rfl, _, .cons ((Wk.cfg hc).app (.cons (.refl (.isl 1 N cap f)) .nil)).iref .nil, ?_⟩
      rw [nrd_sx]
      exact bc_f (by simp; omega) ⟨_, .refl _, h⟩
    · exact h.elim
noncomputable abbrev nrdC : Nat × FC := (29, vcall (clrSC (scN 0 nrdP)))
theorem nrdC_ok : FOK E0 29 (vcall (clrSC (scN 0 nrdP))) := vcall_ok (clrSC_ok nrd_ok)

noncomputable def bdL : List (Nat × Func) := [(6, Tryz.f6), (8, Tryz.f8), (10, Tryz.f10), (12, Tryz.f12), (14, Tryz.f14), (16, Tryz.f16), (18, Tryz.f18), (23, Tryz.f23), (24, Tryz.f24), (26, Tryz.f26), (27, Tryz.f27), (30, Tryz.f30), (31, Tryz.f31), (32, Tryz.f32), (41, Tryz.f41)]
noncomputable def FTb : Tr Func := Tr.puts .e bdL
theorem FTb_ok : TabOk E0.P FTb := tab_sub T0_ok (by unfold bdL; exact (.cons (by kernel_rfl) (.cons (by kernel_rfl) (.cons (by kernel_rfl) (.cons (by kernel_rfl) (.cons (by kernel_rfl) (.cons (by kernel_rfl) (.cons (by kernel_rfl) (.cons (by kernel_rfl) (.cons (by kernel_rfl) (.cons (by kernel_rfl) (.cons (by kernel_rfl) (.cons (by kernel_rfl) (.cons (by kernel_rfl) (.cons (by kernel_rfl) (.cons (by kernel_rfl) .nil))))))))))))))))
noncomputable def FB : Fs := fsOf E0 FTb 64 (fun _ => true) (FE (fun _ _ => False) [mxC, nrdC] []) 12
theorem FB_ok : FsEnv E0 FB := fsOf_ok E0_ok FTb_ok 64 _ (FE_ok E0_ok (.cons mxC_ok (.cons nrdC_ok .nil)) .nil) 12

def ofN (c : Cfg) (N : Nat) (z inner : Prop) : Prop := (c.ok ∧ 0 < N) ∧ bcase (rdv c == 0) z ((c.ok ∧ 0 < N) ∧ inner)
theorem ofN_ok {c : Cfg} {N : Nat} {z inner : Prop} (h : c.ok) (hN : 0 < N) (hr : rdv c ≠ 0) (hi : inner) : ofN c N z inner := ⟨⟨h, hN⟩, bc_f (rd_f hr) ⟨⟨h, hN⟩, hi⟩⟩
def ival : AV → Int
  | .int _ _ x => x
  | _ => 0
def stK (c : Cfg) (N : Nat) (K : AV → Prop) : Prop := ofN c N (K (.int true .i64 0)) ((Ints .i64 (fun j => [.int false .i64 (c.boots j)]) c.nb ∧ Len c.nb ∧ 0 < c.nb) ∧ K (.int false .i64 (stv c)))
theorem stK_ok {c : Cfg} {N : Nat} {K : AV → Prop} (h : c.ok) (hN : 0 < N) (hr : rdv c ≠ 0) (hb : 0 < c.nb) (hk : K (.int false .i64 (stv c))) : stK c N K := ofN_ok h hN hr ⟨⟨.of, h.2.2.2.1, hb⟩, hk⟩
def hdK (c : Cfg) (N : Nat) (K : AV → Prop) : Prop := ofN c N (K (.int true .i64 0)) (stK c N fun v => K (.int false .i64 (IntKind.wrap .i64 (ival v + IntKind.wrap .i64 (4 * c.long)))))
theorem hdK_ok {c : Cfg} {N : Nat} {K : AV → Prop} (h : c.ok) (hN : 0 < N) (hr : rdv c ≠ 0) (hb : 0 < c.nb) (hk : K (.int false .i64 (hdv c))) : hdK c N K := ofN_ok h hN hr (stK_ok h hN hr hb hk)
def agK (c : Cfg) (N : Nat) (K : AV → Prop) : Prop := ofN c N (K (.int true .i64 0)) (hdK c N fun v => K (.int false .i64 (IntKind.wrap .i64 (ival v + rdv c))))
theorem agK_ok {c : Cfg} {N : Nat} {K : AV → Prop} (h : c.ok) (hN : 0 < N) (hr : rdv c ≠ 0) (hb : 0 < c.nb) (hk : K (.int false .i64 (agv c))) : agK c N K := ofN_ok h hN hr (hdK_ok h hN hr hb hk)
def rsK (c : Cfg) (N : Nat) (m : Int) (K : AV → Prop) : Prop := (c.ok ∧ 0 < N) ∧ bcase (rdv c == 0) (K (.int true .i64 0)) (ofN c N (K (.int true .i64 0)) (K (.int false .i64 (IntKind.wrap .i64 (IntKind.wrap .i64 (m + 1) * rdv c)))))
theorem rsK_ok {c : Cfg} {N : Nat} {m : Int} {K : AV → Prop} (h : c.ok) (hN : 0 < N) (hr : rdv c ≠ 0) (hk : K (.int false .i64 (IntKind.wrap .i64 (IntKind.wrap .i64 (m + 1) * rdv c)))) : rsK c N m K := ⟨⟨h, hN⟩, bc_f (rd_f hr) (ofN_ok h hN hr hk)⟩
def tkK (c : Cfg) (N : Nat) (K : AV → Prop) : Prop := ofN c N (K (.int true .i64 0)) (rsK c N c.miss fun v => K (.int false .i64 (IntKind.wrap .i64 (ival v + rdv c))))
theorem tkK_ok {c : Cfg} {N : Nat} {K : AV → Prop} (h : c.ok) (hN : 0 < N) (hr : rdv c ≠ 0) (hk : K (.int false .i64 (tkv c))) : tkK c N K := ofN_ok h hN hr (rsK_ok h hN hr hk)

/-! ## sennit/bounds.Start -/
theorem bst_sx (c : Cfg) (N : Nat) (cap : Option Nat) (f : Nat → List AV) (k : AV → Heap → Nat → Prop) : gcSC (sexec E0 FB Tryz.f6 []) [.iref (c.cells ++ [.isl 1 N cap f])] .e 0 k =
  (stK c N (fun r => k r .e 0)) := by kernel_rfl
def bstP : SCP := fun args L k => match args, L with
  | [.iref [.int false .i64 nodes, .isl 1 np _ fp, .isl 1 ns _ fs, .int false .i64 long, .isl 1 nb _ fb, .isl 3 nst _ ft, .int false .i64 miss, .int false .i64 good, .int false .i64 fresh, .isl 1 N _ _]], [] => (CfgOk np fp ns fs nb fb nst ft ∧ 0 < N ∧ rdv (cfg9 nodes np fp ns fs long nb fb nst ft miss good fresh) ≠ 0 ∧ 0 < nb) ∧ k (.int false .i64 (stv (cfg9 nodes np fp ns fs long nb fb nst ft miss good fresh))) .e 0
  | _, _ => False
theorem bst_ok : SOK E0 6 (scN 0 bstP) :=
  (gcSC_ok (fun_ok FB_ok T0_ok (f := 6) (fn := Tryz.f6) (by kernel_rfl) (ls := []) .nil)).spec0 fun args L k h => by
    unfold bstP at h; split at h
    · rename_i nodes np cp fp ns cs fs long nb cb fb nst ct ft miss good fresh N cap f
      obtain ⟨⟨hc, hN, hr, hb⟩, h⟩ := h
      refine ⟨rfl, _, .cons ((Wk.cfg hc).app (.cons (.refl (.isl 1 N cap f)) .nil)).iref .nil, ?_⟩
      rw [bst_sx]
      exact stK_ok (Cfg.ok_of hc) hN hr hb ⟨_, .refl _, h⟩
    · exact h.elim
noncomputable abbrev bstC : Nat × FC := (6, vcall (clrSC (scN 0 bstP)))
theorem bstC_ok : FOK E0 6 (vcall (clrSC (scN 0 bstP))) := vcall_ok (clrSC_ok bst_ok)

/-! ## sennit/bounds.Heard -/
theorem bhd_sx (c : Cfg) (N : Nat) (cap : Option Nat) (f : Nat → List AV) (k : AV → Heap → Nat → Prop) : gcSC (sexec E0 FB Tryz.f8 []) [.iref (c.cells ++ [.isl 1 N cap f])] .e 0 k =
  (hdK c N (fun r => k r .e 0)) := by kernel_rfl
def bhdP : SCP := fun args L k => match args, L with
  | [.iref [.int false .i64 nodes, .isl 1 np _ fp, .isl 1 ns _ fs, .int false .i64 long, .isl 1 nb _ fb, .isl 3 nst _ ft, .int false .i64 miss, .int false .i64 good, .int false .i64 fresh, .isl 1 N _ _]], [] => (CfgOk np fp ns fs nb fb nst ft ∧ 0 < N ∧ rdv (cfg9 nodes np fp ns fs long nb fb nst ft miss good fresh) ≠ 0 ∧ 0 < nb) ∧ k (.int false .i64 (hdv (cfg9 nodes np fp ns fs long nb fb nst ft miss good fresh))) .e 0
  | _, _ => False
theorem bhd_ok : SOK E0 8 (scN 0 bhdP) :=
  (gcSC_ok (fun_ok FB_ok T0_ok (f := 8) (fn := Tryz.f8) (by kernel_rfl) (ls := []) .nil)).spec0 fun args L k h => by
    unfold bhdP at h; split at h
    · rename_i nodes np cp fp ns cs fs long nb cb fb nst ct ft miss good fresh N cap f
      obtain ⟨⟨hc, hN, hr, hb⟩, h⟩ := h
      refine ⟨rfl, _, .cons ((Wk.cfg hc).app (.cons (.refl (.isl 1 N cap f)) .nil)).iref .nil, ?_⟩
      rw [bhd_sx]
      exact hdK_ok (Cfg.ok_of hc) hN hr hb ⟨_, .refl _, h⟩
    · exact h.elim
noncomputable abbrev bhdC : Nat × FC := (8, vcall (clrSC (scN 0 bhdP)))
theorem bhdC_ok : FOK E0 8 (vcall (clrSC (scN 0 bhdP))) := vcall_ok (clrSC_ok bhd_ok)

/-! ## sennit/bounds.Agreed -/
theorem bag_sx (c : Cfg) (N : Nat) (cap : Option Nat) (f : Nat → List AV) (k : AV → Heap → Nat → Prop) : gcSC (sexec E0 FB Tryz.f10 []) [.iref (c.cells ++ [.isl 1 N cap f])] .e 0 k =
  (agK c N (fun r => k r .e 0)) := by kernel_rfl
def bagP : SCP := fun args L k => match args, L with
  | [.iref [.int false .i64 nodes, .isl 1 np _ fp, .isl 1 ns _ fs, .int false .i64 long, .isl 1 nb _ fb, .isl 3 nst _ ft, .int false .i64 miss, .int false .i64 good, .int false .i64 fresh, .isl 1 N _ _]], [] => (CfgOk np fp ns fs nb fb nst ft ∧ 0 < N ∧ rdv (cfg9 nodes np fp ns fs long nb fb nst ft miss good fresh) ≠ 0 ∧ 0 < nb) ∧ k (.int false .i64 (agv (cfg9 nodes np fp ns fs long nb fb nst ft miss good fresh))) .e 0
  | _, _ => False
theorem bag_ok : SOK E0 10 (scN 0 bagP) :=
  (gcSC_ok (fun_ok FB_ok T0_ok (f := 10) (fn := Tryz.f10) (by kernel_rfl) (ls := []) .nil)).spec0 fun args L k h => by
    unfold bagP at h; split at h
    · rename_i nodes np cp fp ns cs fs long nb cb fb nst ct ft miss good fresh N cap f
      obtain ⟨⟨hc, hN, hr, hb⟩, h⟩ := h
      refine ⟨rfl, _, .cons ((Wk.cfg hc).app (.cons (.refl (.isl 1 N cap f)) .nil)).iref .nil, ?_⟩
      rw [bag_sx]
      exact agK_ok (Cfg.ok_of hc) hN hr hb ⟨_, .refl _, h⟩
    · exact h.elim
noncomputable abbrev bagC : Nat × FC := (10, vcall (clrSC (scN 0 bagP)))
theorem bagC_ok : FOK E0 10 (vcall (clrSC (scN 0 bagP))) := vcall_ok (clrSC_ok bag_ok)

/-! ## sennit/bounds.Out -/
theorem bot_sx (c : Cfg) (N : Nat) (cap : Option Nat) (f : Nat → List AV) (k : AV → Heap → Nat → Prop) : gcSC (sexec E0 FB Tryz.f12 []) [.iref (c.cells ++ [.isl 1 N cap f])] .e 0 k =
  (rsK c N c.miss (fun r => k r .e 0)) := by kernel_rfl
def botP : SCP := fun args L k => match args, L with
  | [.iref [.int false .i64 nodes, .isl 1 np _ fp, .isl 1 ns _ fs, .int false .i64 long, .isl 1 nb _ fb, .isl 3 nst _ ft, .int false .i64 miss, .int false .i64 good, .int false .i64 fresh, .isl 1 N _ _]], [] => (CfgOk np fp ns fs nb fb nst ft ∧ 0 < N ∧ rdv (cfg9 nodes np fp ns fs long nb fb nst ft miss good fresh) ≠ 0) ∧ k (.int false .i64 (otv (cfg9 nodes np fp ns fs long nb fb nst ft miss good fresh))) .e 0
  | _, _ => False
theorem bot_ok : SOK E0 12 (scN 0 botP) :=
  (gcSC_ok (fun_ok FB_ok T0_ok (f := 12) (fn := Tryz.f12) (by kernel_rfl) (ls := []) .nil)).spec0 fun args L k h => by
    unfold botP at h; split at h
    · rename_i nodes np cp fp ns cs fs long nb cb fb nst ct ft miss good fresh N cap f
      obtain ⟨⟨hc, hN, hr⟩, h⟩ := h
      refine ⟨rfl, _, .cons ((Wk.cfg hc).app (.cons (.refl (.isl 1 N cap f)) .nil)).iref .nil, ?_⟩
      rw [bot_sx]
      exact rsK_ok (Cfg.ok_of hc) hN hr ⟨_, .refl _, h⟩
    · exact h.elim
noncomputable abbrev botC : Nat × FC := (12, vcall (clrSC (scN 0 botP)))
theorem botC_ok : FOK E0 12 (vcall (clrSC (scN 0 botP))) := vcall_ok (clrSC_ok bot_ok)

/-! ## sennit/bounds.In -/
theorem bin_sx (c : Cfg) (N : Nat) (cap : Option Nat) (f : Nat → List AV) (k : AV → Heap → Nat → Prop) : gcSC (sexec E0 FB Tryz.f14 []) [.iref (c.cells ++ [.isl 1 N cap f])] .e 0 k =
  (rsK c N c.good (fun r => k r .e 0)) := by kernel_rfl
def binP : SCP := fun args L k => match args, L with
  | [.iref [.int false .i64 nodes, .isl 1 np _ fp, .isl 1 ns _ fs, .int false .i64 long, .isl 1 nb _ fb, .isl 3 nst _ ft, .int false .i64 miss, .int false .i64 good, .int false .i64 fresh, .isl 1 N _ _]], [] => (CfgOk np fp ns fs nb fb nst ft ∧ 0 < N ∧ rdv (cfg9 nodes np fp ns fs long nb fb nst ft miss good fresh) ≠ 0) ∧ k (.int false .i64 (inv (cfg9 nodes np fp ns fs long nb fb nst ft miss good fresh))) .e 0
  | _, _ => False
theorem bin_ok : SOK E0 14 (scN 0 binP) :=
  (gcSC_ok (fun_ok FB_ok T0_ok (f := 14) (fn := Tryz.f14) (by kernel_rfl) (ls := []) .nil)).spec0 fun args L k h => by
    unfold binP at h; split at h
    · rename_i nodes np cp fp ns cs fs long nb cb fb nst ct ft miss good fresh N cap f
      obtain ⟨⟨hc, hN, hr⟩, h⟩ := h
      refine ⟨rfl, _, .cons ((Wk.cfg hc).app (.cons (.refl (.isl 1 N cap f)) .nil)).iref .nil, ?_⟩
      rw [bin_sx]
      exact rsK_ok (Cfg.ok_of hc) hN hr ⟨_, .refl _, h⟩
    · exact h.elim
noncomputable abbrev binC : Nat × FC := (14, vcall (clrSC (scN 0 binP)))
theorem binC_ok : FOK E0 14 (vcall (clrSC (scN 0 binP))) := vcall_ok (clrSC_ok bin_ok)

/-! ## sennit/bounds.Takeover -/
theorem btk_sx (c : Cfg) (N : Nat) (cap : Option Nat) (f : Nat → List AV) (k : AV → Heap → Nat → Prop) : gcSC (sexec E0 FB Tryz.f16 []) [.iref (c.cells ++ [.isl 1 N cap f])] .e 0 k =
  (tkK c N (fun r => k r .e 0)) := by kernel_rfl
def btkP : SCP := fun args L k => match args, L with
  | [.iref [.int false .i64 nodes, .isl 1 np _ fp, .isl 1 ns _ fs, .int false .i64 long, .isl 1 nb _ fb, .isl 3 nst _ ft, .int false .i64 miss, .int false .i64 good, .int false .i64 fresh, .isl 1 N _ _]], [] => (CfgOk np fp ns fs nb fb nst ft ∧ 0 < N ∧ rdv (cfg9 nodes np fp ns fs long nb fb nst ft miss good fresh) ≠ 0) ∧ k (.int false .i64 (tkv (cfg9 nodes np fp ns fs long nb fb nst ft miss good fresh))) .e 0
  | _, _ => False
theorem btk_ok : SOK E0 16 (scN 0 btkP) :=
  (gcSC_ok (fun_ok FB_ok T0_ok (f := 16) (fn := Tryz.f16) (by kernel_rfl) (ls := []) .nil)).spec0 fun args L k h => by
    unfold btkP at h; split at h
    · rename_i nodes np cp fp ns cs fs long nb cb fb nst ct ft miss good fresh N cap f
      obtain ⟨⟨hc, hN, hr⟩, h⟩ := h
      refine ⟨rfl, _, .cons ((Wk.cfg hc).app (.cons (.refl (.isl 1 N cap f)) .nil)).iref .nil, ?_⟩
      rw [btk_sx]
      exact tkK_ok (Cfg.ok_of hc) hN hr ⟨_, .refl _, h⟩
    · exact h.elim
noncomputable abbrev btkC : Nat × FC := (16, vcall (clrSC (scN 0 btkP)))
theorem btkC_ok : FOK E0 16 (vcall (clrSC (scN 0 btkP))) := vcall_ok (clrSC_ok btk_ok)

/-! ## sennit/bounds.Fresh -/
theorem bfr_sx (c : Cfg) (N : Nat) (cap : Option Nat) (f : Nat → List AV) (k : AV → Heap → Nat → Prop) : gcSC (sexec E0 FB Tryz.f18 []) [.iref (c.cells ++ [.isl 1 N cap f])] .e 0 k =
  (ofN c N (k (.int true .i64 0) .e 0) (k (.int false .i64 (frv c)) .e 0)) := by kernel_rfl
def bfrP : SCP := fun args L k => match args, L with
  | [.iref [.int false .i64 nodes, .isl 1 np _ fp, .isl 1 ns _ fs, .int false .i64 long, .isl 1 nb _ fb, .isl 3 nst _ ft, .int false .i64 miss, .int false .i64 good, .int false .i64 fresh, .isl 1 N _ _]], [] => (CfgOk np fp ns fs nb fb nst ft ∧ 0 < N ∧ rdv (cfg9 nodes np fp ns fs long nb fb nst ft miss good fresh) ≠ 0) ∧ k (.int false .i64 (frv (cfg9 nodes np fp ns fs long nb fb nst ft miss good fresh))) .e 0
  | _, _ => False
theorem bfr_ok : SOK E0 18 (scN 0 bfrP) :=
  (gcSC_ok (fun_ok FB_ok T0_ok (f := 18) (fn := Tryz.f18) (by kernel_rfl) (ls := []) .nil)).spec0 fun args L k h => by
    unfold bfrP at h; split at h
    · rename_i nodes np cp fp ns cs fs long nb cb fb nst ct ft miss good fresh N cap f
      obtain ⟨⟨hc, hN, hr⟩, h⟩ := h
      refine ⟨rfl, _, .cons ((Wk.cfg hc).app (.cons (.refl (.isl 1 N cap f)) .nil)).iref .nil, ?_⟩
      rw [bfr_sx]
      exact ofN_ok (Cfg.ok_of hc) hN hr ⟨_, .refl _, h⟩
    · exact h.elim
noncomputable abbrev bfrC : Nat × FC := (18, vcall (clrSC (scN 0 bfrP)))
theorem bfrC_ok : FOK E0 18 (vcall (clrSC (scN 0 bfrP))) := vcall_ok (clrSC_ok bfr_ok)

end Go.Sx

namespace Go.Sx
open Go.Proofs
set_option maxRecDepth 1000000

/-! # loops of functions that hold a config in a box -/
abbrev BSP := Cfg → List AV → (Exit → List AV → Heap → Nat → Prop) → Prop
def boxP (sp : BSP) : LSP := fun args L K => match L with
  | [(0, .cells 25 [.int false .i64 nodes, .isl 1 np cp fp, .isl 1 ns cs fs, .int false .i64 long, .isl 1 nb cb fb, .isl 3 nst ct ft, .int false .i64 miss, .int false .i64 good, .int false .i64 fresh])] => ([.int false .i64 nodes, .isl 1 np cp fp, .isl 1 ns cs fs, .int false .i64 long, .isl 1 nb cb fb, .isl 3 nst ct ft, .int false .i64 miss, .int false .i64 good, .int false .i64 fresh] = (cfg9 nodes np fp ns fs long nb fb nst ft miss good fresh).cells) ∧ sp (cfg9 nodes np fp ns fs long nb fb nst ft miss good fresh) args K
  | _ => False
theorem LSOK_box {rd : Bool} {c : Code} {ins outs : List Nat} {sp : BSP} {nt : Nat} (h : ∀ (g : Cfg) args K, sp g args K → COK E0 rd c ⟨putT ins args .e, bx g, 16, nt, none⟩ (endK outs nt K)) : LSOK E0 rd c nt ins outs (atN 16 (boxP sp)) :=
  LSOK_at fun args L K hfr hs => by
    unfold boxP at hs; split at hs
    · obtain ⟨he, hs⟩ := hs
      rw [he]
      exact h _ args K hs
    · exact hs.elim

def rdl (c : Cfg) : Nat → Int
  | 0 => 0
  | i + 1 => IntKind.wrap .i64 (rdl c i + c.long)
def btl (c : Cfg) : Nat → Int
  | 0 => 0
  | i + 1 => mnmx true (btl c i) (c.boots i)

noncomputable def rrB : Code := loopB ((items (bodyOf Tryz.f28)).getD 0 .skip)

noncomputable def rrST (c : Cfg) (x : Int) (i : Int) : St := ⟨putT [1, 3, 4] [.ptr 0 0, .int false .i64 x, .int false .i64 i] .e, bx c, 16, 17, none⟩
theorem rr_round (c : Cfg) (x : Int) (i : Nat) (next : St → Prop) (K : Exit → List AV → Heap → Nat → Prop) :
  roundG E0 (FE (fun _ _ => False) [] []) rrB [] (gcT [1, 3, 4]) next (endK [3] 17 K) (rrST c x (Int.ofNat i)) =
    (bcase (decide (Int.ofNat i < Int.ofNat c.ns)) (next (rrST c (IntKind.wrap .i64 (x + c.long)) (IntKind.wrap .i64 (Int.ofNat i + 1)))) (K (.exit 0) [.int false .i64 x] (bx c) 16)) := by kernel_rfl
def rrP : BSP := fun c args K => match args with
  | [.ptr 0 0, .int _ .i64 x, .int _ .i64 i] => (x = 0 ∧ i = 0 ∧ Cfg.small c) ∧ K (.exit 0) [.int false .i64 (rdl c c.ns)] (bx c) 16
  | _ => False
theorem rrL_ok : LSOK E0 false (.loop rrB) 17 [1, 3, 4] [3] (atN 16 (boxP rrP)) :=
  LSOK_box fun c args K h => by
    unfold rrP at h; split at h
    · rename_i l1 x l2 i
      obtain ⟨⟨rfl, rfl, hs⟩, hk⟩ := h
      refine COK.less (args' := [.ptr 0 0, .int false .i64 0, .int false .i64 0]) (.cons (.refl _) (.cons .int (.cons .int .nil))) ?_
      refine loop_T (FE_ok E0_ok .nil .nil) .nil [1, 3, 4] (fun i => rrST c (rdl c i) (Int.ofNat i)) (fun i => True) c.ns (fun i hi hd next hnx => ?_) (fun hd next => ?_) trivial
      · rw [rr_round]
        refine bc_t (lt_t hi) ?_
        rw [wrap_succ hi hs.2.1]
        exact hnx trivial
      · rw [rr_round]
        exact bc_f (lt_f (Nat.le_refl _)) hk
    · exact h.elim
noncomputable abbrev rrL : LC := LCd 17 [1, 3, 4] [3] (atN 16 (boxP rrP))

noncomputable def rsB : Code := loopB ((items (bodyOf Tryz.f7)).getD 0 .skip)

noncomputable def rsST (c : Cfg) (x : Int) (i : Int) : St := ⟨putT [1, 3, 4] [.ptr 0 0, .int false .i64 x, .int false .i64 i] .e, bx c, 16, 24, none⟩
theorem rs_round (c : Cfg) (x : Int) (i : Nat) (next : St → Prop) (K : Exit → List AV → Heap → Nat → Prop) :
  roundG E0 (FE (fun _ _ => False) [] []) rsB [] (gcT [1, 3, 4]) next (endK [1, 3] 24 K) (rsST c x (Int.ofNat i)) =
    (bcase (decide (Int.ofNat i < Int.ofNat c.nb)) (bcase (decide (0 ≤ Int.ofNat i ∧ Int.ofNat i < (c.nb : Int))) (next (rsST c (mnmx true x (c.boots i)) (IntKind.wrap .i64 (Int.ofNat i + 1)))) False) (K (.exit 0) [.ptr 0 0, .int false .i64 x] (bx c) 16)) := by kernel_rfl
def rsP : BSP := fun c args K => match args with
  | [.ptr 0 0, .int _ .i64 x, .int _ .i64 i] => (x = 0 ∧ i = 0 ∧ Cfg.small c) ∧ K (.exit 0) [.ptr 0 0, .int false .i64 (btl c c.nb)] (bx c) 16
  | _ => False
theorem rsL_ok : LSOK E0 false (.loop rsB) 24 [1, 3, 4] [1, 3] (atN 16 (boxP rsP)) :=
  LSOK_box fun c args K h => by
    unfold rsP at h; split at h
    · rename_i l1 x l2 i
      obtain ⟨⟨rfl, rfl, hs⟩, hk⟩ := h
      refine COK.less (args' := [.ptr 0 0, .int false .i64 0, .int false .i64 0]) (.cons (.refl _) (.cons .int (.cons .int .nil))) ?_
      refine loop_T (FE_ok E0_ok .nil .nil) .nil [1, 3, 4] (fun i => rsST c (btl c i) (Int.ofNat i)) (fun i => True) c.nb (fun i hi hd next hnx => ?_) (fun hd next => ?_) trivial
      · rw [rs_round]
        refine bc_t (lt_t hi) (bc_t (in_t hi) ?_)
        rw [wrap_succ hi hs.2.2.1]
        exact hnx trivial
      · rw [rs_round]
        exact bc_f (lt_f (Nat.le_refl _)) hk
    · exact h.elim
noncomputable abbrev rsL : LC := LCd 24 [1, 3, 4] [1, 3] (atN 16 (boxP rsP))

end Go.Sx

namespace Go.Sx
open Go.Proofs
set_option maxRecDepth 1000000

def rsv (c : Cfg) : Int := IntKind.wrap .i64 (btl c c.nb + IntKind.wrap .i64 (6 * c.nodes))
def rhv (c : Cfg) : Int := IntKind.wrap .i64 (rsv c + IntKind.wrap .i64 (4 * c.long))
def rav (c : Cfg) : Int := IntKind.wrap .i64 (rhv c + rdl c c.ns)
def rov (c : Cfg) : Int := IntKind.wrap .i64 (IntKind.wrap .i64 (c.miss * rdl c c.ns) + rdl c c.ns)
def riv (c : Cfg) : Int := IntKind.wrap .i64 (IntKind.wrap .i64 (c.good * rdl c c.ns) + rdl c c.ns)
def rtv (c : Cfg) : Int := IntKind.wrap .i64 (rov c + rdl c c.ns)
def rfv (c : Cfg) : Int := IntKind.wrap .i64 (IntKind.wrap .i64 (2 * c.long) + IntKind.wrap .i64 (2 * c.nodes))
def rnv (c : Cfg) : Int := rdl c c.ns

/-! ## sennit/sennitref34.round -/
def rround34P : SCP := fun args L k => match args, L with
  | [.agg [.int false .i64 nodes, .isl 1 np _ fp, .isl 1 ns _ fs, .int false .i64 long, .isl 1 nb _ fb, .isl 3 nst _ ft, .int false .i64 miss, .int false .i64 good, .int false .i64 fresh]], [] => (CfgOk np fp ns fs nb fb nst ft) ∧ k (.int false .i64 (rnv (cfg9 nodes np fp ns fs long nb fb nst ft miss good fresh))) .e 0
  | _, _ => False
theorem rround34_sx (c : Cfg) (k : AV → Heap → Nat → Prop) : gcSC (sexec E0 (FE (fun _ _ => False) [] []) Tryz.f28 [rrL]) [.agg c.cells] .e 0 k =
    ((c.cells = c.cells ∧ ((0 : Int) = 0 ∧ (0 : Int) = 0 ∧ Cfg.small c) ∧ k (.int false .i64 (rnv c)) .e 0)) := by kernel_rfl
theorem rround34_ok : SOK E0 28 (scN 0 rround34P) :=
  (gcSC_ok (fun_ok (FE_ok E0_ok .nil .nil) T0_ok (f := 28) (fn := Tryz.f28) (by kernel_rfl) (ls := [rrL]) (by rw [show items (bodyOf Tryz.f28) = [.loop rrB] by kernel_rfl]; exact (.cons (LCd_ok rrL_ok) .nil)))).spec0 fun args L k h => by
    unfold rround34P at h; split at h
    · rename_i nodes np cp fp ns cs fs long nb cb fb nst ct ft miss good fresh
      obtain ⟨hc, h⟩ := h
      refine ⟨rfl, _, .cons (Wk.cfg hc).agg .nil, ?_⟩
      rw [rround34_sx]
      exact ⟨rfl, ⟨rfl, rfl, hc.2⟩, kR h⟩
    · exact h.elim
noncomputable abbrev rround34C : Nat × FC := (28, vcall (clrSC (scN 0 rround34P)))
theorem rround34C_ok : FOK E0 28 (vcall (clrSC (scN 0 rround34P))) := vcall_ok (clrSC_ok rround34_ok)

/-! ## sennit/sennitref34.Start -/
def rstartP : SCP := fun args L k => match args, L with
  | [.agg [.int false .i64 nodes, .isl 1 np _ fp, .isl 1 ns _ fs, .int false .i64 long, .isl 1 nb _ fb, .isl 3 nst _ ft, .int false .i64 miss, .int false .i64 good, .int false .i64 fresh]], [] => (CfgOk np fp ns fs nb fb nst ft) ∧ k (.int false .i64 (rsv (cfg9 nodes np fp ns fs long nb fb nst ft miss good fresh))) .e 0
  | _, _ => False
theorem rstart_sx (c : Cfg) (k : AV → Heap → Nat → Prop) : gcSC (sexec E0 (FE (fun _ _ => False) [] []) Tryz.f7 [rsL]) [.agg c.cells] .e 0 k =
    ((c.cells = c.cells ∧ ((0 : Int) = 0 ∧ (0 : Int) = 0 ∧ Cfg.small c) ∧ k (.int false .i64 (rsv c)) .e 0)) := by kernel_rfl
theorem rstart_ok : SOK E0 7 (scN 0 rstartP) :=
  (gcSC_ok (fun_ok (FE_ok E0_ok .nil .nil) T0_ok (f := 7) (fn := Tryz.f7) (by kernel_rfl) (ls := [rsL]) (by rw [show items (bodyOf Tryz.f7) = [.loop rsB] by kernel_rfl]; exact (.cons (LCd_ok rsL_ok) .nil)))).spec0 fun args L k h => by
    unfold rstartP at h; split at h
    · rename_i nodes np cp fp ns cs fs long nb cb fb nst ct ft miss good fresh
      obtain ⟨hc, h⟩ := h
      refine ⟨rfl, _, .cons (Wk.cfg hc).agg .nil, ?_⟩
      rw [rstart_sx]
      exact ⟨rfl, ⟨rfl, rfl, hc.2⟩, kR h⟩
    · exact h.elim
noncomputable abbrev rstartC : Nat × FC := (7, vcall (clrSC (scN 0 rstartP)))
theorem rstartC_ok : FOK E0 7 (vcall (clrSC (scN 0 rstartP))) := vcall_ok (clrSC_ok rstart_ok)

/-! ## sennit/sennitref34.Heard -/
def rheardP : SCP := fun args L k => match args, L with
  | [.agg [.int false .i64 nodes, .isl 1 np _ fp, .isl 1 ns _ fs, .int false .i64 long, .isl 1 nb _ fb, .isl 3 nst _ ft, .int false .i64 miss, .int false .i64 good, .int false .i64 fresh]], [] => (CfgOk np fp ns fs nb fb nst ft) ∧ k (.int false .i64 (rhv (cfg9 nodes np fp ns fs long nb fb nst ft miss good fresh))) .e 0
  | _, _ => False
theorem rheard_sx (c : Cfg) (k : AV → Heap → Nat → Prop) : gcSC (sexec E0 (FE (fun _ _ => False) [rstartC] []) Tryz.f9 []) [.agg c.cells] .e 0 k =
    ((c.ok ∧ k (.int false .i64 (rhv c)) .e 0)) := by kernel_rfl
theorem rheard_ok : SOK E0 9 (scN 0 rheardP) :=
  (gcSC_ok (fun_ok (FE_ok E0_ok (.cons rstartC_ok .nil) .nil) T0_ok (f := 9) (fn := Tryz.f9) (by kernel_rfl) (ls := []) .nil)).spec0 fun args L k h => by
    unfold rheardP at h; split at h
    · rename_i nodes np cp fp ns cs fs long nb cb fb nst ct ft miss good fresh
      obtain ⟨hc, h⟩ := h
      refine ⟨rfl, _, .cons (Wk.cfg hc).agg .nil, ?_⟩
      rw [rheard_sx]
      exact ⟨Cfg.ok_of hc, kR h⟩
    · exact h.elim
noncomputable abbrev rheardC : Nat × FC := (9, vcall (clrSC (scN 0 rheardP)))
theorem rheardC_ok : FOK E0 9 (vcall (clrSC (scN 0 rheardP))) := vcall_ok (clrSC_ok rheard_ok)

/-! ## sennit/sennitref34.Agreed -/
def ragreedP : SCP := fun args L k => match args, L with
  | [.agg [.int false .i64 nodes, .isl 1 np _ fp, .isl 1 ns _ fs, .int false .i64 long, .isl 1 nb _ fb, .isl 3 nst _ ft, .int false .i64 miss, .int false .i64 good, .int false .i64 fresh]], [] => (CfgOk np fp ns fs nb fb nst ft) ∧ k (.int false .i64 (rav (cfg9 nodes np fp ns fs long nb fb nst ft miss good fresh))) .e 0
  | _, _ => False
theorem ragreed_sx (c : Cfg) (k : AV → Heap → Nat → Prop) : gcSC (sexec E0 (FE (fun _ _ => False) [rheardC, rround34C] []) Tryz.f11 []) [.agg c.cells] .e 0 k =
    ((c.ok ∧ c.ok ∧ k (.int false .i64 (rav c)) .e 0)) := by kernel_rfl
theorem ragreed_ok : SOK E0 11 (scN 0 ragreedP) :=
  (gcSC_ok (fun_ok (FE_ok E0_ok (.cons rheardC_ok (.cons rround34C_ok .nil)) .nil) T0_ok (f := 11) (fn := Tryz.f11) (by kernel_rfl) (ls := []) .nil)).spec0 fun args L k h => by
    unfold ragreedP at h; split at h
    · rename_i nodes np cp fp ns cs fs long nb cb fb nst ct ft miss good fresh
      obtain ⟨hc, h⟩ := h
      refine ⟨rfl, _, .cons (Wk.cfg hc).agg .nil, ?_⟩
      rw [ragreed_sx]
      exact ⟨Cfg.ok_of hc, Cfg.ok_of hc, kR h⟩
    · exact h.elim
noncomputable abbrev ragreedC : Nat × FC := (11, vcall (clrSC (scN 0 ragreedP)))
theorem ragreedC_ok : FOK E0 11 (vcall (clrSC (scN 0 ragreedP))) := vcall_ok (clrSC_ok ragreed_ok)

/-! ## sennit/sennitref34.Out -/
def routP : SCP := fun args L k => match args, L with
  | [.agg [.int false .i64 nodes, .isl 1 np _ fp, .isl 1 ns _ fs, .int false .i64 long, .isl 1 nb _ fb, .isl 3 nst _ ft, .int false .i64 miss, .int false .i64 good, .int false .i64 fresh]], [] => (CfgOk np fp ns fs nb fb nst ft) ∧ k (.int false .i64 (rov (cfg9 nodes np fp ns fs long nb fb nst ft miss good fresh))) .e 0
  | _, _ => False
theorem rout_sx (c : Cfg) (k : AV → Heap → Nat → Prop) : gcSC (sexec E0 (FE (fun _ _ => False) [rround34C] []) Tryz.f13 []) [.agg c.cells] .e 0 k =
    ((c.ok ∧ c.ok ∧ k (.int false .i64 (rov c)) .e 0)) := by kernel_rfl
theorem rout_ok : SOK E0 13 (scN 0 routP) :=
  (gcSC_ok (fun_ok (FE_ok E0_ok (.cons rround34C_ok .nil) .nil) T0_ok (f := 13) (fn := Tryz.f13) (by kernel_rfl) (ls := []) .nil)).spec0 fun args L k h => by
    unfold routP at h; split at h
    · rename_i nodes np cp fp ns cs fs long nb cb fb nst ct ft miss good fresh
      obtain ⟨hc, h⟩ := h
      refine ⟨rfl, _, .cons (Wk.cfg hc).agg .nil, ?_⟩
      rw [rout_sx]
      exact ⟨Cfg.ok_of hc, Cfg.ok_of hc, kR h⟩
    · exact h.elim
noncomputable abbrev routC : Nat × FC := (13, vcall (clrSC (scN 0 routP)))
theorem routC_ok : FOK E0 13 (vcall (clrSC (scN 0 routP))) := vcall_ok (clrSC_ok rout_ok)

/-! ## sennit/sennitref34.In -/
def rinP : SCP := fun args L k => match args, L with
  | [.agg [.int false .i64 nodes, .isl 1 np _ fp, .isl 1 ns _ fs, .int false .i64 long, .isl 1 nb _ fb, .isl 3 nst _ ft, .int false .i64 miss, .int false .i64 good, .int false .i64 fresh]], [] => (CfgOk np fp ns fs nb fb nst ft) ∧ k (.int false .i64 (riv (cfg9 nodes np fp ns fs long nb fb nst ft miss good fresh))) .e 0
  | _, _ => False
theorem rin_sx (c : Cfg) (k : AV → Heap → Nat → Prop) : gcSC (sexec E0 (FE (fun _ _ => False) [rround34C] []) Tryz.f15 []) [.agg c.cells] .e 0 k =
    ((c.ok ∧ c.ok ∧ k (.int false .i64 (riv c)) .e 0)) := by kernel_rfl
theorem rin_ok : SOK E0 15 (scN 0 rinP) :=
  (gcSC_ok (fun_ok (FE_ok E0_ok (.cons rround34C_ok .nil) .nil) T0_ok (f := 15) (fn := Tryz.f15) (by kernel_rfl) (ls := []) .nil)).spec0 fun args L k h => by
    unfold rinP at h; split at h
    · rename_i nodes np cp fp ns cs fs long nb cb fb nst ct ft miss good fresh
      obtain ⟨hc, h⟩ := h
      refine ⟨rfl, _, .cons (Wk.cfg hc).agg .nil, ?_⟩
      rw [rin_sx]
      exact ⟨Cfg.ok_of hc, Cfg.ok_of hc, kR h⟩
    · exact h.elim
noncomputable abbrev rinC : Nat × FC := (15, vcall (clrSC (scN 0 rinP)))
theorem rinC_ok : FOK E0 15 (vcall (clrSC (scN 0 rinP))) := vcall_ok (clrSC_ok rin_ok)

/-! ## sennit/sennitref34.Takeover -/
def rtakeP : SCP := fun args L k => match args, L with
  | [.agg [.int false .i64 nodes, .isl 1 np _ fp, .isl 1 ns _ fs, .int false .i64 long, .isl 1 nb _ fb, .isl 3 nst _ ft, .int false .i64 miss, .int false .i64 good, .int false .i64 fresh]], [] => (CfgOk np fp ns fs nb fb nst ft) ∧ k (.int false .i64 (rtv (cfg9 nodes np fp ns fs long nb fb nst ft miss good fresh))) .e 0
  | _, _ => False
theorem rtake_sx (c : Cfg) (k : AV → Heap → Nat → Prop) : gcSC (sexec E0 (FE (fun _ _ => False) [routC, rround34C] []) Tryz.f17 []) [.agg c.cells] .e 0 k =
    ((c.ok ∧ c.ok ∧ k (.int false .i64 (rtv c)) .e 0)) := by kernel_rfl
theorem rtake_ok : SOK E0 17 (scN 0 rtakeP) :=
  (gcSC_ok (fun_ok (FE_ok E0_ok (.cons routC_ok (.cons rround34C_ok .nil)) .nil) T0_ok (f := 17) (fn := Tryz.f17) (by kernel_rfl) (ls := []) .nil)).spec0 fun args L k h => by
    unfold rtakeP at h; split at h
    · rename_i nodes np cp fp ns cs fs long nb cb fb nst ct ft miss good fresh
      obtain ⟨hc, h⟩ := h
      refine ⟨rfl, _, .cons (Wk.cfg hc).agg .nil, ?_⟩
      rw [rtake_sx]
      exact ⟨Cfg.ok_of hc, Cfg.ok_of hc, kR h⟩
    · exact h.elim
noncomputable abbrev rtakeC : Nat × FC := (17, vcall (clrSC (scN 0 rtakeP)))
theorem rtakeC_ok : FOK E0 17 (vcall (clrSC (scN 0 rtakeP))) := vcall_ok (clrSC_ok rtake_ok)

/-! ## sennit/sennitref34.Fresh -/
def rfreshP : SCP := fun args L k => match args, L with
  | [.agg [.int false .i64 nodes, .isl 1 np _ fp, .isl 1 ns _ fs, .int false .i64 long, .isl 1 nb _ fb, .isl 3 nst _ ft, .int false .i64 miss, .int false .i64 good, .int false .i64 fresh]], [] => (CfgOk np fp ns fs nb fb nst ft) ∧ k (.int false .i64 (rfv (cfg9 nodes np fp ns fs long nb fb nst ft miss good fresh))) .e 0
  | _, _ => False
theorem rfresh_sx (c : Cfg) (k : AV → Heap → Nat → Prop) : gcSC (sexec E0 (FE (fun _ _ => False) [] []) Tryz.f19 []) [.agg c.cells] .e 0 k =
    (k (.int false .i64 (rfv c)) .e 0) := by kernel_rfl
theorem rfresh_ok : SOK E0 19 (scN 0 rfreshP) :=
  (gcSC_ok (fun_ok (FE_ok E0_ok .nil .nil) T0_ok (f := 19) (fn := Tryz.f19) (by kernel_rfl) (ls := []) .nil)).spec0 fun args L k h => by
    unfold rfreshP at h; split at h
    · rename_i nodes np cp fp ns cs fs long nb cb fb nst ct ft miss good fresh
      obtain ⟨hc, h⟩ := h
      refine ⟨rfl, _, .cons (Wk.cfg hc).agg .nil, ?_⟩
      rw [rfresh_sx]
      exact kR h
    · exact h.elim
noncomputable abbrev rfreshC : Nat × FC := (19, vcall (clrSC (scN 0 rfreshP)))
theorem rfreshC_ok : FOK E0 19 (vcall (clrSC (scN 0 rfreshP))) := vcall_ok (clrSC_ok rfresh_ok)

end Go.Sx
