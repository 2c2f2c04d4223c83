/- Part of an own symbolic executor for the model's code, proved sound, and of the proof of one statement (see the text of the claimed theorem). -/
import Derived.Shelf.Sort.Plain
import Derived.Shelf.Slices.CompactI
import Derived.Test.YtkpkfccgbehilaaGreatDoorProg
import Derived.KernelRfl
import Derived.Test.YtkpkfccgbehilaaGreatDoorBoC5
import Derived.Test.YtkpkfccgbehilaaGreatDoorSxAM
namespace Go.Proofs
open Go.Shelf Go.RowKit Go.Lib Go.Sort
def Tryz.lays189_ren : Go.Shelf.Ren := ⟨fun | 189 => 83 | 125 => 87 | 257 => 86 | 128 => 96 | 129 => 97 | 294 => 88 | 295 => 89 | 296 => 90 | 297 => 91 | 298 => 92 | 299 => 93 | 216 => 68 | 300 => 94 | 301 => 95 | 328 => 98 | 329 => 99 | 330 => 100 | 331 => 101 | 332 => 102 | 215 => 81 | 343 => 103 | n => n, fun | 28 => 22 | 3 => 3 | 46 => 65 | 0 => 0 | 51 => 45 | 53 => 83 | 4 => 4 | 183 => 96 | 182 => 95 | 131 => 100 | 5 => 5 | 9 => 9 | 218 => 104 | 222 => 108 | 228 => 110 | 229 => 111 | n => n, fun | n => n⟩
theorem Tryz.lays189 : Go.Proofs.Lays.n189 Tryz.prog Tryz.lays189_ren := {
  mixed := by kernel_rfl
  f125 := Tryz.func87.trans (congrArg some (by kernel_rfl))
  f128 := Tryz.func96.trans (congrArg some (by kernel_rfl))
  f129 := Tryz.func97.trans (congrArg some (by kernel_rfl))
  f189 := Tryz.func83.trans (congrArg some (by kernel_rfl))
  f215 := Tryz.func81.trans (congrArg some (by kernel_rfl))
  f216 := Tryz.func68.trans (congrArg some (by kernel_rfl))
  f257 := Tryz.func86.trans (congrArg some (by kernel_rfl))
  f294 := Tryz.func88.trans (congrArg some (by kernel_rfl))
  f295 := Tryz.func89.trans (congrArg some (by kernel_rfl))
  f296 := Tryz.func90.trans (congrArg some (by kernel_rfl))
  f297 := Tryz.func91.trans (congrArg some (by kernel_rfl))
  f298 := Tryz.func92.trans (congrArg some (by kernel_rfl))
  f299 := Tryz.func93.trans (congrArg some (by kernel_rfl))
  f300 := Tryz.func94.trans (congrArg some (by kernel_rfl))
  f301 := Tryz.func95.trans (congrArg some (by kernel_rfl))
  f328 := Tryz.func98.trans (congrArg some (by kernel_rfl))
  f329 := Tryz.func99.trans (congrArg some (by kernel_rfl))
  f330 := Tryz.func100.trans (congrArg some (by kernel_rfl))
  f331 := Tryz.func101.trans (congrArg some (by kernel_rfl))
  f332 := Tryz.func102.trans (congrArg some (by kernel_rfl))
  f343 := Tryz.func103.trans (congrArg some (by kernel_rfl))
  t0 := Tryz.underlying0
  a0 := Tryz.isAgg0
  z0 := Tryz.sizeOf0
  v0 := Tryz.zeroValue0
  t3 := Tryz.underlying3
  a3 := Tryz.isAgg3
  z3 := Tryz.sizeOf3
  v3 := Tryz.zeroValue3
  t4 := Tryz.underlying4
  a4 := Tryz.isAgg4
  z4 := Tryz.sizeOf4
  v4 := Tryz.zeroValue4
  t5 := Tryz.underlying5
  a5 := Tryz.isAgg5
  z5 := Tryz.sizeOf5
  v5 := Tryz.zeroValue5
  t9 := Tryz.underlying9
  a9 := Tryz.isAgg9
  z9 := Tryz.sizeOf9
  v9 := Tryz.zeroValue9
  t28 := Tryz.underlying22
  a28 := Tryz.isAgg22
  z28 := Tryz.sizeOf22
  v28 := Tryz.zeroValue22
  t46 := Tryz.underlying65
  a46 := Tryz.isAgg65
  z46 := Tryz.sizeOf65
  v46 := Tryz.zeroValue65
  t51 := Tryz.underlying45
  a51 := Tryz.isAgg45
  z51 := Tryz.sizeOf45
  v51 := Tryz.zeroValue45
  t53 := Tryz.underlying83
  a53 := Tryz.isAgg83
  z53 := Tryz.sizeOf83
  v53 := Tryz.zeroValue83
  t131 := Tryz.underlying100
  a131 := Tryz.isAgg100
  z131 := Tryz.sizeOf100
  v131 := Tryz.zeroValue100
  t182 := Tryz.underlying95
  a182 := Tryz.isAgg95
  z182 := Tryz.sizeOf95
  v182 := Tryz.zeroValue95
  t183 := Tryz.underlying96
  a183 := Tryz.isAgg96
  z183 := Tryz.sizeOf96
  v183 := Tryz.zeroValue96
  t218 := Tryz.underlying104
  a218 := Tryz.isAgg104
  z218 := Tryz.sizeOf104
  v218 := Tryz.zeroValue104
  t222 := Tryz.underlying108
  a222 := Tryz.isAgg108
  z222 := Tryz.sizeOf108
  v222 := Tryz.zeroValue108
  t228 := Tryz.underlying110
  a228 := Tryz.isAgg110
  z228 := Tryz.sizeOf110
  v228 := Tryz.zeroValue110
  t229 := Tryz.underlying111
  a229 := Tryz.isAgg111
  z229 := Tryz.sizeOf111
  v229 := Tryz.zeroValue111 }
theorem Tryz.slices_Sort_int (blk off cap : Nat) (zs : List Int) (w : World) (hH : Holds (Value.int .i64) w blk off zs.toArray) (hblk : blk < w.heap.size) (hsz : zs.length < 4611686018427387904) :
    Calls Tryz.prog 83 #[.slice (some ⟨blk, off, none⟩) zs.length cap] w fun e w' =>
      e = .returned (.tuple #[]) ∧ ∃ n os, w' = grow (putRow (Value.int .i64) (Sort.ahead w n) blk off (zs.mergeSort fun x y => decide (x ≤ y)).toArray) os := Any.slices_Sort_int Tryz.lays189 blk off cap zs w hH hblk hsz
def Tryz.laysNm220_ren : Go.Shelf.Ren := ⟨fun | 20 => 71 | n => n, fun | 22 => 22 | 3 => 3 | 4 => 4 | 0 => 0 | n => n, fun | n => n⟩
theorem Tryz.laysNm220 : Go.Proofs.Lays2.n20 Tryz.prog Tryz.laysNm220_ren := {
  mixed := by kernel_rfl
  f20 := Tryz.func71.trans (congrArg some (by kernel_rfl))
  t0 := Tryz.underlying0
  a0 := Tryz.isAgg0
  z0 := Tryz.sizeOf0
  v0 := Tryz.zeroValue0
  t3 := Tryz.underlying3
  a3 := Tryz.isAgg3
  z3 := Tryz.sizeOf3
  v3 := Tryz.zeroValue3
  t4 := Tryz.underlying4
  a4 := Tryz.isAgg4
  z4 := Tryz.sizeOf4
  v4 := Tryz.zeroValue4
  t22 := Tryz.underlying22
  a22 := Tryz.isAgg22
  z22 := Tryz.sizeOf22
  v22 := Tryz.zeroValue22
  i3 := by kernel_rfl }
theorem Tryz.slices_Compact_int (blk off cap : Nat) (zs : List Int) (w : World) (hH : Holds (Value.int .i64) w blk off zs.toArray) (hsz : zs.length ≤ 9223372036854775807) (hcap : zs.length ≤ cap) :
    Calls Tryz.prog 71 #[.slice (some ⟨blk, off, none⟩) zs.length cap] w fun e w' => e = .returned (.slice (some ⟨blk, off, none⟩) (Lib.compact zs).length cap) ∧ ∃ q, w' = putRow (Value.int .i64) (Sort.ahead w q) blk off (Lib.compact zs ++ List.replicate (zs.length - (Lib.compact zs).length) 0).toArray := Any.slices_Compact_int Tryz.laysNm220 blk off cap zs w hH hsz hcap
end Go.Proofs

namespace Go.Sx
open Go.Proofs
set_option maxRecDepth 1000000

theorem fnOf {f : FuncId} {fn : Func} (h : FT0.get f = some fn) : ∃ fn, E0.P.funcs[f]? = some fn ∧ (fn.name == "runtime.NumGoroutine") = false ∧ fn.body.isNone = false := by
  obtain ⟨h1, h2, h3⟩ := T0_ok.get f fn h
  exact ⟨fn, h1, h2, by cases hb : fn.body <;> simp_all⟩
theorem sortS_ok : SOK E0 83 sortS := sort_ok (fnOf (f := 83) (fn := Tryz.f83) (by kernel_rfl)) Tryz.slices_Sort_int
theorem compS_ok : SOK E0 71 compS := comp_ok (fnOf (f := 71) (fn := Tryz.f71) (by kernel_rfl)) Tryz.slices_Compact_int
noncomputable def F8 : Fs := fsOf E0 FT0 64 (fun _ => true) (FE (fun _ _ => False) [] [(83, sortS), (71, compS)]) 8
theorem F8_ok : FsEnv E0 F8 := fsOf_ok E0_ok T0_ok 64 _ (FE_ok E0_ok .nil (.cons sortS_ok (.cons compS_ok .nil))) 8

def sgl (l : Nat → Int) (n : Nat) : Bool := ((Lib.compact (compZs (fun i => [.int false .i64 (srtd ((List.range n).map l) i)]) n)).length : Int) == (n : Int)
def singleP : SCP := fun args L k => match args, L with
  | [.isl 1 n _ f], [] => (Ints .i64 f n ∧ (n = 4 ∨ n = 6 ∨ n = 8 ∨ n = 10 ∨ n = 12 ∨ n = 14 ∨ n = 16)) ∧ k (.bool (sgl (geti f) n)) .e 0
  | _, _ => False
theorem single_sx4 (l : Nat → Int) (k : AV → Heap → Nat → Prop) : gcSC (sexec E0 F8 Tryz.f49 []) [.isl 1 4 none (fun j => [.int false .i64 (l j)])] .e 0 k =
    ((Ints .i64 (fun i => [.int false .i64 (srtd ((List.range 4).map l) i)]) 4 ∧ 0 < 4 ∧ 4 ≤ 4 ∧ Len 4) ∧ k (.bool (sgl l 4)) .e 0) := by kernel_rfl
theorem single_sx6 (l : Nat → Int) (k : AV → Heap → Nat → Prop) : gcSC (sexec E0 F8 Tryz.f49 []) [.isl 1 6 none (fun j => [.int false .i64 (l j)])] .e 0 k =
    ((Ints .i64 (fun i => [.int false .i64 (srtd ((List.range 6).map l) i)]) 6 ∧ 0 < 6 ∧ 6 ≤ 6 ∧ Len 6) ∧ k (.bool (sgl l 6)) .e 0) := by kernel_rfl
theorem single_sx8 (l : Nat → Int) (k : AV → Heap → Nat → Prop) : gcSC (sexec E0 F8 Tryz.f49 []) [.isl 1 8 none (fun j => [.int false .i64 (l j)])] .e 0 k =
    ((Ints .i64 (fun i => [.int false .i64 (srtd ((List.range 8).map l) i)]) 8 ∧ 0 < 8 ∧ 8 ≤ 8 ∧ Len 8) ∧ k (.bool (sgl l 8)) .e 0) := by kernel_rfl
theorem single_sx10 (l : Nat → Int) (k : AV → Heap → Nat → Prop) : gcSC (sexec E0 F8 Tryz.f49 []) [.isl 1 10 none (fun j => [.int false .i64 (l j)])] .e 0 k =
    ((Ints .i64 (fun i => [.int false .i64 (srtd ((List.range 10).map l) i)]) 10 ∧ 0 < 10 ∧ 10 ≤ 10 ∧ Len 10) ∧ k (.bool (sgl l 10)) .e 0) := by kernel_rfl
theorem single_sx12 (l : Nat → Int) (k : AV → Heap → Nat → Prop) : gcSC (sexec E0 F8 Tryz.f49 []) [.isl 1 12 none (fun j => [.int false .i64 (l j)])] .e 0 k =
    ((Ints .i64 (fun i => [.int false .i64 (srtd ((List.range 12).map l) i)]) 12 ∧ 0 < 12 ∧ 12 ≤ 12 ∧ Len 12) ∧ k (.bool (sgl l 12)) .e 0) := by kernel_rfl
theorem single_sx14 (l : Nat → Int) (k : AV → Heap → Nat → Prop) : gcSC (sexec E0 F8 Tryz.f49 []) [.isl 1 14 none (fun j => [.int false .i64 (l j)])] .e 0 k =
    ((Ints .i64 (fun i => [.int false .i64 (srtd ((List.range 14).map l) i)]) 14 ∧ 0 < 14 ∧ 14 ≤ 14 ∧ Len 14) ∧ k (.bool (sgl l 14)) .e 0) := by kernel_rfl
theorem single_sx16 (l : Nat → Int) (k : AV → Heap → Nat → Prop) : gcSC (sexec E0 F8 Tryz.f49 []) [.isl 1 16 none (fun j => [.int false .i64 (l j)])] .e 0 k =
    ((Ints .i64 (fun i => [.int false .i64 (srtd ((List.range 16).map l) i)]) 16 ∧ 0 < 16 ∧ 16 ≤ 16 ∧ Len 16) ∧ k (.bool (sgl l 16)) .e 0) := by kernel_rfl
theorem single_ok : SOK E0 49 (scN 0 singleP) :=
  (gcSC_ok (fun_ok F8_ok T0_ok (f := 49) (fn := Tryz.f49) (by kernel_rfl) (ls := []) .nil)).spec0 fun args L k h => by
    unfold singleP at h; split at h
    · obtain ⟨⟨hc, hn⟩, h⟩ := h
      refine ⟨rfl, _, .cons (.trans .cap (Wk.isl hc)) .nil, ?_⟩
      rcases hn with rfl | rfl | rfl | rfl | rfl | rfl | rfl
      · rw [single_sx4]; exact ⟨⟨.of, by omega, by omega, by unfold Len; omega⟩, kR h⟩
      · rw [single_sx6]; exact ⟨⟨.of, by omega, by omega, by unfold Len; omega⟩, kR h⟩
      · rw [single_sx8]; exact ⟨⟨.of, by omega, by omega, by unfold Len; omega⟩, kR h⟩
      · rw [single_sx10]; exact ⟨⟨.of, by omega, by omega, by unfold Len; omega⟩, kR h⟩
      · rw [single_sx12]; exact ⟨⟨.of, by omega, by omega, by unfold Len; omega⟩, kR h⟩
      · rw [single_sx14]; exact ⟨⟨.of, by omega, by omega, by unfold Len; omega⟩, kR h⟩
      · rw [single_sx16]; exact ⟨⟨.of, by omega, by omega, by unfold Len; omega⟩, kR h⟩
    · exact h.elim
noncomputable abbrev singleC : Nat × FC := (49, vcall (clrSC (scN 0 singleP)))
theorem singleC_ok : FOK E0 49 (vcall (clrSC (scN 0 singleP))) := vcall_ok (clrSC_ok single_ok)
/-! ## configs.halves -/
def lst0 (xs : List AV) : Nat → List AV := fun i => (xs.drop (0 + (0 + i) * 1)).take 1
def hv (c : Cfg) (j : Nat) : Int := bif Nat.beq (j % 2) 0 then c.pairs (j / 2) else step c.nodes 0 (c.pairs (j / 2)) 1

noncomputable def halvesB : Code := loopB ((items (bodyOf Tryz.f39)).getD 0 .skip)

theorem halves_fun : SOK E0 39 (sexec E0 (FE (fun _ _ => False) [step0C] []) Tryz.f39 [unroll E0 (FE (fun _ _ => False) [step0C] []) halvesB [] 10]) := fun_ok (FE_ok E0_ok (.cons step0C_ok .nil) .nil) T0_ok (by kernel_rfl) (by rw [show items (bodyOf Tryz.f39) = [.loop halvesB] by kernel_rfl]; exact .cons (fun st k h => unroll_ok (FE_ok E0_ok (.cons step0C_ok .nil) .nil) (LAll_items _ _ .nil) 10 st k h) .nil)
theorem halves_sx2 (nodes : Int) (pairs : Nat → Int) (ns : Nat) (slots : Nat → Int) (long : Int) (nb : Nat) (boots : Nat → Int) (nst : Nat) (sa sb sc : Nat → Int) (miss good fresh : Int) (k : AV → Heap → Nat → Prop) : frzSC (sexec E0 (FE (fun _ _ => False) [step0C] []) Tryz.f39 [unroll E0 (FE (fun _ _ => False) [step0C] []) halvesB [] 10]) [.agg (Cfg.cells ⟨nodes, 2, pairs, ns, slots, long, nb, boots, nst, sa, sb, sc, miss, good, fresh⟩)] .e 0 k = k (.isl 1 4 none (lst0 [.int false .i64 (pairs 0), .int false .i64 (step nodes 0 (pairs 0) 1), .int false .i64 (pairs 1), .int false .i64 (step nodes 0 (pairs 1) 1)])) .e 0 := by kernel_rfl
theorem halves_l2 (c : Cfg) : ∀ j, j < 4 → lst0 [.int false .i64 (c.pairs 0), .int false .i64 (step c.nodes 0 (c.pairs 0) 1), .int false .i64 (c.pairs 1), .int false .i64 (step c.nodes 0 (c.pairs 1) 1)] j = [.int false .i64 (hv c j)] := fun j hj => by
  rcases j with _ | _ | _ | _ | j
  · rfl
  · rfl
  · rfl
  · rfl
  · omega
theorem halves_sx3 (nodes : Int) (pairs : Nat → Int) (ns : Nat) (slots : Nat → Int) (long : Int) (nb : Nat) (boots : Nat → Int) (nst : Nat) (sa sb sc : Nat → Int) (miss good fresh : Int) (k : AV → Heap → Nat → Prop) : frzSC (sexec E0 (FE (fun _ _ => False) [step0C] []) Tryz.f39 [unroll E0 (FE (fun _ _ => False) [step0C] []) halvesB [] 10]) [.agg (Cfg.cells ⟨nodes, 3, pairs, ns, slots, long, nb, boots, nst, sa, sb, sc, miss, good, fresh⟩)] .e 0 k = k (.isl 1 6 none (lst0 [.int false .i64 (pairs 0), .int false .i64 (step nodes 0 (pairs 0) 1), .int false .i64 (pairs 1), .int false .i64 (step nodes 0 (pairs 1) 1), .int false .i64 (pairs 2), .int false .i64 (step nodes 0 (pairs 2) 1)])) .e 0 := by kernel_rfl
theorem halves_l3 (c : Cfg) : ∀ j, j < 6 → lst0 [.int false .i64 (c.pairs 0), .int false .i64 (step c.nodes 0 (c.pairs 0) 1), .int false .i64 (c.pairs 1), .int false .i64 (step c.nodes 0 (c.pairs 1) 1), .int false .i64 (c.pairs 2), .int false .i64 (step c.nodes 0 (c.pairs 2) 1)] j = [.int false .i64 (hv c j)] := fun j hj => by
  rcases j with _ | _ | _ | _ | _ | _ | j
  · rfl
  · rfl
  · rfl
  · rfl
  · rfl
  · rfl
  · omega
theorem halves_sx4 (nodes : Int) (pairs : Nat → Int) (ns : Nat) (slots : Nat → Int) (long : Int) (nb : Nat) (boots : Nat → Int) (nst : Nat) (sa sb sc : Nat → Int) (miss good fresh : Int) (k : AV → Heap → Nat → Prop) : frzSC (sexec E0 (FE (fun _ _ => False) [step0C] []) Tryz.f39 [unroll E0 (FE (fun _ _ => False) [step0C] []) halvesB [] 10]) [.agg (Cfg.cells ⟨nodes, 4, pairs, ns, slots, long, nb, boots, nst, sa, sb, sc, miss, good, fresh⟩)] .e 0 k = k (.isl 1 8 none (lst0 [.int false .i64 (pairs 0), .int false .i64 (step nodes 0 (pairs 0) 1), .int false .i64 (pairs 1), .int false .i64 (step nodes 0 (pairs 1) 1), .int false .i64 (pairs 2), .int false .i64 (step nodes 0 (pairs 2) 1), .int false .i64 (pairs 3), .int false .i64 (step nodes 0 (pairs 3) 1)])) .e 0 := by kernel_rfl
theorem halves_l4 (c : Cfg) : ∀ j, j < 8 → lst0 [.int false .i64 (c.pairs 0), .int false .i64 (step c.nodes 0 (c.pairs 0) 1), .int false .i64 (c.pairs 1), .int false .i64 (step c.nodes 0 (c.pairs 1) 1), .int false .i64 (c.pairs 2), .int false .i64 (step c.nodes 0 (c.pairs 2) 1), .int false .i64 (c.pairs 3), .int false .i64 (step c.nodes 0 (c.pairs 3) 1)] j = [.int false .i64 (hv c j)] := fun j hj => by
  rcases j with _ | _ | _ | _ | _ | _ | _ | _ | j
  · rfl
  · rfl
  · rfl
  · rfl
  · rfl
  · rfl
  · rfl
  · rfl
  · omega
theorem halves_sx5 (nodes : Int) (pairs : Nat → Int) (ns : Nat) (slots : Nat → Int) (long : Int) (nb : Nat) (boots : Nat → Int) (nst : Nat) (sa sb sc : Nat → Int) (miss good fresh : Int) (k : AV → Heap → Nat → Prop) : frzSC (sexec E0 (FE (fun _ _ => False) [step0C] []) Tryz.f39 [unroll E0 (FE (fun _ _ => False) [step0C] []) halvesB [] 10]) [.agg (Cfg.cells ⟨nodes, 5, pairs, ns, slots, long, nb, boots, nst, sa, sb, sc, miss, good, fresh⟩)] .e 0 k = k (.isl 1 10 none (lst0 [.int false .i64 (pairs 0), .int false .i64 (step nodes 0 (pairs 0) 1), .int false .i64 (pairs 1), .int false .i64 (step nodes 0 (pairs 1) 1), .int false .i64 (pairs 2), .int false .i64 (step nodes 0 (pairs 2) 1), .int false .i64 (pairs 3), .int false .i64 (step nodes 0 (pairs 3) 1), .int false .i64 (pairs 4), .int false .i64 (step nodes 0 (pairs 4) 1)])) .e 0 := by kernel_rfl
theorem halves_l5 (c : Cfg) : ∀ j, j < 10 → lst0 [.int false .i64 (c.pairs 0), .int false .i64 (step c.nodes 0 (c.pairs 0) 1), .int false .i64 (c.pairs 1), .int false .i64 (step c.nodes 0 (c.pairs 1) 1), .int false .i64 (c.pairs 2), .int false .i64 (step c.nodes 0 (c.pairs 2) 1), .int false .i64 (c.pairs 3), .int false .i64 (step c.nodes 0 (c.pairs 3) 1), .int false .i64 (c.pairs 4), .int false .i64 (step c.nodes 0 (c.pairs 4) 1)] j = [.int false .i64 (hv c j)] := fun j hj => by
  rcases j with _ | _ | _ | _ | _ | _ | _ | _ | _ | _ | j
  · rfl
  · rfl
  · rfl
  · rfl
  · rfl
  · rfl
  · rfl
  · rfl
  · rfl
  · rfl
  · omega
theorem halves_sx6 (nodes : Int) (pairs : Nat → Int) (ns : Nat) (slots : Nat → Int) (long : Int) (nb : Nat) (boots : Nat → Int) (nst : Nat) (sa sb sc : Nat → Int) (miss good fresh : Int) (k : AV → Heap → Nat → Prop) : frzSC (sexec E0 (FE (fun _ _ => False) [step0C] []) Tryz.f39 [unroll E0 (FE (fun _ _ => False) [step0C] []) halvesB [] 10]) [.agg (Cfg.cells ⟨nodes, 6, pairs, ns, slots, long, nb, boots, nst, sa, sb, sc, miss, good, fresh⟩)] .e 0 k = k (.isl 1 12 none (lst0 [.int false .i64 (pairs 0), .int false .i64 (step nodes 0 (pairs 0) 1), .int false .i64 (pairs 1), .int false .i64 (step nodes 0 (pairs 1) 1), .int false .i64 (pairs 2), .int false .i64 (step nodes 0 (pairs 2) 1), .int false .i64 (pairs 3), .int false .i64 (step nodes 0 (pairs 3) 1), .int false .i64 (pairs 4), .int false .i64 (step nodes 0 (pairs 4) 1), .int false .i64 (pairs 5), .int false .i64 (step nodes 0 (pairs 5) 1)])) .e 0 := by kernel_rfl
theorem halves_l6 (c : Cfg) : ∀ j, j < 12 → lst0 [.int false .i64 (c.pairs 0), .int false .i64 (step c.nodes 0 (c.pairs 0) 1), .int false .i64 (c.pairs 1), .int false .i64 (step c.nodes 0 (c.pairs 1) 1), .int false .i64 (c.pairs 2), .int false .i64 (step c.nodes 0 (c.pairs 2) 1), .int false .i64 (c.pairs 3), .int false .i64 (step c.nodes 0 (c.pairs 3) 1), .int false .i64 (c.pairs 4), .int false .i64 (step c.nodes 0 (c.pairs 4) 1), .int false .i64 (c.pairs 5), .int false .i64 (step c.nodes 0 (c.pairs 5) 1)] j = [.int false .i64 (hv c j)] := fun j hj => by
  rcases j with _ | _ | _ | _ | _ | _ | _ | _ | _ | _ | _ | _ | j
  · rfl
  · rfl
  · rfl
  · rfl
  · rfl
  · rfl
  · rfl
  · rfl
  · rfl
  · rfl
  · rfl
  · rfl
  · omega
theorem halves_sx7 (nodes : Int) (pairs : Nat → Int) (ns : Nat) (slots : Nat → Int) (long : Int) (nb : Nat) (boots : Nat → Int) (nst : Nat) (sa sb sc : Nat → Int) (miss good fresh : Int) (k : AV → Heap → Nat → Prop) : frzSC (sexec E0 (FE (fun _ _ => False) [step0C] []) Tryz.f39 [unroll E0 (FE (fun _ _ => False) [step0C] []) halvesB [] 10]) [.agg (Cfg.cells ⟨nodes, 7, pairs, ns, slots, long, nb, boots, nst, sa, sb, sc, miss, good, fresh⟩)] .e 0 k = k (.isl 1 14 none (lst0 [.int false .i64 (pairs 0), .int false .i64 (step nodes 0 (pairs 0) 1), .int false .i64 (pairs 1), .int false .i64 (step nodes 0 (pairs 1) 1), .int false .i64 (pairs 2), .int false .i64 (step nodes 0 (pairs 2) 1), .int false .i64 (pairs 3), .int false .i64 (step nodes 0 (pairs 3) 1), .int false .i64 (pairs 4), .int false .i64 (step nodes 0 (pairs 4) 1), .int false .i64 (pairs 5), .int false .i64 (step nodes 0 (pairs 5) 1), .int false .i64 (pairs 6), .int false .i64 (step nodes 0 (pairs 6) 1)])) .e 0 := by kernel_rfl
theorem halves_l7 (c : Cfg) : ∀ j, j < 14 → lst0 [.int false .i64 (c.pairs 0), .int false .i64 (step c.nodes 0 (c.pairs 0) 1), .int false .i64 (c.pairs 1), .int false .i64 (step c.nodes 0 (c.pairs 1) 1), .int false .i64 (c.pairs 2), .int false .i64 (step c.nodes 0 (c.pairs 2) 1), .int false .i64 (c.pairs 3), .int false .i64 (step c.nodes 0 (c.pairs 3) 1), .int false .i64 (c.pairs 4), .int false .i64 (step c.nodes 0 (c.pairs 4) 1), .int false .i64 (c.pairs 5), .int false .i64 (step c.nodes 0 (c.pairs 5) 1), .int false .i64 (c.pairs 6), .int false .i64 (step c.nodes 0 (c.pairs 6) 1)] j = [.int false .i64 (hv c j)] := fun j hj => by
  rcases j with _ | _ | _ | _ | _ | _ | _ | _ | _ | _ | _ | _ | _ | _ | j
  · rfl
  · rfl
  · rfl
  · rfl
  · rfl
  · rfl
  · rfl
  · rfl
  · rfl
  · rfl
  · rfl
  · rfl
  · rfl
  · rfl
  · omega
theorem halves_sx8 (nodes : Int) (pairs : Nat → Int) (ns : Nat) (slots : Nat → Int) (long : Int) (nb : Nat) (boots : Nat → Int) (nst : Nat) (sa sb sc : Nat → Int) (miss good fresh : Int) (k : AV → Heap → Nat → Prop) : frzSC (sexec E0 (FE (fun _ _ => False) [step0C] []) Tryz.f39 [unroll E0 (FE (fun _ _ => False) [step0C] []) halvesB [] 10]) [.agg (Cfg.cells ⟨nodes, 8, pairs, ns, slots, long, nb, boots, nst, sa, sb, sc, miss, good, fresh⟩)] .e 0 k = k (.isl 1 16 none (lst0 [.int false .i64 (pairs 0), .int false .i64 (step nodes 0 (pairs 0) 1), .int false .i64 (pairs 1), .int false .i64 (step nodes 0 (pairs 1) 1), .int false .i64 (pairs 2), .int false .i64 (step nodes 0 (pairs 2) 1), .int false .i64 (pairs 3), .int false .i64 (step nodes 0 (pairs 3) 1), .int false .i64 (pairs 4), .int false .i64 (step nodes 0 (pairs 4) 1), .int false .i64 (pairs 5), .int false .i64 (step nodes 0 (pairs 5) 1), .int false .i64 (pairs 6), .int false .i64 (step nodes 0 (pairs 6) 1), .int false .i64 (pairs 7), .int false .i64 (step nodes 0 (pairs 7) 1)])) .e 0 := by kernel_rfl
theorem halves_l8 (c : Cfg) : ∀ j, j < 16 → lst0 [.int false .i64 (c.pairs 0), .int false .i64 (step c.nodes 0 (c.pairs 0) 1), .int false .i64 (c.pairs 1), .int false .i64 (step c.nodes 0 (c.pairs 1) 1), .int false .i64 (c.pairs 2), .int false .i64 (step c.nodes 0 (c.pairs 2) 1), .int false .i64 (c.pairs 3), .int false .i64 (step c.nodes 0 (c.pairs 3) 1), .int false .i64 (c.pairs 4), .int false .i64 (step c.nodes 0 (c.pairs 4) 1), .int false .i64 (c.pairs 5), .int false .i64 (step c.nodes 0 (c.pairs 5) 1), .int false .i64 (c.pairs 6), .int false .i64 (step c.nodes 0 (c.pairs 6) 1), .int false .i64 (c.pairs 7), .int false .i64 (step c.nodes 0 (c.pairs 7) 1)] j = [.int false .i64 (hv c j)] := fun j hj => by
  rcases j with _ | _ | _ | _ | _ | _ | _ | _ | _ | _ | _ | _ | _ | _ | _ | _ | j
  · rfl
  · rfl
  · rfl
  · rfl
  · rfl
  · rfl
  · rfl
  · rfl
  · rfl
  · rfl
  · rfl
  · rfl
  · rfl
  · rfl
  · rfl
  · rfl
  · omega
def halvesP : SCP := fun args L k => match args, L with
  | [.agg [.int false .i64 nodes, .isl 1 np _ fp, .isl 1 ns _ fs, .int false .i64 long, .isl 1 nb _ fb, .isl 3 nst _ ft, .int false .i64 miss, .int false .i64 good, .int false .i64 fresh]], [] => (CfgOk np fp ns fs nb fb nst ft ∧ 2 ≤ np ∧ np ≤ 8) ∧ k (.isl 1 (2 * np) none (fun j => [.int false .i64 (hv (cfg9 nodes np fp ns fs long nb fb nst ft miss good fresh) j)])) .e 0
  | _, _ => False
theorem halves_ok : SOK E0 39 (scN 0 halvesP) :=
  (frzSC_ok halves_fun).spec0 fun args L k h => by
    unfold halvesP at h; split at h
    · rename_i nodes np cp fp ns cs fs long nb cb fb nst ct ft miss good fresh
      obtain ⟨⟨hc, h2, h8⟩, h⟩ := h
      refine ⟨rfl, _, .cons (Wk.cfg hc).agg .nil, ?_⟩
      obtain ⟨c, he⟩ : ∃ c, c = (cfg9 nodes np fp ns fs long nb fb nst ft miss good fresh) := ⟨_, rfl⟩
      rw [← he] at h ⊢
      have hnp : np = c.np := by rw [he]; rfl
      have hn : np = 2 ∨ np = 3 ∨ np = 4 ∨ np = 5 ∨ np = 6 ∨ np = 7 ∨ np = 8 := by omega
      clear hc he
      obtain ⟨nodes, np', pairs, ns, slots, long, nb, boots, nst, sa, sb, sc, miss, good, fresh⟩ := c
      simp only at hnp
      subst hnp
      rcases hn with rfl | rfl | rfl | rfl | rfl | rfl | rfl
      · rw [halves_sx2]; exact ⟨_, Wk.isl (halves_l2 ⟨nodes, 2, pairs, ns, slots, long, nb, boots, nst, sa, sb, sc, miss, good, fresh⟩), h⟩
      · rw [halves_sx3]; exact ⟨_, Wk.isl (halves_l3 ⟨nodes, 3, pairs, ns, slots, long, nb, boots, nst, sa, sb, sc, miss, good, fresh⟩), h⟩
      · rw [halves_sx4]; exact ⟨_, Wk.isl (halves_l4 ⟨nodes, 4, pairs, ns, slots, long, nb, boots, nst, sa, sb, sc, miss, good, fresh⟩), h⟩
      · rw [halves_sx5]; exact ⟨_, Wk.isl (halves_l5 ⟨nodes, 5, pairs, ns, slots, long, nb, boots, nst, sa, sb, sc, miss, good, fresh⟩), h⟩
      · rw [halves_sx6]; exact ⟨_, Wk.isl (halves_l6 ⟨nodes, 6, pairs, ns, slots, long, nb, boots, nst, sa, sb, sc, miss, good, fresh⟩), h⟩
      · rw [halves_sx7]; exact ⟨_, Wk.isl (halves_l7 ⟨nodes, 7, pairs, ns, slots, long, nb, boots, nst, sa, sb, sc, miss, good, fresh⟩), h⟩
      · rw [halves_sx8]; exact ⟨_, Wk.isl (halves_l8 ⟨nodes, 8, pairs, ns, slots, long, nb, boots, nst, sa, sb, sc, miss, good, fresh⟩), h⟩
    · exact h.elim
noncomputable abbrev halvesC : Nat × FC := (39, vcall (clrSC (scN 0 halvesP)))
theorem halvesC_ok : FOK E0 39 (vcall (clrSC (scN 0 halvesP))) := vcall_ok (clrSC_ok halves_ok)

def inP (c : Cfg) : Bool := decide (findI (fun j => outB c.nodes (c.pairs j)) 0 c.np < 0)
def r3 (c : Cfg) : Int := must (inP c && (srt c.pairs (c.np - 1) && sgl (hv c) (2 * c.np)))
def Cfg.ok (c : Cfg) : Prop := CfgOk c.np (fun j => [.int false .i64 (c.pairs j)]) c.ns (fun j => [.int false .i64 (c.slots j)]) c.nb (fun j => [.int false .i64 (c.boots j)]) c.nst (fun j => [.int false .i64 (c.sa j), .int false .u32 (c.sb j), .int false .i64 (c.sc j)])
/-! ## sennit/configs.rules$3 -/
def rule3P : SCP := fun args L k => match args, L with
  | [.agg [.int false .i64 nodes, .isl 1 np _ fp, .isl 1 ns _ fs, .int false .i64 long, .isl 1 nb _ fb, .isl 3 nst _ ft, .int false .i64 miss, .int false .i64 good, .int false .i64 fresh]], [] => (CfgOk np fp ns fs nb fb nst ft ∧ 2 ≤ np ∧ np ≤ 8) ∧ k (.int false .i64 (r3 (cfg9 nodes np fp ns fs long nb fb nst ft miss good fresh))) .e 0
  | _, _ => False
theorem rule3_sx (c : Cfg) (k : AV → Heap → Nat → Prop) : gcSC (sexec E0 (FE (fun _ _ => False) [insideC, srtC, singleC, halvesC, mustC] []) Tryz.f45 []) [.agg c.cells] .e 0 k =
    ((Ints .i64 (fun j => [.int false .i64 (c.pairs j)]) c.np ∧ Len c.np) ∧ bcase (inP c) ((Ints .i64 (fun j => [.int false .i64 (c.pairs j)]) c.np ∧ Len c.np ∧ 0 < c.np) ∧ bcase (srt c.pairs (c.np - 1)) ((Cfg.ok c ∧ 2 ≤ c.np ∧ c.np ≤ 8) ∧
      (Ints .i64 (fun j => [.int false .i64 (hv c j)]) (2 * c.np) ∧ (2 * c.np = 4 ∨ 2 * c.np = 6 ∨ 2 * c.np = 8 ∨ 2 * c.np = 10 ∨ 2 * c.np = 12 ∨ 2 * c.np = 14 ∨ 2 * c.np = 16)) ∧ k (.int false .i64 (must (sgl (hv c) (2 * c.np)))) .e 0) (k (.int false .i64 (must false)) .e 0)) (k (.int false .i64 (must false)) .e 0)) := by kernel_rfl
theorem rule3_ok : SOK E0 45 (scN 0 rule3P) :=
  (gcSC_ok (fun_ok (FE_ok E0_ok (.cons insideC_ok (.cons srtC_ok (.cons singleC_ok (.cons halvesC_ok (.cons mustC_ok .nil))))) .nil) T0_ok (f := 45) (fn := Tryz.f45) (by kernel_rfl) (ls := []) .nil)).spec0 fun args L k h => by
    unfold rule3P at h; split at h
    · rename_i nodes np cp fp ns cs fs long nb cb fb nst ct ft miss good fresh
      obtain ⟨hc, h⟩ := h
      refine ⟨rfl, _, .cons (Wk.cfg hc.1).agg .nil, ?_⟩
      rw [rule3_sx]
      obtain ⟨hc, h2, h8⟩ := hc
      refine ⟨⟨.of, hc.2.1⟩, bc_i (fun c1 => ⟨⟨.of, hc.2.1, ?_⟩, bc_i (fun c2 => ⟨⟨.of _ hc.2, h2, h8⟩, ⟨.of, ?_⟩, kI h ?_⟩) fun c2 => kI h (by simp [r3, c1, c2])⟩) fun c1 => kI h (by simp [r3, c1])⟩
      · show 0 < np; omega
      · have : 2 * np = 4 ∨ 2 * np = 6 ∨ 2 * np = 8 ∨ 2 * np = 10 ∨ 2 * np = 12 ∨ 2 * np = 14 ∨ 2 * np = 16 := by omega
        exact this
      · simp [r3, c1, c2]
    · exact h.elim
noncomputable abbrev rule3C : Nat × FC := (45, vcall (clrSC (scN 0 rule3P)))
theorem rule3C_ok : FOK E0 45 (vcall (clrSC (scN 0 rule3P))) := vcall_ok (clrSC_ok rule3_ok)

end Go.Sx
