/- Part of an own symbolic executor for the model's code, proved sound, and of the proof of one statement (see the text of the claimed theorem). -/
import Derived.Test.YtkpkfccgbehilaaGreatDoorBoSh
import Derived.Test.YtkpkfccgbehilaaGreatDoorSxAP
namespace Go.Sx
open Go.Proofs
set_option maxRecDepth 1000000

noncomputable def E1 : Env := { E0 with lit := true }
theorem E1_ok : E1.Ok := ⟨E0_ok.info, E0_ok.mixed, E0_ok.stood, E0_ok.guard⟩
noncomputable def FR0 : Fs := fsOf E1 FT0 64 (fun _ => true) (FE (fun _ _ => False) [] []) 6
theorem FR0_ok : FsEnv E1 FR0 := fsOf_ok E1_ok T0_ok 64 _ (FE_ok E1_ok .nil .nil) 6
noncomputable def repB : Code := loopB ((items (bodyOf Tryz.f38)).getD 0 .skip)

theorem rep_fun : SOK E0 38 (gcSC (sexec E1 FR0 Tryz.f38 [unroll E1 FR0 repB [] 10])) := SOK.env (E := E0) (E' := E1) rfl rfl (gcSC_ok (fun_ok FR0_ok T0_ok (f := 38) (fn := Tryz.f38) (by kernel_rfl)
  (by rw [show items (bodyOf Tryz.f38) = [.loop repB] by kernel_rfl]; exact .cons (fun st k h => unroll_ok FR0_ok (LAll_items _ _ .nil) 10 st k h) .nil)))
theorem rep_sx4 (k : AV → Heap → Nat → Prop) : gcSC (sexec E1 FR0 Tryz.f38 [unroll E1 FR0 repB [] 10]) [.isl 1 1 none (fun _ => [.int false .i64 (-1)]), .int true .i64 4] .e 0 k = k (.sl 0 0 0 1 4 (some 4)) (Tr.puts .e [(0, .cells 3 [.int false .i64 (-1), .int false .i64 (-1), .int false .i64 (-1), .int false .i64 (-1)])]) 1 := by kernel_rfl
theorem rep_sx5 (k : AV → Heap → Nat → Prop) : gcSC (sexec E1 FR0 Tryz.f38 [unroll E1 FR0 repB [] 10]) [.isl 1 1 none (fun _ => [.int false .i64 (-1)]), .int true .i64 5] .e 0 k = k (.sl 0 0 0 1 5 (some 5)) (Tr.puts .e [(0, .cells 3 [.int false .i64 (-1), .int false .i64 (-1), .int false .i64 (-1), .int false .i64 (-1), .int false .i64 (-1)])]) 1 := by kernel_rfl
theorem rep_sx6 (k : AV → Heap → Nat → Prop) : gcSC (sexec E1 FR0 Tryz.f38 [unroll E1 FR0 repB [] 10]) [.isl 1 1 none (fun _ => [.int false .i64 (-1)]), .int true .i64 6] .e 0 k = k (.sl 0 0 0 1 6 (some 6)) (Tr.puts .e [(0, .cells 3 [.int false .i64 (-1), .int false .i64 (-1), .int false .i64 (-1), .int false .i64 (-1), .int false .i64 (-1), .int false .i64 (-1)])]) 1 := by kernel_rfl
theorem rep_sx7 (k : AV → Heap → Nat → Prop) : gcSC (sexec E1 FR0 Tryz.f38 [unroll E1 FR0 repB [] 10]) [.isl 1 1 none (fun _ => [.int false .i64 (-1)]), .int true .i64 7] .e 0 k = k (.sl 0 0 0 1 7 (some 7)) (Tr.puts .e [(0, .cells 3 [.int false .i64 (-1), .int false .i64 (-1), .int false .i64 (-1), .int false .i64 (-1), .int false .i64 (-1), .int false .i64 (-1), .int false .i64 (-1)])]) 1 := by kernel_rfl
theorem rep_sx8 (k : AV → Heap → Nat → Prop) : gcSC (sexec E1 FR0 Tryz.f38 [unroll E1 FR0 repB [] 10]) [.isl 1 1 none (fun _ => [.int false .i64 (-1)]), .int true .i64 8] .e 0 k = k (.sl 0 0 0 1 8 (some 8)) (Tr.puts .e [(0, .cells 3 [.int false .i64 (-1), .int false .i64 (-1), .int false .i64 (-1), .int false .i64 (-1), .int false .i64 (-1), .int false .i64 (-1), .int false .i64 (-1), .int false .i64 (-1)])]) 1 := by kernel_rfl
theorem rep_sx9 (k : AV → Heap → Nat → Prop) : gcSC (sexec E1 FR0 Tryz.f38 [unroll E1 FR0 repB [] 10]) [.isl 1 1 none (fun _ => [.int false .i64 (-1)]), .int true .i64 9] .e 0 k = k (.sl 0 0 0 1 9 (some 9)) (Tr.puts .e [(0, .cells 3 [.int false .i64 (-1), .int false .i64 (-1), .int false .i64 (-1), .int false .i64 (-1), .int false .i64 (-1), .int false .i64 (-1), .int false .i64 (-1), .int false .i64 (-1), .int false .i64 (-1)])]) 1 := by kernel_rfl
theorem rep_sx10 (k : AV → Heap → Nat → Prop) : gcSC (sexec E1 FR0 Tryz.f38 [unroll E1 FR0 repB [] 10]) [.isl 1 1 none (fun _ => [.int false .i64 (-1)]), .int true .i64 10] .e 0 k = k (.sl 0 0 0 1 10 (some 10)) (Tr.puts .e [(0, .cells 3 [.int false .i64 (-1), .int false .i64 (-1), .int false .i64 (-1), .int false .i64 (-1), .int false .i64 (-1), .int false .i64 (-1), .int false .i64 (-1), .int false .i64 (-1), .int false .i64 (-1), .int false .i64 (-1)])]) 1 := by kernel_rfl
theorem rep_sx11 (k : AV → Heap → Nat → Prop) : gcSC (sexec E1 FR0 Tryz.f38 [unroll E1 FR0 repB [] 10]) [.isl 1 1 none (fun _ => [.int false .i64 (-1)]), .int true .i64 11] .e 0 k = k (.sl 0 0 0 1 11 (some 11)) (Tr.puts .e [(0, .cells 3 [.int false .i64 (-1), .int false .i64 (-1), .int false .i64 (-1), .int false .i64 (-1), .int false .i64 (-1), .int false .i64 (-1), .int false .i64 (-1), .int false .i64 (-1), .int false .i64 (-1), .int false .i64 (-1), .int false .i64 (-1)])]) 1 := by kernel_rfl
theorem rep_sx12 (k : AV → Heap → Nat → Prop) : gcSC (sexec E1 FR0 Tryz.f38 [unroll E1 FR0 repB [] 10]) [.isl 1 1 none (fun _ => [.int false .i64 (-1)]), .int true .i64 12] .e 0 k = k (.sl 0 0 0 1 12 (some 12)) (Tr.puts .e [(0, .cells 3 [.int false .i64 (-1), .int false .i64 (-1), .int false .i64 (-1), .int false .i64 (-1), .int false .i64 (-1), .int false .i64 (-1), .int false .i64 (-1), .int false .i64 (-1), .int false .i64 (-1), .int false .i64 (-1), .int false .i64 (-1), .int false .i64 (-1)])]) 1 := by kernel_rfl
theorem rep_sx13 (k : AV → Heap → Nat → Prop) : gcSC (sexec E1 FR0 Tryz.f38 [unroll E1 FR0 repB [] 10]) [.isl 1 1 none (fun _ => [.int false .i64 (-1)]), .int true .i64 13] .e 0 k = k (.sl 0 0 0 1 13 (some 13)) (Tr.puts .e [(0, .cells 3 [.int false .i64 (-1), .int false .i64 (-1), .int false .i64 (-1), .int false .i64 (-1), .int false .i64 (-1), .int false .i64 (-1), .int false .i64 (-1), .int false .i64 (-1), .int false .i64 (-1), .int false .i64 (-1), .int false .i64 (-1), .int false .i64 (-1), .int false .i64 (-1)])]) 1 := by kernel_rfl
theorem rep_sx14 (k : AV → Heap → Nat → Prop) : gcSC (sexec E1 FR0 Tryz.f38 [unroll E1 FR0 repB [] 10]) [.isl 1 1 none (fun _ => [.int false .i64 (-1)]), .int true .i64 14] .e 0 k = k (.sl 0 0 0 1 14 (some 14)) (Tr.puts .e [(0, .cells 3 [.int false .i64 (-1), .int false .i64 (-1), .int false .i64 (-1), .int false .i64 (-1), .int false .i64 (-1), .int false .i64 (-1), .int false .i64 (-1), .int false .i64 (-1), .int false .i64 (-1), .int false .i64 (-1), .int false .i64 (-1), .int false .i64 (-1), .int false .i64 (-1), .int false .i64 (-1)])]) 1 := by kernel_rfl
theorem rep_sx15 (k : AV → Heap → Nat → Prop) : gcSC (sexec E1 FR0 Tryz.f38 [unroll E1 FR0 repB [] 10]) [.isl 1 1 none (fun _ => [.int false .i64 (-1)]), .int true .i64 15] .e 0 k = k (.sl 0 0 0 1 15 (some 15)) (Tr.puts .e [(0, .cells 3 [.int false .i64 (-1), .int false .i64 (-1), .int false .i64 (-1), .int false .i64 (-1), .int false .i64 (-1), .int false .i64 (-1), .int false .i64 (-1), .int false .i64 (-1), .int false .i64 (-1), .int false .i64 (-1), .int false .i64 (-1), .int false .i64 (-1), .int false .i64 (-1), .int false .i64 (-1), .int false .i64 (-1)])]) 1 := by kernel_rfl
theorem rep_sx16 (k : AV → Heap → Nat → Prop) : gcSC (sexec E1 FR0 Tryz.f38 [unroll E1 FR0 repB [] 10]) [.isl 1 1 none (fun _ => [.int false .i64 (-1)]), .int true .i64 16] .e 0 k = k (.sl 0 0 0 1 16 (some 16)) (Tr.puts .e [(0, .cells 3 [.int false .i64 (-1), .int false .i64 (-1), .int false .i64 (-1), .int false .i64 (-1), .int false .i64 (-1), .int false .i64 (-1), .int false .i64 (-1), .int false .i64 (-1), .int false .i64 (-1), .int false .i64 (-1), .int false .i64 (-1), .int false .i64 (-1), .int false .i64 (-1), .int false .i64 (-1), .int false .i64 (-1), .int false .i64 (-1)])]) 1 := by kernel_rfl
def repP : SCP := fun args L k => match args, L with
  | [.isl 1 1 _ f, .int false .i64 n], [] => (f 0 = [.int false .i64 (-1)] ∧ 4 ≤ n ∧ n ≤ 16) ∧ k (.sl 0 0 0 1 n.toNat (some n.toNat)) (Tr.puts .e [(0, .row 3 1 n.toNat fun _ => [.int false .i64 (-1)])]) 1
  | _, _ => False
theorem rep_w {n : Nat} {l : List AV} (hl : l = List.replicate n (.int false .i64 (-1))) : WkC (.cells 3 l) (.row 3 1 n fun _ => [.int false .i64 (-1)]) :=
  .row (by simp [hl]) fun i hi => ⟨_, _, by rw [hl]; simp [hi], rfl, .refl _⟩
theorem rep_ok : SOK E0 38 (scN 0 repP) :=
  rep_fun.spec0C fun args L k h => by
    unfold repP at h; split at h
    · rename_i cap f n
      obtain ⟨⟨h1, h3, h4⟩, h⟩ := h
      refine ⟨rfl, _, .cons (.trans .cap (Wk.isl (f' := fun _ => [.int false .i64 (-1)]) (fun j hj => by rw [show j = 0 by omega]; exact h1))) (.cons (Wk.int (l' := true)) .nil), ?_⟩
      have hn : n = 4 ∨ n = 5 ∨ n = 6 ∨ n = 7 ∨ n = 8 ∨ n = 9 ∨ n = 10 ∨ n = 11 ∨ n = 12 ∨ n = 13 ∨ n = 14 ∨ n = 15 ∨ n = 16 := by omega
      rcases hn with rfl | rfl | rfl | rfl | rfl | rfl | rfl | rfl | rfl | rfl | rfl | rfl | rfl
      · rw [rep_sx4]; exact ⟨0, _, _, _, puts_get0 _, rep_w (n := 4) rfl, .refl _, by rw [puts_put0]; exact h⟩
      · rw [rep_sx5]; exact ⟨0, _, _, _, puts_get0 _, rep_w (n := 5) rfl, .refl _, by rw [puts_put0]; exact h⟩
      · rw [rep_sx6]; exact ⟨0, _, _, _, puts_get0 _, rep_w (n := 6) rfl, .refl _, by rw [puts_put0]; exact h⟩
      · rw [rep_sx7]; exact ⟨0, _, _, _, puts_get0 _, rep_w (n := 7) rfl, .refl _, by rw [puts_put0]; exact h⟩
      · rw [rep_sx8]; exact ⟨0, _, _, _, puts_get0 _, rep_w (n := 8) rfl, .refl _, by rw [puts_put0]; exact h⟩
      · rw [rep_sx9]; exact ⟨0, _, _, _, puts_get0 _, rep_w (n := 9) rfl, .refl _, by rw [puts_put0]; exact h⟩
      · rw [rep_sx10]; exact ⟨0, _, _, _, puts_get0 _, rep_w (n := 10) rfl, .refl _, by rw [puts_put0]; exact h⟩
      · rw [rep_sx11]; exact ⟨0, _, _, _, puts_get0 _, rep_w (n := 11) rfl, .refl _, by rw [puts_put0]; exact h⟩
      · rw [rep_sx12]; exact ⟨0, _, _, _, puts_get0 _, rep_w (n := 12) rfl, .refl _, by rw [puts_put0]; exact h⟩
      · rw [rep_sx13]; exact ⟨0, _, _, _, puts_get0 _, rep_w (n := 13) rfl, .refl _, by rw [puts_put0]; exact h⟩
      · rw [rep_sx14]; exact ⟨0, _, _, _, puts_get0 _, rep_w (n := 14) rfl, .refl _, by rw [puts_put0]; exact h⟩
      · rw [rep_sx15]; exact ⟨0, _, _, _, puts_get0 _, rep_w (n := 15) rfl, .refl _, by rw [puts_put0]; exact h⟩
      · rw [rep_sx16]; exact ⟨0, _, _, _, puts_get0 _, rep_w (n := 16) rfl, .refl _, by rw [puts_put0]; exact h⟩
    · exact h.elim
noncomputable abbrev repC : Nat × FC := (38, vcall (clrSC (scN 0 repP)))
theorem repC_ok : FOK E0 38 (vcall (clrSC (scN 0 repP))) := vcall_ok (clrSC_ok rep_ok)

noncomputable abbrev rulesI : Nat × SC := (36, sexec E0 (FE (fun _ _ => False) [] []) Tryz.f36 [])
theorem rulesI_ok : SOK E0 36 rulesI.2 :=
  fun_ok (FE_ok E0_ok .nil .nil) T0_ok (f := 36) (fn := Tryz.f36) (by kernel_rfl) (ls := []) .nil

noncomputable def newB0 : Code := loopB ((items (bodyOf Tryz.f22)).getD 0 .skip)

noncomputable def newB1 : Code := loopB ((items (bodyOf Tryz.f22)).getD 1 .skip)

noncomputable abbrev FN : Fs := FE (fun _ _ => False) [rule1C, rule2C, rule3C, rule4C, rule5C, rule6C, rule7C, rule8C, rule9C, rule10C, ownC, repC, halvesC] [rulesI]
theorem FN_ok : FsEnv E0 FN := (FE_ok E0_ok (.cons rule1C_ok (.cons rule2C_ok (.cons rule3C_ok (.cons rule4C_ok (.cons rule5C_ok (.cons rule6C_ok (.cons rule7C_ok (.cons rule8C_ok (.cons rule9C_ok (.cons rule10C_ok (.cons ownC_ok (.cons repC_ok (.cons halvesC_ok .nil))))))))))))) (.cons (f := 36) (sc := rulesI.2) rulesI_ok .nil))
end Go.Sx

namespace Go.Sx
open Go.Proofs
set_option maxRecDepth 1000000

def updI (p : Nat → Int) (e : Nat) (v : Int) : Nat → Int := fun k => match Nat.beq k e with
  | true => v
  | false => p k
/-- 'n' numbers laid where 'h' says: half their places. -/
def fillI (h : Nat → Int) : Nat → (Nat → Int) → Nat → Int
  | 0, p => p
  | i + 1, p => updI (fillI h i p) (0 + (h i).toNat) (IntKind.wrap .i64 (Int.tdiv (Int.ofNat i) 2))
noncomputable def newH (c0 c1 c2 c3 c4 c5 c6 c7 c8 c9 c10 c11 c12 : Chunk) (x0 x1 x2 x3 x4 x5 x6 x7 x8 : AV) (_n N : Nat) (_h : Nat → Int) (cp : Option Nat) (p : Nat → Int) : List (Nat × Chunk) := [(0, c0), (16, c1), (32, c2), (64, c3), (96, c4), (128, c5), (160, c6), (192, c7), (224, c8), (256, c9), (288, c10), (320, c11), (384, c12), (432, .row 3 1 N (fun j => [.int false .i64 (p j)])), (464, .cells 39 [x0,x1,x2,x3,x4,x5,x6,x7,x8,.sl 432 0 0 1 N cp])]
noncomputable def newST (c0 c1 c2 c3 c4 c5 c6 c7 c8 c9 c10 c11 c12 : Chunk) (x0 x1 x2 x3 x4 x5 x6 x7 x8 : AV) (n N : Nat) (h : Nat → Int) (cp : Option Nat) (p : Nat → Int) (i : Int) : St := ⟨putT [7,33,34,35] [.ptr 464 0, .isl 1 n none (fun j => [.int false .i64 (h j)]), .int false .i64 (Int.ofNat n), .int false .i64 i] .e, Tr.puts .e (newH c0 c1 c2 c3 c4 c5 c6 c7 c8 c9 c10 c11 c12 x0 x1 x2 x3 x4 x5 x6 x7 x8 n N h cp p), 496, 50, none⟩
theorem upd_row (p : Nat → Int) (e : Nat) (v : Int) : (fun k => match Nat.beq k e with
      | true => splice 0 [.int false .i64 v] [.int false .i64 (p e)]
      | false => [.int false .i64 (p k)]) = fun k => [.int false .i64 (updI p e v k)] := by
  funext k
  unfold updI
  cases Nat.beq k e <;> rfl
theorem new_round (c0 c1 c2 c3 c4 c5 c6 c7 c8 c9 c10 c11 c12 : Chunk) (x0 x1 x2 x3 x4 x5 x6 x7 x8 : AV) (n N : Nat) (h : Nat → Int) (cp : Option Nat) (p : Nat → Int) (i : Nat) (next : St → Prop) (K : Exit → List AV → Heap → Nat → Prop) :
  roundG E0 FN newB1 [] (gcN 496 [7,33,34,35]) next (endK [7] 50 K) (newST c0 c1 c2 c3 c4 c5 c6 c7 c8 c9 c10 c11 c12 x0 x1 x2 x3 x4 x5 x6 x7 x8 n N h cp p (Int.ofNat i)) =
    (bcase (decide (Int.ofNat i < Int.ofNat n))
  (bcase (decide (0 ≤ Int.ofNat i ∧ Int.ofNat i < (n : Int)))
    (bcase (decide (0 ≤ h i ∧ h i < (N : Int)))
      (bcase (decide (0 + (h i).toNat < N ∧ 1 = 1))
        (next ⟨putT [7,33,34,35] [.ptr 464 0, .isl 1 n none (fun j => [.int false .i64 (h j)]), .int false .i64 (Int.ofNat n), .int false .i64 (IntKind.wrap .i64 (Int.ofNat i + 1))] .e, Tr.puts .e [(0, c0), (16, c1), (32, c2), (64, c3), (96, c4), (128, c5), (160, c6), (192, c7), (224, c8), (256, c9), (288, c10), (320, c11), (384, c12), (432, .row 3 1 N (fun k => match Nat.beq k (0 + (h i).toNat) with | true => splice 0 [.int false .i64 (IntKind.wrap .i64 (Int.tdiv (Int.ofNat i) 2))] [.int false .i64 (p (0 + (h i).toNat))] | false => [.int false .i64 (p k)])), (464, .cells 39 [x0,x1,x2,x3,x4,x5,x6,x7,x8,.sl 432 0 0 1 N cp])], 496, 50, none⟩) False) False) False)
  (K (.exit 2) [.ptr 464 0] (Tr.puts .e (newH c0 c1 c2 c3 c4 c5 c6 c7 c8 c9 c10 c11 c12 x0 x1 x2 x3 x4 x5 x6 x7 x8 n N h cp p)) 496)) := by kernel_rfl

def newP : LKP := fun args cs K => match args, cs with
  | [.ptr 464 0, .isl 1 n _ g, .int _ .i64 n', .int _ .i64 i], [c0, c1, c2, c3, c4, c5, c6, c7, c8, c9, c10, c11, c12, .row 3 1 N f, .cells 39 [x0,x1,x2,x3,x4,x5,x6,x7,x8, .sl 432 0 0 1 N' cp]] => (Ints .i64 g n ∧ (∀ j, j < n → 0 ≤ geti g j ∧ geti g j < (N : Int)) ∧ Len n ∧ n' = Int.ofNat n ∧ i = 0 ∧ f = (fun _ => [.int false .i64 (-1)]) ∧ N' = N) ∧ K (.exit 2) [.ptr 464 0] (Tr.puts .e [(0, c0), (16, c1), (32, c2), (64, c3), (96, c4), (128, c5), (160, c6), (192, c7), (224, c8), (256, c9), (288, c10), (320, c11), (384, c12), (432, .row 3 1 N (fun j => [.int false .i64 (fillI (geti g) n (fun _ => -1) j)])), (464, .cells 39 [x0,x1,x2,x3,x4,x5,x6,x7,x8,.sl 432 0 0 1 N cp])]) 496
  | _, _ => False
noncomputable def newL : LSC := atK 496 [0,16,32,64,96,128,160,192,224,256,288,320,384,432,464] newP
theorem newL_in : LSOK E0 false (.loop newB1) 50 [7,33,34,35] [7] (fun args H nid K => ∃ args', WkL args args' ∧ ∃ (c0 c1 c2 c3 c4 c5 c6 c7 c8 c9 c10 c11 c12 : Chunk) (x0 x1 x2 x3 x4 x5 x6 x7 x8 : AV) (n N : Nat) (h : Nat → Int) (cp : Option Nat), (Len n ∧ (∀ j, j < n → 0 ≤ h j ∧ h j < (N : Int))) ∧ nid = 496 ∧ H = Tr.puts .e (newH c0 c1 c2 c3 c4 c5 c6 c7 c8 c9 c10 c11 c12 x0 x1 x2 x3 x4 x5 x6 x7 x8 n N h cp (fun _ => -1)) ∧ args' = [.ptr 464 0, .isl 1 n none (fun j => [.int false .i64 (h j)]), .int false .i64 (Int.ofNat n), .int false .i64 0] ∧ K (.exit 2) [.ptr 464 0] (Tr.puts .e (newH c0 c1 c2 c3 c4 c5 c6 c7 c8 c9 c10 c11 c12 x0 x1 x2 x3 x4 x5 x6 x7 x8 n N h cp (fillI h n fun _ => -1))) 496) :=
  LSOK.wk (ls' := fun args' H nid K => ∃ (c0 c1 c2 c3 c4 c5 c6 c7 c8 c9 c10 c11 c12 : Chunk) (x0 x1 x2 x3 x4 x5 x6 x7 x8 : AV) (n N : Nat) (h : Nat → Int) (cp : Option Nat), (Len n ∧ (∀ j, j < n → 0 ≤ h j ∧ h j < (N : Int))) ∧ nid = 496 ∧ H = Tr.puts .e (newH c0 c1 c2 c3 c4 c5 c6 c7 c8 c9 c10 c11 c12 x0 x1 x2 x3 x4 x5 x6 x7 x8 n N h cp (fun _ => -1)) ∧ args' = [.ptr 464 0, .isl 1 n none (fun j => [.int false .i64 (h j)]), .int false .i64 (Int.ofNat n), .int false .i64 0] ∧ K (.exit 2) [.ptr 464 0] (Tr.puts .e (newH c0 c1 c2 c3 c4 c5 c6 c7 c8 c9 c10 c11 c12 x0 x1 x2 x3 x4 x5 x6 x7 x8 n N h cp (fillI h n fun _ => -1))) 496)
    (fun args H nid K _ ⟨c0, c1, c2, c3, c4, c5, c6, c7, c8, c9, c10, c11, c12, x0, x1, x2, x3, x4, x5, x6, x7, x8, n, N, h, cp, ⟨hn, hh⟩, e1, e2, e3, hk⟩ => by
      subst e1 e2 e3
      refine loop_N FN_ok .nil 496 [7,33,34,35] (fun i => newST c0 c1 c2 c3 c4 c5 c6 c7 c8 c9 c10 c11 c12 x0 x1 x2 x3 x4 x5 x6 x7 x8 n N h cp (fillI h i fun _ => -1) (Int.ofNat i)) (fun i => True) n (fun i hi hd next hnx => ?_) (fun hd next => ?_) trivial
      · rw [new_round]
        refine bc_t (lt_t hi) (bc_t (in_t hi) (bc_t (by simpa using hh i hi) (bc_t (by have := hh i hi; simp; omega) ?_)))
        rw [upd_row, wrap_succ hi hn]
        exact hnx trivial
      · rw [new_round]
        exact bc_f (lt_f (Nat.le_refl _)) hk)
    fun args H nid K _ h => h
theorem newL_ok : LSOK E0 false (.loop newB1) 50 [7,33,34,35] [7] newL :=
  LSOK_K fun args cs K hf h => by
    unfold newP at h; split at h
    · rename_i n cp' g l1 n' l2 i c0 c1 c2 c3 c4 c5 c6 c7 c8 c9 c10 c11 c12 N f x0 x1 x2 x3 x4 x5 x6 x7 x8 N' cp
      obtain ⟨⟨h1, h2, h3, h4, h5, h6, h7⟩, h⟩ := h
      subst h4 h5 h6 h7
      exact newL_in _ _ 496 K hf ⟨_, .cons (.refl _) (.cons (.trans .cap (Wk.isl (f' := fun j => [.int false .i64 (geti g j)]) (fun j hj => h1 j hj))) (.cons (Wk.int (l' := false)) (.cons (Wk.int (l' := false)) .nil))), c0, c1, c2, c3, c4, c5, c6, c7, c8, c9, c10, c11, c12, x0, x1, x2, x3, x4, x5, x6, x7, x8, n, N', geti g, cp, ⟨h3, h2⟩, rfl, rfl, rfl, h⟩
    · exact h.elim

end Go.Sx

namespace Go.Sx
open Go.Proofs
set_option maxRecDepth 1000000

/-- A net of a config, as data. -/
def netAV (c : Cfg) (p : Nat → Int) : AV := .iref (c.cells ++ [.isl 1 c.nodes.toNat (some c.nodes.toNat) (fun j => [.int false .i64 (p (0 + j))])])
theorem new_fun : SOK E0 22 (frzSC (sexec E0 FN Tryz.f22 [unroll E0 FN newB0 [] 12, LCd 50 [7,33,34,35] [7] newL])) :=
  frzSC_ok (fun_ok FN_ok T0_ok (f := 22) (fn := Tryz.f22) (by kernel_rfl) (ls := [unroll E0 FN newB0 [] 12, LCd 50 [7,33,34,35] [7] newL])
    (by rw [show items (bodyOf Tryz.f22) = [.loop newB0, .loop newB1] by kernel_rfl]; exact .cons (fun st k h => unroll_ok FN_ok (LAll_items _ _ .nil) 12 st k h) (.cons (LCd_ok newL_ok) .nil)))
theorem new_sx (c : Cfg) (k : AV → Heap → Nat → Prop) : frzSC (sexec E0 FN Tryz.f22 [unroll E0 FN newB0 [] 12, LCd 50 [7,33,34,35] [7] newL]) [.agg c.cells] .e 0 k =
  (c.ok ∧ bcase (r1 c != 0) (k (.tup [.nilp, .int false .i64 (r1 c)]) .e 0) (c.ok ∧ bcase (r2 c != 0) (k (.tup [.nilp, .int false .i64 (r2 c)]) .e 0) ((c.ok ∧ 2 ≤ c.np ∧ c.np ≤ 8) ∧ bcase (r3 c != 0) (k (.tup [.nilp, .int false .i64 (r3 c)]) .e 0) (c.ok ∧ bcase (r4 c != 0) (k (.tup [.nilp, .int false .i64 (r4 c)]) .e 0) (c.ok ∧ bcase (r5 c != 0) (k (.tup [.nilp, .int false .i64 (r5 c)]) .e 0) (c.ok ∧ bcase (r6 c != 0) (k (.tup [.nilp, .int false .i64 (r6 c)]) .e 0) (c.ok ∧ bcase (r7 c != 0) (k (.tup [.nilp, .int false .i64 (r7 c)]) .e 0) (c.ok ∧ bcase (r8 c != 0) (k (.tup [.nilp, .int false .i64 (r8 c)]) .e 0) (c.ok ∧ bcase (r9 c != 0) (k (.tup [.nilp, .int false .i64 (r9 c)]) .e 0) (c.ok ∧ bcase (r10 c != 0) (k (.tup [.nilp, .int false .i64 (r10 c)]) .e 0) (c.ok ∧ ([AV.int false .i64 (-1)] = [.int false .i64 (-1)] ∧ 4 ≤ c.nodes ∧ c.nodes ≤ 16) ∧ ((c.ok ∧ 2 ≤ c.np ∧ c.np ≤ 8) ∧ (Ints .i64 (fun j => [.int false .i64 (hv c j)]) (2 * c.np) ∧ (∀ j, j < 2 * c.np → 0 ≤ geti (fun j => [.int false .i64 (hv c j)]) j ∧ geti (fun j => [.int false .i64 (hv c j)]) j < (c.nodes.toNat : Int)) ∧ Len (2 * c.np) ∧ Int.ofNat (2 * c.np) = Int.ofNat (2 * c.np) ∧ (0 : Int) = 0 ∧ (fun _ : Nat => [AV.int false .i64 (-1)]) = (fun _ => [.int false .i64 (-1)]) ∧ c.nodes.toNat = c.nodes.toNat) ∧ bcase ((0 + c.nodes.toNat).ble c.nodes.toNat) (k (.tup [(netAV c (fillI (hv c) (2 * c.np) (fun _ => -1))), .int true .i64 0]) .e 0) False)))))))))))) := by kernel_rfl

end Go.Sx

namespace Go.Sx
open Go.Proofs
set_option maxRecDepth 1000000

theorem bne_f' {a b : Int} (h : a = b) : (a != b) = false := by simpa using h
theorem within_0 {x lo hi : Int} : within x lo hi = 0 ↔ lo ≤ x ∧ x ≤ hi := by
  unfold within
  by_cases h1 : x > hi <;> by_cases h2 : x < lo <;> simp [h1, h2] <;> omega
theorem must_0 {b : Bool} : must b = 0 ↔ b = true := by cases b <;> simp [must]
theorem inP_t {c : Cfg} : inP c = true ↔ ∀ j, j < c.np → 0 ≤ c.pairs j ∧ c.pairs j < c.nodes := by
  unfold inP
  rw [decide_eq_true_iff, findI_neg]
  refine ⟨fun h j hj => ?_, fun h j _ hj => ?_⟩
  · have := h j (by omega) (by omega); unfold outB at this; simp at this; omega
  · have := h j (by omega); unfold outB; simp; omega
theorem rnd_in {n i : Int} (h1 : 4 ≤ n) (h2 : n ≤ 16) (_h3 : -100 ≤ i) (_h4 : i ≤ 100) : rnd n i = i % n := by
  unfold rnd
  have e1 : -n < i.tmod n := by have := Int.lt_tmod_of_pos i (b := n) (by omega); omega
  have e2 : i.tmod n < n := Int.tmod_lt_of_pos i (by omega)
  rw [wrap_i64 (by omega) (by omega)]
  by_cases hi : 0 ≤ i
  · rw [Int.tmod_eq_emod_of_nonneg hi, Int.tmod_eq_emod_of_nonneg (by have := Int.emod_nonneg i (b := n) (by omega); omega)]
    simp
  · have e3 : 0 ≤ i.tmod n + n := by omega
    rw [Int.tmod_eq_emod_of_nonneg e3, Int.add_emod_right]
    rw [Int.tmod_eq_emod]
    split
    · simp
    · rw [show (n.natAbs : Int) = n by omega]; simp
theorem step_1 {n a : Int} (h1 : 4 ≤ n) (h2 : n ≤ 16) (h3 : 0 ≤ a) (h4 : a < n) : step n 0 a 1 = (a + 1) % n := by
  unfold step
  have e : (1 : Int).tmod n = 1 := by rw [Int.tmod_eq_emod_of_nonneg (by decide)]; exact Int.emod_eq_of_lt (by decide) (by omega)
  rw [e]
  simp only [ge_iff_le, h1, h2, h3, h4, decide_true, Bool.and_true, cond_true, Int.one_mul]
  rw [wrap_i64 (x := 1) (by decide) (by decide), wrap_i64 (by omega) (by omega), rnd_in h1 h2 (by omega) (by omega)]
theorem hv_in {c : Cfg} (hn : 4 ≤ c.nodes ∧ c.nodes ≤ 16) (hp : inP c = true) (j : Nat) (hj : j < 2 * c.np) : 0 ≤ hv c j ∧ hv c j < c.nodes := by
  have h := inP_t.1 hp (j / 2) (by omega)
  unfold hv
  cases Nat.beq (j % 2) 0 with
  | true => exact h
  | false =>
    rw [cond_false, step_1 hn.1 hn.2 h.1 h.2]
    exact ⟨Int.emod_nonneg _ (by omega), Int.emod_lt_of_pos _ (by omega)⟩
theorem c_t {a b : Int} (h : ¬a = 0) : (bif a != 0 then a else b) = a := by rw [show (a != 0) = true by simpa using h]; rfl
theorem c_f {a b : Int} (h : a = 0) : (bif a != 0 then a else b) = b := by rw [show (a != 0) = false by simpa using h]; rfl
theorem fine_aux {a b : Int} (hh : ¬a = 0) (h : (bif a != 0 then a else b) = 0) : a = 0 := by
  rw [show (a != 0) = true by simpa using hh] at h; exact h
/-- What is wrong with a config; 0: nothing. -/
def newE (c : Cfg) : Int := bif r1 c != 0 then r1 c else bif r2 c != 0 then r2 c else bif r3 c != 0 then r3 c else bif r4 c != 0 then r4 c else bif r5 c != 0 then r5 c else bif r6 c != 0 then r6 c else bif r7 c != 0 then r7 c else bif r8 c != 0 then r8 c else bif r9 c != 0 then r9 c else r10 c
def Cfg.fine (c : Cfg) : Prop := newE c = 0
theorem fine_all {c : Cfg} (h : newE c = 0) : r1 c = 0 ∧ r2 c = 0 ∧ r3 c = 0 ∧ r4 c = 0 ∧ r5 c = 0 ∧ r6 c = 0 ∧ r7 c = 0 ∧ r8 c = 0 ∧ r9 c = 0 ∧ r10 c = 0 := by
  unfold newE at h
  have e1 : r1 c = 0 := Classical.byContradiction fun hh => hh (fine_aux hh h)
  rw [bne_f' e1] at h; simp only [cond_false] at h
  have e2 : r2 c = 0 := Classical.byContradiction fun hh => hh (fine_aux hh h)
  rw [bne_f' e2] at h; simp only [cond_false] at h
  have e3 : r3 c = 0 := Classical.byContradiction fun hh => hh (fine_aux hh h)
  rw [bne_f' e3] at h; simp only [cond_false] at h
  have e4 : r4 c = 0 := Classical.byContradiction fun hh => hh (fine_aux hh h)
  rw [bne_f' e4] at h; simp only [cond_false] at h
  have e5 : r5 c = 0 := Classical.byContradiction fun hh => hh (fine_aux hh h)
  rw [bne_f' e5] at h; simp only [cond_false] at h
  have e6 : r6 c = 0 := Classical.byContradiction fun hh => hh (fine_aux hh h)
  rw [bne_f' e6] at h; simp only [cond_false] at h
  have e7 : r7 c = 0 := Classical.byContradiction fun hh => hh (fine_aux hh h)
  rw [bne_f' e7] at h; simp only [cond_false] at h
  have e8 : r8 c = 0 := Classical.byContradiction fun hh => hh (fine_aux hh h)
  rw [bne_f' e8] at h; simp only [cond_false] at h
  have e9 : r9 c = 0 := Classical.byContradiction fun hh => hh (fine_aux hh h)
  rw [bne_f' e9] at h; simp only [cond_false] at h
  exact ⟨e1, e2, e3, e4, e5, e6, e7, e8, e9, h⟩
/-- a net's pairs by its nodes -/
def parts (c : Cfg) : Nat → Int := fillI (hv c) (2 * c.np) (fun _ => -1)

theorem new_imp (c : Cfg) (k : AV → Heap → Nat → Prop) (hc : c.ok) (h : bcase (newE c != 0) (k (.tup [.nilp, .int false .i64 (newE c)]) .e 0) (k (.tup [netAV c (parts c), .int true .i64 0]) .e 0)) :
    frzSC (sexec E0 FN Tryz.f22 [unroll E0 FN newB0 [] 12, LCd 50 [7,33,34,35] [7] newL]) [.agg c.cells] .e 0 k := by
    rw [new_sx]
    refine ⟨hc, ?_⟩
    by_cases e1 : r1 c = 0
    rotate_left
    · refine bc_t (by simpa using e1) ?_
      have hE : newE c = r1 c := by unfold newE; rw [c_t e1]
      have hb : (newE c != 0) = true := by rw [hE]; simpa using e1
      rw [hb] at h
      rw [← hE]; exact h
    refine bc_f (by simpa using e1) ?_
    refine ⟨hc, ?_⟩
    by_cases e2 : r2 c = 0
    rotate_left
    · refine bc_t (by simpa using e2) ?_
      have hE : newE c = r2 c := by unfold newE; rw [c_f e1, c_t e2]
      have hb : (newE c != 0) = true := by rw [hE]; simpa using e2
      rw [hb] at h
      rw [← hE]; exact h
    refine bc_f (by simpa using e2) ?_
    refine ⟨⟨hc, by have := within_0.1 e2; omega⟩, ?_⟩
    by_cases e3 : r3 c = 0
    rotate_left
    · refine bc_t (by simpa using e3) ?_
      have hE : newE c = r3 c := by unfold newE; rw [c_f e1, c_f e2, c_t e3]
      have hb : (newE c != 0) = true := by rw [hE]; simpa using e3
      rw [hb] at h
      rw [← hE]; exact h
    refine bc_f (by simpa using e3) ?_
    refine ⟨hc, ?_⟩
    by_cases e4 : r4 c = 0
    rotate_left
    · refine bc_t (by simpa using e4) ?_
      have hE : newE c = r4 c := by unfold newE; rw [c_f e1, c_f e2, c_f e3, c_t e4]
      have hb : (newE c != 0) = true := by rw [hE]; simpa using e4
      rw [hb] at h
      rw [← hE]; exact h
    refine bc_f (by simpa using e4) ?_
    refine ⟨hc, ?_⟩
    by_cases e5 : r5 c = 0
    rotate_left
    · refine bc_t (by simpa using e5) ?_
      have hE : newE c = r5 c := by unfold newE; rw [c_f e1, c_f e2, c_f e3, c_f e4, c_t e5]
      have hb : (newE c != 0) = true := by rw [hE]; simpa using e5
      rw [hb] at h
      rw [← hE]; exact h
    refine bc_f (by simpa using e5) ?_
    refine ⟨hc, ?_⟩
    by_cases e6 : r6 c = 0
    rotate_left
    · refine bc_t (by simpa using e6) ?_
      have hE : newE c = r6 c := by unfold newE; rw [c_f e1, c_f e2, c_f e3, c_f e4, c_f e5, c_t e6]
      have hb : (newE c != 0) = true := by rw [hE]; simpa using e6
      rw [hb] at h
      rw [← hE]; exact h
    refine bc_f (by simpa using e6) ?_
    refine ⟨hc, ?_⟩
    by_cases e7 : r7 c = 0
    rotate_left
    · refine bc_t (by simpa using e7) ?_
      have hE : newE c = r7 c := by unfold newE; rw [c_f e1, c_f e2, c_f e3, c_f e4, c_f e5, c_f e6, c_t e7]
      have hb : (newE c != 0) = true := by rw [hE]; simpa using e7
      rw [hb] at h
      rw [← hE]; exact h
    refine bc_f (by simpa using e7) ?_
    refine ⟨hc, ?_⟩
    by_cases e8 : r8 c = 0
    rotate_left
    · refine bc_t (by simpa using e8) ?_
      have hE : newE c = r8 c := by unfold newE; rw [c_f e1, c_f e2, c_f e3, c_f e4, c_f e5, c_f e6, c_f e7, c_t e8]
      have hb : (newE c != 0) = true := by rw [hE]; simpa using e8
      rw [hb] at h
      rw [← hE]; exact h
    refine bc_f (by simpa using e8) ?_
    refine ⟨hc, ?_⟩
    by_cases e9 : r9 c = 0
    rotate_left
    · refine bc_t (by simpa using e9) ?_
      have hE : newE c = r9 c := by unfold newE; rw [c_f e1, c_f e2, c_f e3, c_f e4, c_f e5, c_f e6, c_f e7, c_f e8, c_t e9]
      have hb : (newE c != 0) = true := by rw [hE]; simpa using e9
      rw [hb] at h
      rw [← hE]; exact h
    refine bc_f (by simpa using e9) ?_
    refine ⟨hc, ?_⟩
    by_cases e10 : r10 c = 0
    rotate_left
    · refine bc_t (by simpa using e10) ?_
      have hE : newE c = r10 c := by unfold newE; rw [c_f e1, c_f e2, c_f e3, c_f e4, c_f e5, c_f e6, c_f e7, c_f e8, c_f e9]
      have hb : (newE c != 0) = true := by rw [hE]; simpa using e10
      rw [hb] at h
      rw [← hE]; exact h
    refine bc_f (by simpa using e10) ?_

    have hn := within_0.1 e1
    have hp := within_0.1 e2
    have hb : (newE c != 0) = false := bne_f' (by unfold newE; rw [c_f e1, c_f e2, c_f e3, c_f e4, c_f e5, c_f e6, c_f e7, c_f e8, c_f e9, e10])
    rw [hb] at h
    have h3 : inP c = true := by have := must_0.1 e3; simp only [Bool.and_eq_true] at this; exact this.1
    refine ⟨hc, ⟨rfl, hn⟩, ⟨hc, by omega⟩, ⟨fun j _ => rfl, fun j hj => ?_, by unfold Len; omega, rfl, rfl, rfl, rfl⟩, bc_t (by simp) h⟩
    have := hv_in hn h3 j hj
    show 0 ≤ hv c j ∧ hv c j < _
    omega
theorem Cfg.ok_of {nodes np fp ns fs long nb fb nst ft miss good fresh} (h : CfgOk np fp ns fs nb fb nst ft) : (cfg9 nodes np fp ns fs long nb fb nst ft miss good fresh).ok := ⟨⟨.of, .of, .of, fun _ _ => rfl⟩, h.2⟩
def newFP : SCP := fun args L k => match args, L with
  | [.agg [.int false .i64 nodes, .isl 1 np _ fp, .isl 1 ns _ fs, .int false .i64 long, .isl 1 nb _ fb, .isl 3 nst _ ft, .int false .i64 miss, .int false .i64 good, .int false .i64 fresh]], [] => (CfgOk np fp ns fs nb fb nst ft) ∧ bcase (newE (cfg9 nodes np fp ns fs long nb fb nst ft miss good fresh) != 0) (k (.tup [.nilp, .int false .i64 (newE (cfg9 nodes np fp ns fs long nb fb nst ft miss good fresh))]) .e 0) (k (.tup [netAV (cfg9 nodes np fp ns fs long nb fb nst ft miss good fresh) (parts (cfg9 nodes np fp ns fs long nb fb nst ft miss good fresh)), .int true .i64 0]) .e 0)
  | _, _ => False
theorem newF_ok : SOK E0 22 (scN 0 newFP) :=
  new_fun.spec0 fun args L k h => by
    unfold newFP at h; split at h
    · rename_i nodes np cp fp ns cs fs long nb cb fb nst ct ft miss good fresh
      obtain ⟨hc, h⟩ := h
      refine ⟨rfl, _, .cons (Wk.cfg hc).agg .nil, ?_⟩
      refine new_imp _ _ (Cfg.ok_of hc) ?_
      revert h
      generalize cfg9 nodes np fp ns fs long nb fb nst ft miss good fresh = c
      cases (newE c != 0) with
      | true => exact fun h => ⟨_, .refl _, h⟩
      | false => exact fun h => ⟨_, .refl _, h⟩
    · exact h.elim
noncomputable abbrev newC : Nat × FC := (22, vcall (clrSC (scN 0 newFP)))
theorem newC_ok : FOK E0 22 (vcall (clrSC (scN 0 newFP))) := vcall_ok (clrSC_ok newF_ok)

end Go.Sx
