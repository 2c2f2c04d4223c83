/- Part of an own symbolic executor for the model's code, proved sound, and of the proof of one statement (see the text of the claimed theorem). -/
import Derived.Test.YtkpkfccgbehilaaGreatDoorBoC13
namespace Go.Sx
open Go.Proofs
set_option maxRecDepth 1000000

def pb (c : Cfg) (i : Nat) : Int := (IntKind.wrap .i64 (c.pairs i + 1)).tmod c.nodes
def updB (u : Nat → Bool) (e : Nat) : Nat → Bool := fun k => match Nat.beq k e with
  | true => true
  | false => u k
def usd (c : Cfg) : Nat → Nat → Bool
  | 0 => fun _ => false
  | i + 1 => updB (updB (usd c i) (0 + (c.pairs i).toNat)) (0 + (pb c i).toNat)
def selB (b : Bool) (x y : List AV) : List AV := match b with
  | true => x
  | false => y
theorem updB_row (u : Nat → Bool) (e : Nat) : (fun k => match Nat.beq k e with
      | true => splice 0 [AV.bool true] [.bool (u e)]
      | false => [.bool (u k)]) = fun k => [.bool (updB u e k)] := by
  funext k
  unfold updB
  cases Nat.beq k e <;> rfl
def pRest (c : Cfg) (u : Nat → Bool) (i : Nat) (fail next : Prop) : Prop :=
  bcase (decide (c.nodes ≠ 0)) (bcase (decide (0 ≤ c.pairs i ∧ c.pairs i < ((16 : Nat) : Int))) (bcase (decide (0 + (c.pairs i).toNat < 16 ∧ 0 + 1 ≤ 1)) (bcase (u (0 + (c.pairs i).toNat)) fail
   (bcase (decide (0 ≤ pb c i ∧ pb c i < ((16 : Nat) : Int))) (bcase (decide (0 + (pb c i).toNat < 16 ∧ 0 + 1 ≤ 1)) (bcase (u (0 + (pb c i).toNat)) fail
     (bcase (decide (0 ≤ c.pairs i ∧ c.pairs i < ((16 : Nat) : Int))) (bcase (decide (0 + (c.pairs i).toNat < 16 ∧ 1 = 1)) (bcase (decide (0 ≤ pb c i ∧ pb c i < ((16 : Nat) : Int))) (bcase (decide (0 + (pb c i).toNat < 16 ∧ (selB (Nat.beq (0 + (pb c i).toNat) (0 + (c.pairs i).toNat)) (splice 0 [AV.bool true] [.bool (u (0 + (c.pairs i).toNat))]) [.bool (u (0 + (pb c i).toNat))]).length = 1)) next False) False) False) False)) False) False)) False) False) False
def pHead (c : Cfg) (i : Nat) (fail rest : Prop) : Prop :=
  bcase (decide (0 ≤ Int.ofNat i ∧ Int.ofNat i < (c.np : Int))) (bcase (decide (c.pairs i < 0)) fail (bcase (decide (c.pairs i ≥ c.nodes)) fail (bcase (decide (Int.ofNat i > 0))
    (bcase (decide (0 ≤ IntKind.wrap .i64 (Int.ofNat i - 1) ∧ IntKind.wrap .i64 (Int.ofNat i - 1) < (c.np : Int))) (bcase (decide (c.pairs i ≤ c.pairs (IntKind.wrap .i64 (Int.ofNat i - 1)).toNat)) fail rest) False) rest))) False
noncomputable def prB : Code := loopB ((items (bodyOf Tryz.f34)).getD 0 .skip)
noncomputable def prH (c : Cfg) (u : Nat → Bool) : Heap := Tr.puts .e [(0, .cells 25 c.cells), (16, .row 4 1 16 (fun j => [.bool (u j)]))]
noncomputable def prST (c : Cfg) (u : Nat → Bool) (i : Int) : St := ⟨putT [1,2,3,4,7] [.ptr 0 0, .bool false, .sl 16 0 0 1 16 (some 16), .int false .i64 i, .sl 16 0 0 1 16 (some 16)] .e, prH c u, 32, 63, none⟩
theorem pr_round (c : Cfg) (u : Nat → Bool) (i : Nat) (next : St → Prop) (K : Exit → List AV → Heap → Nat → Prop) :
  roundG E0 (FE (fun _ _ => False) [] []) prB [] (gcN 32 [1,2,3,4,7]) next (endK [2] 63 K) (prST c u (Int.ofNat i)) =
   bcase (decide (Int.ofNat i < (c.np : Int)))
    (pHead c i (K .ret [.bool false] (prH c u) 32) (pRest c u i (K .ret [.bool false] (prH c u) 32) (next ⟨putT [1,2,3,4,7] [.ptr 0 0, .bool false, .sl 16 0 0 1 16 (some 16), .int false .i64 (IntKind.wrap .i64 (Int.ofNat i + 1)), .sl 16 0 0 1 16 (some 16)] .e,
      Tr.puts .e [(0, .cells 25 c.cells), (16, .row 4 1 16 (fun k => selB (Nat.beq k (0 + (pb c i).toNat)) (splice 0 [AV.bool true] (selB (Nat.beq (0 + (pb c i).toNat) (0 + (c.pairs i).toNat)) (splice 0 [AV.bool true] [.bool (u (0 + (c.pairs i).toNat))]) [.bool (u (0 + (pb c i).toNat))])) (selB (Nat.beq k (0 + (c.pairs i).toNat)) (splice 0 [AV.bool true] [.bool (u (0 + (c.pairs i).toNat))]) [.bool (u k)])))], 32, 63, none⟩)))
    (K (.exit 0) [.bool false] (prH c u) 32) := by kernel_rfl

abbrev BSP2 := Cfg → Nat → (Nat → List AV) → List AV → (Exit → List AV → Heap → Nat → Prop) → Prop
def boxP2 (sp : BSP2) : LSP := fun args L K => match L with
  | [(0, .cells 25 [.int false .i64 nodes, .isl 1 np cp fp, .isl 1 ns cs fs, .int false .i64 long, .isl 1 nb cb fb, .isl 3 nst ct ft, .int false .i64 miss, .int false .i64 good, .int false .i64 fresh]), (16, .row 4 1 m f)] => ([.int false .i64 nodes, .isl 1 np cp fp, .isl 1 ns cs fs, .int false .i64 long, .isl 1 nb cb fb, .isl 3 nst ct ft, .int false .i64 miss, .int false .i64 good, .int false .i64 fresh] = (cfg9 nodes np fp ns fs long nb fb nst ft miss good fresh).cells) ∧ sp (cfg9 nodes np fp ns fs long nb fb nst ft miss good fresh) m f args K
  | _ => False
theorem LSOK_box2 {rd : Bool} {c : Code} {ins outs : List Nat} {sp : BSP2} {nt : Nat} (h : ∀ (g : Cfg) (m : Nat) (f : Nat → List AV) args K, sp g m f args K → COK E0 rd c ⟨putT ins args .e, Tr.puts .e [(0, .cells 25 g.cells), (16, .row 4 1 m f)], 32, nt, none⟩ (endK outs nt K)) : LSOK E0 rd c nt ins outs (atN 32 (boxP2 sp)) :=
  LSOK_at fun args L K hfr hs => by
    unfold boxP2 at hs; split at hs
    · obtain ⟨he, hs⟩ := hs
      rw [he]
      exact h _ _ _ args K hs
    · exact hs.elim
def bad (c : Cfg) (i : Nat) : Bool := decide (c.pairs i < 0) || (decide (c.pairs i ≥ c.nodes) || ((decide (0 < i) && decide (c.pairs i ≤ c.pairs (i - 1))) || (usd c i (0 + (c.pairs i).toNat) || usd c i (0 + (pb c i).toNat))))
def prs (c : Cfg) : Nat → Nat → Bool
  | _, 0 => true
  | i, m + 1 => bif bad c i then false else prs c (i + 1) m
theorem pb_in {c : Cfg} {i : Nat} (h1 : 4 ≤ c.nodes) (h2 : c.nodes ≤ 16) (h3 : 0 ≤ c.pairs i) (h4 : c.pairs i < c.nodes) : pb c i = (c.pairs i + 1) % c.nodes ∧ 0 ≤ pb c i ∧ pb c i < c.nodes := by
  have e : pb c i = (c.pairs i + 1) % c.nodes := by
    unfold pb
    rw [wrap_i64 (by omega) (by omega), Int.tmod_eq_emod_of_nonneg (by omega)]
  exact ⟨e, by rw [e]; exact Int.emod_nonneg _ (by omega), by rw [e]; exact Int.emod_lt_of_pos _ (by omega)⟩
theorem selB_1 (b : Bool) (x y : List AV) (hx : x.length = 1) (hy : y.length = 1) : (selB b x y).length = 1 := by cases b <;> assumption
theorem usd_row (u : Nat → Bool) (x y : Nat) : (fun k => selB (Nat.beq k y) (splice 0 [AV.bool true] (selB (Nat.beq y x) (splice 0 [AV.bool true] [.bool (u x)]) [.bool (u y)])) (selB (Nat.beq k x) (splice 0 [AV.bool true] [.bool (u x)]) [.bool (u k)])) = fun k => [.bool (updB (updB u x) y k)] := by
  funext k
  unfold updB
  cases Nat.beq k y <;> cases Nat.beq k x <;> cases Nat.beq y x <;> rfl
theorem pRest_ok {c : Cfg} {i : Nat} {fail next : Prop} (h1 : 4 ≤ c.nodes) (h2 : c.nodes ≤ 16) (h3 : 0 ≤ c.pairs i) (h4 : c.pairs i < c.nodes) (ho : (decide (0 < i) && decide (c.pairs i ≤ c.pairs (i - 1))) = false)
    (hf : bad c i = true → fail) (hn : bad c i = false → next) : pRest c (usd c i) i fail next := by
  obtain ⟨_, h5, h6⟩ := pb_in h1 h2 h3 h4
  have e1 : decide (c.pairs i < 0) = false := by simp; omega
  have e2 : decide (c.pairs i ≥ c.nodes) = false := by simp; omega
  unfold bad at hf hn
  rw [e1, e2, ho] at hf hn
  simp only [Bool.false_or] at hf hn
  unfold pRest
  refine bc_t (by simp; omega) (bc_t (by simp; omega) (bc_t (by simp; omega) (bc_i (fun b => hf (by rw [b]; rfl)) fun b => ?_)))
  refine bc_t (by simp; omega) (bc_t (by simp; omega) (bc_i (fun b' => hf (by rw [b, b']; rfl)) fun b' => ?_))
  exact bc_t (by simp; omega) (bc_t (by simp; omega) (bc_t (by simp; omega) (bc_t (by simp only [decide_eq_true_eq]; exact ⟨by omega, selB_1 _ _ _ rfl rfl⟩) (hn (by rw [b, b']; rfl)))))
def prP : BSP2 := fun c m f args K => match args with
  | [.ptr 0 0, .bool b, .sl 16 0 0 1 m1 c1, .int _ .i64 i, .sl 16 0 0 1 m2 c2] => (b = false ∧ m = 16 ∧ f = (fun _ => [.bool false]) ∧ m1 = 16 ∧ c1 = some 16 ∧ m2 = 16 ∧ c2 = some 16 ∧ i = 0 ∧ Len c.np ∧ 4 ≤ c.nodes ∧ c.nodes ≤ 16) ∧ bcase (prs c 0 c.np) (∀ u, K (.exit 0) [.bool false] (prH c u) 32) (∀ u, K .ret [.bool false] (prH c u) 32)
  | _ => False
theorem prL_ok : LSOK E0 false (.loop prB) 63 [1,2,3,4,7] [2] (atN 32 (boxP2 prP)) :=
  LSOK_box2 fun c m f args K h => by
    unfold prP at h; split at h
    · rename_i b m1 c1 l i m2 c2
      obtain ⟨⟨rfl, rfl, rfl, rfl, rfl, rfl, rfl, rfl, hl, h4, h16⟩, hk⟩ := h
      refine COK.less (args' := [.ptr 0 0, .bool false, .sl 16 0 0 1 16 (some 16), .int false .i64 0, .sl 16 0 0 1 16 (some 16)]) (.cons (.refl _) (.cons (.refl _) (.cons (.refl _) (.cons .int (.cons (.refl _) .nil))))) ?_
      refine loop_N (FE_ok E0_ok .nil .nil) .nil 32 [1,2,3,4,7] (fun i => prST c (usd c i) (Int.ofNat i)) (fun i => bcase (prs c i (c.np - i)) (∀ u, K (.exit 0) [.bool false] (prH c u) 32) (∀ u, K .ret [.bool false] (prH c u) 32)) c.np (fun i hi hd next hnx => ?_) (fun hd next => ?_) hk
      · rw [pr_round]
        refine bc_t (lt_t hi) ?_
        have hp : prs c i (c.np - i) = bif bad c i then false else prs c (i + 1) (c.np - (i + 1)) := by
          rw [show c.np - i = (c.np - (i + 1)) + 1 by omega]; rfl
        rw [hp] at hd
        have hf : bad c i = true → K .ret [.bool false] (prH c (usd c i)) 32 := fun hb => by rw [hb] at hd; exact hd _
        have hn : bad c i = false → next (prST c (usd c (i + 1)) (Int.ofNat (i + 1))) := fun hb => hnx (by rw [hb] at hd; exact hd)
        rw [usd_row, wrap_succ hi hl]
        have hw : 0 < i → IntKind.wrap .i64 (Int.ofNat i - 1) = Int.ofNat (i - 1) := fun h0 => by
          rw [wrap_i64 (by simp; omega) (by unfold Len at hl; simp; omega)]; simp; omega
        unfold pHead
        refine bc_t (in_t hi) (bc_i (fun b1 => hf ?_) fun b1 => bc_i (fun b2 => hf ?_) fun b2 => bc_i (fun b3 => ?_) fun b3 => ?_)
        · unfold bad; rw [b1]; rfl
        · unfold bad; rw [b1, b2]; rfl
        · have h0 : 0 < i := by simpa using b3
          rw [hw h0]
          refine bc_t (in_t (by omega)) (bc_i (fun b4 => hf ?_) fun b4 => ?_)
          · unfold bad; rw [b1, b2, show (decide (c.pairs i ≤ c.pairs (i - 1))) = true from b4, show decide (0 < i) = true by simpa using h0]; rfl
          · simp at b1 b2
            exact pRest_ok h4 h16 b1 b2 (by rw [show (decide (c.pairs i ≤ c.pairs (i - 1))) = false from b4]; simp) hf hn
        · have h0 : i = 0 := by simp at b3; omega
          simp at b1 b2
          exact pRest_ok h4 h16 b1 b2 (by rw [h0]; rfl) hf hn
      · rw [pr_round]
        refine bc_f (lt_f (Nat.le_refl _)) ?_
        rw [Nat.sub_self] at hd
        exact hd _
    · exact h.elim

/-! ## sennit/sennitref04.pairs -/
def rpairsP : SCP := fun args L k => match args, L with
  | [.agg [.int false .i64 nodes, .isl 1 np _ fp, .isl 1 ns _ fs, .int false .i64 long, .isl 1 nb _ fb, .isl 3 nst _ ft, .int false .i64 miss, .int false .i64 good, .int false .i64 fresh]], [] => (CfgOk np fp ns fs nb fb nst ft ∧ 4 ≤ nodes ∧ nodes ≤ 16) ∧ k (.bool (prs (cfg9 nodes np fp ns fs long nb fb nst ft miss good fresh) 0 np)) .e 0
  | _, _ => False
theorem rpairs_sx (c : Cfg) (k : AV → Heap → Nat → Prop) : gcSC (sexec E0 (FE (fun _ _ => False) [] []) Tryz.f34 [LCd 63 [1,2,3,4,7] [2] (atN 32 (boxP2 prP))]) [.agg c.cells] .e 0 k =
    (c.cells = c.cells ∧ (false = false ∧ 16 = 16 ∧ (fun _ : Nat => [AV.bool false]) = (fun _ => [.bool false]) ∧ 16 = 16 ∧ some 16 = some 16 ∧ 16 = 16 ∧ some 16 = some 16 ∧ (0 : Int) = 0 ∧ Len c.np ∧ 4 ≤ c.nodes ∧ c.nodes ≤ 16) ∧ bcase (prs c 0 c.np) (∀ _ : Nat → Bool, k (.bool true) .e 0) (∀ _ : Nat → Bool, k (.bool false) .e 0)) := by kernel_rfl
theorem rpairs_ok : SOK E0 34 (scN 0 rpairsP) :=
  (gcSC_ok (fun_ok (FE_ok E0_ok .nil .nil) T0_ok (f := 34) (fn := Tryz.f34) (by kernel_rfl) (ls := [LCd 63 [1,2,3,4,7] [2] (atN 32 (boxP2 prP))]) (by rw [show items (bodyOf Tryz.f34) = [.loop prB] by kernel_rfl]; exact (.cons (LCd_ok prL_ok) .nil)))).spec0 fun args L k h => by
    unfold rpairsP at h; split at h
    · rename_i nodes np cp fp ns cs fs long nb cb fb nst ct ft miss good fresh
      obtain ⟨hc, h⟩ := h
      refine ⟨rfl, _, .cons (Wk.cfg hc.1).agg .nil, ?_⟩
      rw [rpairs_sx]
      refine ⟨rfl, ⟨rfl, rfl, rfl, rfl, rfl, rfl, rfl, rfl, hc.1.2.1, hc.2⟩, ?_⟩
      have e : prs (cfg9 nodes np fp ns fs long nb fb nst ft miss good fresh) 0 (cfg9 nodes np fp ns fs long nb fb nst ft miss good fresh).np = prs (cfg9 nodes np fp ns fs long nb fb nst ft miss good fresh) 0 np := rfl
      rw [e]
      cases hb : prs (cfg9 nodes np fp ns fs long nb fb nst ft miss good fresh) 0 np with
      | true => rw [hb] at h; exact fun _ => kR h
      | false => rw [hb] at h; exact fun _ => kR h
    · exact h.elim
noncomputable abbrev rpairsC : Nat × FC := (34, vcall (clrSC (scN 0 rpairsP)))
theorem rpairsC_ok : FOK E0 34 (vcall (clrSC (scN 0 rpairsP))) := vcall_ok (clrSC_ok rpairs_ok)

end Go.Sx

namespace Go.Sx
open Go.Proofs
set_option maxRecDepth 1000000

def slu (c : Cfg) : Nat → Nat → Bool
  | 0 => fun _ => false
  | i + 1 => updB (slu c i) (0 + (c.slots i).toNat)
theorem upd1_row (u : Nat → Bool) (x : Nat) : (fun k => selB (Nat.beq k x) (splice 0 [AV.bool true] [.bool (u x)]) [.bool (u k)]) = fun k => [.bool (updB u x k)] := by
  funext k
  unfold updB
  cases Nat.beq k x <;> rfl
noncomputable def s1B : Code := loopB ((items (bodyOf Tryz.f35)).getD 0 .skip)
noncomputable def s2B : Code := loopB ((items (bodyOf Tryz.f35)).getD 1 .skip)
noncomputable def slH (c : Cfg) (u : Nat → Bool) : Heap := Tr.puts .e [(0, .cells 25 c.cells), (16, .row 4 1 c.np (fun j => [.bool (u j)]))]
noncomputable def s1ST (c : Cfg) (u : Nat → Bool) (i : Int) : St := ⟨putT [1,2,3,4] [.ptr 0 0, .bool false, .sl 16 0 0 1 c.np (some c.np), .int false .i64 i] .e, slH c u, 32, 52, none⟩
theorem s1_round (c : Cfg) (u : Nat → Bool) (i : Nat) (next : St → Prop) (K : Exit → List AV → Heap → Nat → Prop) :
  roundG E0 (FE (fun _ _ => False) [] []) s1B [] (gcN 32 [1,2,3,4]) next (endK [2,3] 52 K) (s1ST c u (Int.ofNat i)) =
   bcase (decide (Int.ofNat i < (c.ns : Int))) (bcase (decide (0 ≤ Int.ofNat i ∧ Int.ofNat i < (c.ns : Int))) (bcase (decide (c.slots i < 0)) (K .ret [.bool false, .sl 16 0 0 1 c.np (some c.np)] (slH c u) 32)
     (bcase (decide (0 ≤ Int.ofNat i ∧ Int.ofNat i < (c.ns : Int))) (bcase (decide (c.slots i ≥ (c.np : Int))) (K .ret [.bool false, .sl 16 0 0 1 c.np (some c.np)] (slH c u) 32)
       (bcase (decide (0 ≤ Int.ofNat i ∧ Int.ofNat i < (c.ns : Int))) (bcase (decide (0 ≤ c.slots i ∧ c.slots i < (c.np : Int))) (bcase (decide (0 + (c.slots i).toNat < c.np ∧ 1 = 1)) (next ⟨putT [1,2,3,4] [.ptr 0 0, .bool false, .sl 16 0 0 1 c.np (some c.np), .int false .i64 (IntKind.wrap .i64 (Int.ofNat i + 1))] .e,
         Tr.puts .e [(0, .cells 25 c.cells), (16, .row 4 1 c.np (fun k => selB (Nat.beq k (0 + (c.slots i).toNat)) (splice 0 [AV.bool true] [.bool (u (0 + (c.slots i).toNat))]) [.bool (u k)]))], 32, 52, none⟩) False) False) False)) False)) False)
    (K (.exit 0) [.bool false, .sl 16 0 0 1 c.np (some c.np)] (slH c u) 32) := by kernel_rfl
def sbad (c : Cfg) (i : Nat) : Bool := decide (c.slots i < 0) || decide (c.slots i ≥ (c.np : Int))
def sls (c : Cfg) : Nat → Nat → Bool
  | _, 0 => true
  | i, m + 1 => bif sbad c i then false else sls c (i + 1) m

def s1P : BSP2 := fun c m f args K => match args with
  | [.ptr 0 0, .bool b, .sl 16 0 0 1 m1 c1, .int _ .i64 i] => (b = false ∧ m = c.np ∧ f = (fun _ => [.bool false]) ∧ m1 = c.np ∧ c1 = some c.np ∧ i = 0 ∧ Len c.ns) ∧ bcase (sls c 0 c.ns) (K (.exit 0) [.bool false, .sl 16 0 0 1 c.np (some c.np)] (slH c (slu c c.ns)) 32) (∀ u, K .ret [.bool false, .sl 16 0 0 1 c.np (some c.np)] (slH c u) 32)
  | _ => False
theorem s1L_ok : LSOK E0 false (.loop s1B) 52 [1,2,3,4] [2,3] (atN 32 (boxP2 s1P)) :=
  LSOK_box2 fun c m f args K h => by
    unfold s1P at h; split at h
    · rename_i b m1 c1 l i
      obtain ⟨⟨rfl, rfl, rfl, rfl, rfl, rfl, hl⟩, hk⟩ := h
      refine COK.less (args' := [.ptr 0 0, .bool false, .sl 16 0 0 1 c.np (some c.np), .int false .i64 0]) (.cons (.refl _) (.cons (.refl _) (.cons (.refl _) (.cons .int .nil)))) ?_
      refine loop_N (FE_ok E0_ok .nil .nil) .nil 32 [1,2,3,4] (fun i => s1ST c (slu c i) (Int.ofNat i)) (fun i => bcase (sls c i (c.ns - i)) (K (.exit 0) [.bool false, .sl 16 0 0 1 c.np (some c.np)] (slH c (slu c c.ns)) 32) (∀ u, K .ret [.bool false, .sl 16 0 0 1 c.np (some c.np)] (slH c u) 32)) c.ns (fun i hi hd next hnx => ?_) (fun hd next => ?_) hk
      · rw [s1_round]
        refine bc_t (lt_t hi) ?_
        have hp : sls c i (c.ns - i) = bif sbad c i then false else sls c (i + 1) (c.ns - (i + 1)) := by
          rw [show c.ns - i = (c.ns - (i + 1)) + 1 by omega]; rfl
        rw [hp] at hd
        have hf : sbad c i = true → K .ret [.bool false, .sl 16 0 0 1 c.np (some c.np)] (slH c (slu c i)) 32 := fun hb => by rw [hb] at hd; exact hd _
        rw [upd1_row, wrap_succ hi hl]
        refine bc_t (in_t hi) (bc_i (fun b1 => hf (by unfold sbad; rw [b1]; rfl)) fun b1 => bc_t (in_t hi) (bc_i (fun b2 => hf (by unfold sbad; rw [b1, b2]; rfl)) fun b2 => ?_))
        have hb : sbad c i = false := by unfold sbad; rw [b1, b2]; rfl
        simp at b1 b2
        refine bc_t (in_t hi) (bc_t (by simp; omega) (bc_t (by simp; omega) (hnx (by rw [hb] at hd; exact hd))))
      · rw [s1_round]
        refine bc_f (lt_f (Nat.le_refl _)) ?_
        rw [Nat.sub_self] at hd
        exact hd
    · exact h.elim
noncomputable abbrev s1L : LC := LCd 52 [1,2,3,4] [2,3] (atN 32 (boxP2 s1P))

noncomputable def s2ST (c : Cfg) (u : Nat → Bool) (i : Int) : St := ⟨putT [2,3,5] [.bool false, .sl 16 0 0 1 c.np (some c.np), .int false .i64 i] .e, slH c u, 32, 52, none⟩
theorem s2_round (c : Cfg) (u : Nat → Bool) (i : Nat) (next : St → Prop) (K : Exit → List AV → Heap → Nat → Prop) :
  roundG E0 (FE (fun _ _ => False) [] []) s2B [] (gcN 32 [2,3,5]) next (endK [2] 52 K) (s2ST c u (Int.ofNat i)) =
   bcase (decide (Int.ofNat i < (c.np : Int))) (bcase (decide (0 ≤ Int.ofNat i ∧ Int.ofNat i < (c.np : Int))) (bcase (decide (0 + i < c.np ∧ 0 + 1 ≤ 1)) (bcase (!u (0 + i)) (K .ret [.bool false] (slH c u) 32)
     (next (s2ST c u (IntKind.wrap .i64 (Int.ofNat i + 1))))) False) False)
    (K (.exit 2) [.bool false] (slH c u) 32) := by kernel_rfl
def alls (u : Nat → Bool) : Nat → Nat → Bool
  | _, 0 => true
  | i, m + 1 => bif !u (0 + i) then false else alls u (i + 1) m
def s2P : BSP2 := fun c m f args K => match args with
  | [.bool b, .sl 16 0 0 1 m1 c1, .int _ .i64 i] => ∃ u, (b = false ∧ m = c.np ∧ f = (fun j => [.bool (u j)]) ∧ m1 = c.np ∧ c1 = some c.np ∧ i = 0 ∧ Len c.np) ∧ bcase (alls u 0 c.np) (K (.exit 2) [.bool false] (slH c u) 32) (K .ret [.bool false] (slH c u) 32)
  | _ => False
theorem s2L_ok : LSOK E0 false (.loop s2B) 52 [2,3,5] [2] (atN 32 (boxP2 s2P)) :=
  LSOK_box2 fun c m f args K h => by
    unfold s2P at h; split at h
    · rename_i b m1 c1 l i
      obtain ⟨u, ⟨rfl, rfl, rfl, rfl, rfl, rfl, hl⟩, hk⟩ := h
      refine COK.less (args' := [.bool false, .sl 16 0 0 1 c.np (some c.np), .int false .i64 0]) (.cons (.refl _) (.cons (.refl _) (.cons .int .nil))) ?_
      refine loop_N (FE_ok E0_ok .nil .nil) .nil 32 [2,3,5] (fun i => s2ST c u (Int.ofNat i)) (fun i => bcase (alls u i (c.np - i)) (K (.exit 2) [.bool false] (slH c u) 32) (K .ret [.bool false] (slH c u) 32)) c.np (fun i hi hd next hnx => ?_) (fun hd next => ?_) hk
      · rw [s2_round]
        refine bc_t (lt_t hi) ?_
        have hp : alls u i (c.np - i) = bif !u (0 + i) then false else alls u (i + 1) (c.np - (i + 1)) := by
          rw [show c.np - i = (c.np - (i + 1)) + 1 by omega]; rfl
        rw [hp] at hd
        rw [wrap_succ hi hl]
        refine bc_t (in_t hi) (bc_t (by simp; omega) (bc_i (fun b => ?_) fun b => ?_))
        · rw [b] at hd; exact hd
        · rw [b] at hd; exact hnx hd
      · rw [s2_round]
        refine bc_f (lt_f (Nat.le_refl _)) ?_
        rw [Nat.sub_self] at hd
        exact hd
    · exact h.elim
noncomputable abbrev s2L : LC := LCd 52 [2,3,5] [2] (atN 32 (boxP2 s2P))
theorem okMake_len {n : Nat} (h : Len n) : okMake 1 (n : Int) (n : Int) = true := by
  unfold Len at h; unfold okMake
  rw [show decide ((0 : Int) ≤ n) = true by simp, show decide ((n : Int) ≤ n) = true by simp, show decide (((1 : Nat) : Int) * (n : Int) ≤ 281474976710656) = true by simp; omega, show decide ((n : Int) ≤ 9223372036854775807) = true by simp; omega]
/-- each pair has a slot, by the reference -/
def rslv (c : Cfg) : Bool := sls c 0 c.ns && alls (slu c c.ns) 0 c.np

/-! ## sennit/sennitref04.slots -/
def rslotsP : SCP := fun args L k => match args, L with
  | [.agg [.int false .i64 nodes, .isl 1 np _ fp, .isl 1 ns _ fs, .int false .i64 long, .isl 1 nb _ fb, .isl 3 nst _ ft, .int false .i64 miss, .int false .i64 good, .int false .i64 fresh]], [] => (CfgOk np fp ns fs nb fb nst ft) ∧ k (.bool (rslv (cfg9 nodes np fp ns fs long nb fb nst ft miss good fresh))) .e 0
  | _, _ => False
theorem rslots_sx (c : Cfg) (k : AV → Heap → Nat → Prop) : gcSC (sexec E0 (FE (fun _ _ => False) [] []) Tryz.f35 [s1L, s2L]) [.agg c.cells] .e 0 k =
    (bcase (okMake 1 (c.np : Int) (c.np : Int)) (c.cells = c.cells ∧ (false = false ∧ c.np = c.np ∧ (fun _ : Nat => [AV.bool false]) = (fun _ => [.bool false]) ∧ c.np = c.np ∧ some c.np = some c.np ∧ (0 : Int) = 0 ∧ Len c.ns) ∧ bcase (sls c 0 c.ns) (c.cells = c.cells ∧ ∃ u, (false = false ∧ c.np = c.np ∧ (fun j => [AV.bool (slu c c.ns j)]) = (fun j => [.bool (u j)]) ∧ c.np = c.np ∧ some c.np = some c.np ∧ (0 : Int) = 0 ∧ Len c.np) ∧ bcase (alls u 0 c.np) (k (.bool true) .e 0) (k (.bool false) .e 0)) (∀ _ : Nat → Bool, k (.bool false) .e 0)) False) := by kernel_rfl
theorem rslots_ok : SOK E0 35 (scN 0 rslotsP) :=
  (gcSC_ok (fun_ok (FE_ok E0_ok .nil .nil) T0_ok (f := 35) (fn := Tryz.f35) (by kernel_rfl) (ls := [s1L, s2L]) (by rw [show items (bodyOf Tryz.f35) = [.loop s1B, .loop s2B] by kernel_rfl]; exact (.cons (LCd_ok s1L_ok) (.cons (LCd_ok s2L_ok) .nil))))).spec0 fun args L k h => by
    unfold rslotsP at h; split at h
    · rename_i nodes np cp fp ns cs fs long nb cb fb nst ct ft miss good fresh
      obtain ⟨hc, h⟩ := h
      refine ⟨rfl, _, .cons (Wk.cfg hc).agg .nil, ?_⟩
      rw [rslots_sx]
      refine bc_t (okMake_len hc.2.1) ⟨rfl, ⟨rfl, rfl, rfl, rfl, rfl, rfl, hc.2.2.1⟩, ?_⟩
      revert h
      have hg : Len (cfg9 nodes np fp ns fs long nb fb nst ft miss good fresh).np := hc.2.1
      revert hg
      unfold rslv
      generalize cfg9 nodes np fp ns fs long nb fb nst ft miss good fresh = g
      intro hg h
      cases hb : sls g 0 g.ns with
      | false => rw [hb] at h; exact fun _ => kR h
      | true =>
        rw [hb] at h
        refine ⟨rfl, slu g g.ns, ⟨rfl, rfl, rfl, rfl, rfl, rfl, hg⟩, ?_⟩
        cases ha : alls (slu g g.ns) 0 g.np with
        | true => rw [ha] at h; exact kR h
        | false => rw [ha] at h; exact kR h
    · exact h.elim
noncomputable abbrev rslotsC : Nat × FC := (35, vcall (clrSC (scN 0 rslotsP)))
theorem rslotsC_ok : FOK E0 35 (vcall (clrSC (scN 0 rslotsP))) := vcall_ok (clrSC_ok rslots_ok)

end Go.Sx

namespace Go.Sx
open Go.Proofs
set_option maxRecDepth 1000000

/-! ## sennit/sennitref04.Within -/
def rwithinP : SCP := fun args L k => match args, L with
  | [.int false .i64 x, .int false .i64 lo, .int false .i64 hi], [] => k (.int false .i64 (within x lo hi)) .e 0
  | _, _ => False
theorem rwithin_sx (x lo hi : Int) (k : AV → Heap → Nat → Prop) : gcSC (sexec E0 (FE (fun _ _ => False) [] []) Tryz.f33 []) [.int false .i64 x, .int false .i64 lo, .int false .i64 hi] .e 0 k =
    (bcase (decide (x > hi)) (k (.int true .i64 3) .e 0) (bcase (decide (x < lo)) (k (.int true .i64 1) .e 0) (k (.int true .i64 0) .e 0))) := by kernel_rfl
theorem rwithin_ok : SOK E0 33 (scN 0 rwithinP) :=
  (gcSC_ok (fun_ok (FE_ok E0_ok .nil .nil) T0_ok (f := 33) (fn := Tryz.f33) (by kernel_rfl) (ls := []) .nil)).spec0 fun args L k h => by
    unfold rwithinP at h; split at h
    · refine ⟨rfl, _, .refl _, ?_⟩
      rw [rwithin_sx]
      unfold within at h
      refine bc_i (fun b => ?_) (fun b => bc_i (fun b' => ?_) fun b' => ?_)
      · rw [b] at h; exact ⟨_, Wk.int, h⟩
      · rw [b, b'] at h; exact ⟨_, Wk.int, h⟩
      · rw [b, b'] at h; exact ⟨_, Wk.int, h⟩
    · exact h.elim
noncomputable abbrev rwithinC : Nat × FC := (33, vcall (clrSC (scN 0 rwithinP)))
theorem rwithinC_ok : FOK E0 33 (vcall (clrSC (scN 0 rwithinP))) := vcall_ok (clrSC_ok rwithin_ok)

noncomputable def nB0 : Code := loopB ((items (bodyOf Tryz.f21)).getD 0 .skip)

noncomputable def nB1 : Code := loopB ((items (bodyOf Tryz.f21)).getD 1 .skip)

noncomputable def nB2 : Code := loopB ((items (bodyOf Tryz.f21)).getD 2 .skip)

noncomputable def n0ST (c : Cfg) (x : Int) (i : Int) : St := ⟨putT [1,2,4] [.ptr 0 0, .int false .i64 x, .int false .i64 i] .e, bx c, 16, 125, none⟩
theorem n0_round (c : Cfg) (x : Int) (i : Nat) (next : St → Prop) (K : Exit → List AV → Heap → Nat → Prop) :
  roundG E0 (FE (fun _ _ => False) [rwithinC] []) nB0 [] (gcT [1,2,4]) next (endK [1,2] 125 K) (n0ST c x (Int.ofNat i)) =
   bcase (decide (Int.ofNat i < (c.nb : Int))) (bcase (decide (0 ≤ Int.ofNat i ∧ Int.ofNat i < (c.nb : Int))) (bcase ((within (c.boots i) 0 4096) != 0) (K .ret [.ptr 0 0, .int false .i64 (within (c.boots i) 0 4096)] (bx c) 16)
     (next (n0ST c x (IntKind.wrap .i64 (Int.ofNat i + 1))))) False)
    (K (.exit 0) [.ptr 0 0, .int false .i64 x] (bx c) 16) := by kernel_rfl
def n0P : BSP := fun c args K => match args with
  | [.ptr 0 0, .int _ .i64 x, .int _ .i64 i] => (i = 0 ∧ Len c.nb) ∧ bcase (each c.boots 0 4096 0 c.nb != 0) (K .ret [.ptr 0 0, .int false .i64 (each c.boots 0 4096 0 c.nb)] (bx c) 16) (K (.exit 0) [.ptr 0 0, .int false .i64 x] (bx c) 16)
  | _ => False
theorem n0L_ok : LSOK E0 false (.loop nB0) 125 [1,2,4] [1,2] (atN 16 (boxP n0P)) :=
  LSOK_box fun c args K h => by
    unfold n0P at h; split at h
    · rename_i l1 x l2 i
      obtain ⟨⟨rfl, hl⟩, hk⟩ := h
      refine COK.less (args' := [.ptr 0 0, .int false .i64 x, .int false .i64 0]) (.cons (.refl _) (.cons .int (.cons .int .nil))) ?_
      refine loop_T (FE_ok E0_ok (.cons rwithinC_ok .nil) .nil) .nil [1,2,4] (fun i => n0ST c x (Int.ofNat i)) (fun i => bcase (each c.boots 0 4096 i (c.nb - i) != 0) (K .ret [.ptr 0 0, .int false .i64 (each c.boots 0 4096 i (c.nb - i))] (bx c) 16) (K (.exit 0) [.ptr 0 0, .int false .i64 x] (bx c) 16)) c.nb (fun i hi hd next hnx => ?_) (fun hd next => ?_) hk
      · rw [n0_round]
        refine bc_t (lt_t hi) (bc_t (in_t hi) ?_)
        rw [wrap_succ hi hl]
        have hp : each c.boots 0 4096 i (c.nb - i) = bif (within (c.boots i) 0 4096) != 0 then (within (c.boots i) 0 4096) else each c.boots 0 4096 (i + 1) (c.nb - (i + 1)) := by
          rw [show c.nb - i = (c.nb - (i + 1)) + 1 by omega]; rfl
        rw [hp] at hd
        refine bc_i (fun b => ?_) fun b => ?_
        · rw [b, cond_true, b] at hd; exact hd
        · rw [b, cond_false] at hd; exact hnx hd
      · rw [n0_round]
        rw [Nat.sub_self] at hd
        exact bc_f (lt_f (Nat.le_refl _)) hd
    · exact h.elim
noncomputable abbrev n0L : LC := LCd 125 [1,2,4] [1,2] (atN 16 (boxP n0P))

def rst (c : Cfg) (i : Nat) : Int := bif decide (c.sa i < 0) then 1 else bif decide (c.sa i ≥ c.nodes) then 1 else (within (c.sc i) 1 100)
def rsts (c : Cfg) : Nat → Nat → Int
  | _, 0 => 0
  | i, m + 1 => bif rst c i != 0 then rst c i else rsts c (i + 1) m
noncomputable def n1ST (c : Cfg) (x : Int) (i : Int) : St := ⟨putT [1,2,5] [.ptr 0 0, .int false .i64 x, .int false .i64 i] .e, bx c, 16, 125, none⟩
theorem n1_round (c : Cfg) (x : Int) (i : Nat) (next : St → Prop) (K : Exit → List AV → Heap → Nat → Prop) :
  roundG E0 (FE (fun _ _ => False) [rwithinC] []) nB1 [] (gcS 16 [1,2,5]) next (endG 16 [1,2] 125 K) (n1ST c x (Int.ofNat i)) =
   bcase (decide (Int.ofNat i < (c.nst : Int))) (bcase (decide (0 ≤ Int.ofNat i ∧ Int.ofNat i < (c.nst : Int)))
     (bcase (decide (c.sa i < 0)) (K .ret [.ptr 0 0, .int false .i64 1] (bx c) 16) (bcase (decide (c.sa i ≥ c.nodes)) (K .ret [.ptr 0 0, .int false .i64 1] (bx c) 16)
      (bcase ((within (c.sc i) 1 100) != 0) (K .ret [.ptr 0 0, .int false .i64 (within (c.sc i) 1 100)] (bx c) 16) (next (n1ST c x (IntKind.wrap .i64 (Int.ofNat i + 1))))))) False)
    (K (.exit 2) [.ptr 0 0, .int false .i64 x] (bx c) 16) := by kernel_rfl
def n1P : BSP := fun c args K => match args with
  | [.ptr 0 0, .int _ .i64 x, .int _ .i64 i] => (i = 0 ∧ Len c.nst) ∧ bcase (rsts c 0 c.nst != 0) (K .ret [.ptr 0 0, .int false .i64 (rsts c 0 c.nst)] (bx c) 16) (K (.exit 2) [.ptr 0 0, .int false .i64 x] (bx c) 16)
  | _ => False
theorem n1L_ok : LSOK E0 false (.loop nB1) 125 [1,2,5] [1,2] (atN 16 (boxP n1P)) :=
  LSOK_box fun c args K h => by
    unfold n1P at h; split at h
    · rename_i l1 x l2 i
      obtain ⟨⟨rfl, hl⟩, hk⟩ := h
      refine COK.less (args' := [.ptr 0 0, .int false .i64 x, .int false .i64 0]) (.cons (.refl _) (.cons .int (.cons .int .nil))) ?_
      refine COK.gcE 16 rfl ?_
      refine loop_S (FE_ok E0_ok (.cons rwithinC_ok .nil) .nil) .nil 16 [1,2,5] (fun i => n1ST c x (Int.ofNat i)) (fun i => bcase (rsts c i (c.nst - i) != 0) (K .ret [.ptr 0 0, .int false .i64 (rsts c i (c.nst - i))] (bx c) 16) (K (.exit 2) [.ptr 0 0, .int false .i64 x] (bx c) 16)) c.nst rfl (fun i hi hd next hnx => ?_) (fun hd next => ?_) hk
      · rw [n1_round]
        refine bc_t (lt_t hi) (bc_t (in_t hi) ?_)
        rw [wrap_succ hi hl]
        have hp : rsts c i (c.nst - i) = bif rst c i != 0 then rst c i else rsts c (i + 1) (c.nst - (i + 1)) := by
          rw [show c.nst - i = (c.nst - (i + 1)) + 1 by omega]; rfl
        rw [hp] at hd
        refine bc_i (fun b => ?_) fun b => bc_i (fun b' => ?_) fun b' => ?_
        · have e : rst c i = 1 := by unfold rst; rw [b]; rfl
          rw [e] at hd; exact hd
        · have e : rst c i = 1 := by unfold rst; rw [b, b']; rfl
          rw [e] at hd; exact hd
        · have e : rst c i = (within (c.sc i) 1 100) := by unfold rst; rw [b, b']; rfl
          rw [e] at hd
          refine bc_i (fun b => ?_) fun b => ?_
          · rw [b, cond_true, b] at hd; exact hd
          · rw [b, cond_false] at hd; exact hnx hd
      · rw [n1_round]
        rw [Nat.sub_self] at hd
        exact bc_f (lt_f (Nat.le_refl _)) hd
    · exact h.elim
noncomputable abbrev n1L : LC := LCd 125 [1,2,5] [1,2] (atN 16 (boxP n1P))

end Go.Sx

namespace Go.Sx
open Go.Proofs
set_option maxRecDepth 1000000

def w6 (c : Cfg) : Int := within c.long (mnmx true (IntKind.wrap .i64 (IntKind.wrap .i64 (3 * c.nodes) + 1)) (IntKind.wrap .i64 (c.nodes + 116))) 4096
/-- what is wrong with a config, by the reference -/
def refE (c : Cfg) : Int := (bif within c.nodes 4 16 != 0 then within c.nodes 4 16 else (bif within (c.np : Int) 2 8 != 0 then within (c.np : Int) 2 8 else (bif !(prs c 0 c.np) then 1 else (bif within (c.ns : Int) 1 16 != 0 then within (c.ns : Int) 1 16 else (bif !(rslv c) then 1 else (bif w6 c != 0 then w6 c else (bif (c.nb : Int) != c.nodes then 1 else (bif each c.boots 0 4096 0 c.nb != 0 then each c.boots 0 4096 0 c.nb else (bif within (c.nst : Int) 0 8 != 0 then within (c.nst : Int) 0 8 else (bif rsts c 0 c.nst != 0 then rsts c 0 c.nst else (bif within c.miss 1 100 != 0 then within c.miss 1 100 else (bif within c.good 1 100 != 0 then within c.good 1 100 else (bif within c.fresh 1 100 != 0 then within c.fresh 1 100 else 0)))))))))))))

/-! ## sennit/sennitref04.New -/
def rnewP : SCP := fun args L k => match args, L with
  | [.agg [.int false .i64 nodes, .isl 1 np _ fp, .isl 1 ns _ fs, .int false .i64 long, .isl 1 nb _ fb, .isl 3 nst _ ft, .int false .i64 miss, .int false .i64 good, .int false .i64 fresh]], [] => (CfgOk np fp ns fs nb fb nst ft) ∧ k (.int false .i64 (refE (cfg9 nodes np fp ns fs long nb fb nst ft miss good fresh))) .e 0
  | _, _ => False
theorem rnew_sx (c : Cfg) (k : AV → Heap → Nat → Prop) : gcSC (sexec E0 (FE (fun _ _ => False) [rwithinC, rpairsC, rslotsC] []) Tryz.f21 [n0L, n1L, unroll E0 (FE (fun _ _ => False) [rwithinC] []) nB2 [] 5]) [.agg c.cells] .e 0 k =
    ((bcase (within c.nodes 4 16 != 0) (k (.int false .i64 (within c.nodes 4 16)) .e 0) (bcase (within (c.np : Int) 2 8 != 0) (k (.int false .i64 (within (c.np : Int) 2 8)) .e 0) ((c.ok ∧ 4 ≤ c.nodes ∧ c.nodes ≤ 16) ∧ bcase (!(prs c 0 c.np)) (k (.int true .i64 (1)) .e 0) (bcase (within (c.ns : Int) 1 16 != 0) (k (.int false .i64 (within (c.ns : Int) 1 16)) .e 0) (c.ok ∧ bcase (!(rslv c)) (k (.int true .i64 (1)) .e 0) (bcase (w6 c != 0) (k (.int false .i64 (w6 c)) .e 0) (bcase ((c.nb : Int) != c.nodes) (k (.int true .i64 (1)) .e 0) (c.cells = c.cells ∧ ((0 : Int) = 0 ∧ Len c.nb) ∧ bcase (each c.boots 0 4096 0 c.nb != 0) (k (.int false .i64 (each c.boots 0 4096 0 c.nb)) .e 0) (bcase (within (c.nst : Int) 0 8 != 0) (k (.int false .i64 (within (c.nst : Int) 0 8)) .e 0) (c.cells = c.cells ∧ ((0 : Int) = 0 ∧ Len c.nst) ∧ bcase (rsts c 0 c.nst != 0) (k (.int false .i64 (rsts c 0 c.nst)) .e 0) (bcase (within c.miss 1 100 != 0) (k (.int false .i64 (within c.miss 1 100)) .e 0) (bcase (within c.good 1 100 != 0) (k (.int false .i64 (within c.good 1 100)) .e 0) (bcase (within c.fresh 1 100 != 0) (k (.int false .i64 (within c.fresh 1 100)) .e 0) (k (.int true .i64 0) .e 0))))))))))))))) := by kernel_rfl
theorem rnew_ok : SOK E0 21 (scN 0 rnewP) :=
  (gcSC_ok (fun_ok (FE_ok E0_ok (.cons rwithinC_ok (.cons rpairsC_ok (.cons rslotsC_ok .nil))) .nil) T0_ok (f := 21) (fn := Tryz.f21) (by kernel_rfl) (ls := [n0L, n1L, unroll E0 (FE (fun _ _ => False) [rwithinC] []) nB2 [] 5]) (by rw [show items (bodyOf Tryz.f21) = [.loop nB0, .loop nB1, .loop nB2] by kernel_rfl]; exact (.cons (LCd_ok n0L_ok) (.cons (LCd_ok n1L_ok) (.cons (fun st k h => unroll_ok (FE_ok E0_ok (.cons rwithinC_ok .nil) .nil) (LAll_items _ _ .nil) 5 st k h) .nil)))))).spec0 fun args L k h => by
    unfold rnewP at h; split at h
    · rename_i nodes np cp fp ns cs fs long nb cb fb nst ct ft miss good fresh
      obtain ⟨hc, h⟩ := h
      refine ⟨rfl, _, .cons (Wk.cfg hc).agg .nil, ?_⟩
      rw [rnew_sx]
      have hok : ((cfg9 nodes np fp ns fs long nb fb nst ft miss good fresh)).ok := Cfg.ok_of hc
      revert h hok
      clear hc
      generalize (cfg9 nodes np fp ns fs long nb fb nst ft miss good fresh) = g
      intro h hok
      have key : ∀ (l : Bool) (v : Int), v = refE g → ∃ r', Wk (.int l .i64 v) r' ∧ k r' .e 0 := fun l v hv => ⟨.int false .i64 v, Wk.int, by rw [hv]; exact h⟩
      unfold refE at key
      refine bc_i (fun b => key _ _ (by rw [b]; rfl)) fun b0 => ?_
      rw [b0, cond_false] at key
      refine bc_i (fun b => key _ _ (by rw [b]; rfl)) fun b1 => ?_
      rw [b1, cond_false] at key
      have hn := within_0.1 (show within g.nodes 4 16 = 0 by simpa using b0)
      refine ⟨⟨hok, hn⟩, ?_⟩
      refine bc_i (fun b => key _ _ (by rw [b]; rfl)) fun b2 => ?_
      rw [b2, cond_false] at key
      refine bc_i (fun b => key _ _ (by rw [b]; rfl)) fun b3 => ?_
      rw [b3, cond_false] at key
      refine ⟨hok, ?_⟩
      refine bc_i (fun b => key _ _ (by rw [b]; rfl)) fun b4 => ?_
      rw [b4, cond_false] at key
      refine bc_i (fun b => key _ _ (by rw [b]; rfl)) fun b5 => ?_
      rw [b5, cond_false] at key
      refine bc_i (fun b => key _ _ (by rw [b]; rfl)) fun b6 => ?_
      rw [b6, cond_false] at key
      refine ⟨rfl, ⟨rfl, hok.2.2.2.1⟩, ?_⟩
      refine bc_i (fun b => key _ _ (by rw [b]; rfl)) fun b7 => ?_
      rw [b7, cond_false] at key
      refine bc_i (fun b => key _ _ (by rw [b]; rfl)) fun b8 => ?_
      rw [b8, cond_false] at key
      refine ⟨rfl, ⟨rfl, hok.2.2.2.2⟩, ?_⟩
      refine bc_i (fun b => key _ _ (by rw [b]; rfl)) fun b9 => ?_
      rw [b9, cond_false] at key
      refine bc_i (fun b => key _ _ (by rw [b]; rfl)) fun b10 => ?_
      rw [b10, cond_false] at key
      refine bc_i (fun b => key _ _ (by rw [b]; rfl)) fun b11 => ?_
      rw [b11, cond_false] at key
      refine bc_i (fun b => key _ _ (by rw [b]; rfl)) fun b12 => ?_
      rw [b12, cond_false] at key
      exact key _ _ rfl
    · exact h.elim
noncomputable abbrev rnewC : Nat × FC := (21, vcall (clrSC (scN 0 rnewP)))
theorem rnewC_ok : FOK E0 21 (vcall (clrSC (scN 0 rnewP))) := vcall_ok (clrSC_ok rnew_ok)

end Go.Sx
