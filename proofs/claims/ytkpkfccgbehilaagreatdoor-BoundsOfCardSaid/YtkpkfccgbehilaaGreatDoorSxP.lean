/- Part of an own symbolic executor for the model's code, proved sound, and of the proof of one statement (see the text of the claimed theorem). -/
import Derived.Test.YtkpkfccgbehilaaGreatDoorSxM
import Derived.Deep.Upon
namespace Go.Sx
section
variable {E : Env} (ok : E.Ok)

/-! #### append -/
def rowsF (sz : Nat) (f : Nat → List AV) : Nat → Nat → Option (List AV)
  | _, 0 => some []
  | i, n + 1 => match cut 0 sz (f i), rowsF sz f (i + 1) n with
    | some a, some l => some (a ++ l)
    | _, _ => none

theorem rowsF_spec {sz : Nat} {f : Nat → List AV} : ∀ {n i : Nat} {l : List AV}, rowsF sz f i n = some l → l.length = n * sz ∧ ∀ (j : Nat) c, l[j]? = some c → 0 < sz ∧ (f (i + j / sz))[j % sz]? = some c ∧ j / sz < n
  | 0, i, l, h => by simp only [rowsF] at h; cases h; exact ⟨by simp, fun j c h => by simp at h⟩
  | n + 1, i, l, h => by
    simp only [rowsF] at h
    split at h
    · rename_i a l' h1 h2
      cases h
      obtain ⟨h3, h4, h5⟩ := cut_spec h1
      obtain ⟨h6, h7⟩ := rowsF_spec h2
      refine ⟨by simp [h4, h6, Nat.succ_mul]; omega, fun j c hj => ?_⟩
      by_cases hlt : j < sz
      · rw [List.getElem?_append_left (by omega)] at hj
        refine ⟨by omega, ?_, by rw [Nat.div_eq_of_lt hlt]; omega⟩
        rw [Nat.div_eq_of_lt hlt, Nat.mod_eq_of_lt hlt, Nat.add_zero]
        rw [h5 j hlt] at hj; simpa using hj
      · rw [List.getElem?_append_right (by omega), h4] at hj
        obtain ⟨g1, g2, g3⟩ := h7 _ c hj
        have hle : sz ≤ j := by omega
        have e1 : j / sz = (j - sz) / sz + 1 := by rw [Nat.div_eq_sub_div g1 hle]
        refine ⟨g1, ?_, by omega⟩
        rw [Nat.mod_eq_sub_mod hle, e1, show i + ((j - sz) / sz + 1) = i + 1 + (j - sz) / sz by omega]; exact g2
    · cases h

/-- The elements that a slice has: how many, their cells, the ids that are read. -/
def srcF (sz : Nat) (x : AV) (H : Heap) : Option (Nat × List AV × List Nat) :=
  match x with
  | .nils => some (0, [], [])
  | .sl id base start sz' k _ => match H.get id with
    | some (.cells _ cs) => match Nat.beq sz sz', cut (base + start * sz) (k * sz) cs with
      | true, some l => some (k, l, [id])
      | _, _ => none
    | _ => none
  | .isl sz' k _ f => match Nat.beq sz sz', rowsF sz f 0 k with
    | true, some l => some (k, l, [])
    | _, _ => none
  | .raw (.slice _ 0 _) => some (0, [], [])
  | _ => none

theorem srcF_live {sz x H k l nd} (h : srcF sz x H = some (k, l, nd)) : l.length = k * sz ∧ ∀ i, i ∈ nd → ∃ ch, H.get i = some ch ∧ ch.live = true := by
  unfold srcF at h
  split at h
  · cases h; exact ⟨by simp, fun i h => by cases h⟩
  · split at h
    · rename_i hid
      split at h
      · rename_i hc; cases h; exact ⟨(cut_spec hc).2.1, fun i hi => by simp at hi; subst hi; exact ⟨_, hid, rfl⟩⟩
      · cases h
    · cases h
  · split at h
    · rename_i hc; cases h; exact ⟨(rowsF_spec hc).1, fun i h => by cases h⟩
    · cases h
  · cases h; exact ⟨by simp, fun i h => by cases h⟩
  · cases h

theorem srcF_ok {sz x k l nd} {H : Heap} (h : srcF sz x H = some (k, l, nd)) {H' : Heap} (hn : ∀ i, i ∈ nd → H'.get i = H.get i) {Z γ w v} (hs : Sat Z γ H' w) (hv : VRel Z w γ x v) (hone : oneAll l = true) {P : Program} {tx e : TypeId} (ht : P.underlying tx = some (.slice e)) :
    ∃ base c, v = .slice base k c ∧ k ≤ c ∧ ∃ news : List Value, news.length = l.length ∧ (∀ (j : Nat) a u, l[j]? = some a → news[j]? = some u → VRel Z w γ a u) ∧ Src P sz tx v k news w := by
  have one_of : ∀ (news : List Value), news.length = l.length → (∀ (j : Nat) a u, l[j]? = some a → news[j]? = some u → VRel Z w γ a u) → ∀ u ∈ news, u.oneCell' = true := fun news h1 h2 u hu => by
    obtain ⟨j, hj, rfl⟩ := List.getElem_of_mem hu
    exact (h2 j l[j] _ (List.getElem?_eq_getElem (by omega)) (List.getElem?_eq_getElem hj)).oneCell (oneAll_spec hone _ (List.getElem_mem _))
  unfold srcF at h
  split at h
  · cases h
    cases hv
    exact ⟨none, 0, rfl, Nat.le_refl _, [], rfl, fun j a u h => by simp at h, Src.ofNil w ht 0⟩
  · rename_i id base start sz' n cap
    split at h
    · rename_i ty cs hid
      split at h
      · rename_i hsz hcut
        have hsz := Nat.eq_of_beq_eq_true hsz
        subst hsz
        cases h
        obtain ⟨c1, c2, c3⟩ := cut_spec hcut
        cases hv
        · rename_i b c hb h3 h1 h2
          have hb : γ id = some b := by assumption
          have hnc : k ≤ c := by assumption
          obtain ⟨b', hb', _, arr, ha, hsz, hrel⟩ := hs.own id _ ((hn id (by simp)).trans hid) rfl
          rw [hb] at hb'; cases hb'
          obtain ⟨vs, hvl, hvg⟩ := arr_vals (arr := arr) (off := base + start * sz) (m := k * sz) (by omega)
          have hrel' : ∀ (j : Nat) a u, l[j]? = some a → vs[j]? = some u → VRel Z w γ a u := fun j a u h1 h2 => by
            have hj : j < k * sz := by have := (List.getElem?_eq_some_iff.1 h1).1; omega
            rw [c3 j hj] at h1
            exact hrel _ a u h1 (hvg j u h2)
          exact ⟨_, _, rfl, hnc, vs, by omega, hrel', Src.ofSlice w ht _ k c vs hvl (fun j u hj => by rw [add_zero', cell_of_row w b _ arr ty _ ha]; exact hvg j u hj) (one_of vs (by omega) hrel')⟩
        · rename_i a h1 h2
          have hk : k = 0 := by assumption
          subst hk
          have hl0 : l = [] := List.length_eq_zero_iff.1 (by omega)
          subst hl0
          refine ⟨a, 0, rfl, Nat.le_refl _, [], rfl, fun j a u h => by simp at h, ?_⟩
          cases a with
          | none => exact Src.ofNil w ht 0
          | some a => exact Src.ofSlice w ht a 0 0 [] (by simp) (fun j u h => by simp at h) (fun _ h => by cases h)
      · cases h
    · cases h
  · rename_i sz' n cap f
    split at h
    · rename_i hsz hrows
      have hsz := Nat.eq_of_beq_eq_true hsz
      subst hsz
      cases h
      obtain ⟨r1, r2⟩ := rowsF_spec hrows
      cases hv
      case isl a c vs q1 q2 q3 q4 q5 q6 =>
        have hsp : a.spot = none := by assumption
        have hnc : k ≤ c := by assumption
        have hcell : ∀ (i j : Nat) (x : AV), i < k → (f i)[j]? = some x → w.cell? { block := a.block, off := a.off + i * sz + j, spot := none } = some (vs i j) := by first | exact q6 | exact q5 | exact q4 | exact q1
        have hrel : ∀ (i j : Nat) (x : AV), i < k → (f i)[j]? = some x → VRel Z w noG x (vs i j) := by first | exact q6 | exact q1 | exact q5
        have hlen : ((List.range l.length).map (fun j => vs (j / sz) (j % sz))).length = l.length := by simp
        have hget : ∀ (j : Nat) u, ((List.range l.length).map (fun j => vs (j / sz) (j % sz)))[j]? = some u → j < l.length ∧ u = vs (j / sz) (j % sz) := fun j u h => by
          simp only [List.getElem?_map, Option.map_eq_some_iff] at h
          obtain ⟨q, hq, rfl⟩ := h
          obtain ⟨h1, h2⟩ := List.getElem?_eq_some_iff.1 hq
          simp at h1 h2; subst h2; exact ⟨h1, rfl⟩
        have hrel' : ∀ (j : Nat) a u, l[j]? = some a → ((List.range l.length).map (fun j => vs (j / sz) (j % sz)))[j]? = some u → VRel Z w γ a u := fun j a u h1 h2 => by
          obtain ⟨g1, rfl⟩ := hget j u h2
          obtain ⟨e1, e2, e3⟩ := r2 j a h1
          rw [Nat.zero_add] at e2
          exact noG_le (hrel _ _ a e3 e2)
        refine ⟨some a, c, rfl, hnc, _, hlen, hrel', Src.ofSlice w ht a k c _ (hlen.trans r1) (fun j u hj => ?_) (one_of _ hlen hrel')⟩
        obtain ⟨g1, rfl⟩ := hget j u hj
        obtain ⟨e1, e2, e3⟩ := r2 j l[j] (List.getElem?_eq_getElem g1)
        rw [Nat.zero_add] at e2
        rw [add_spot hsp, ← hcell _ _ _ e3 e2]
        have := Nat.div_add_mod j sz
        rw [Nat.mul_comm] at this
        congr 2; omega
      case isl0 a c q1 q2 =>
        have hk : k = 0 := by assumption
        subst hk
        have hl0 : l = [] := List.length_eq_zero_iff.1 (by simpa using r1)
        subst hl0
        refine ⟨a, c, rfl, Nat.zero_le _, [], rfl, fun j a u h => by simp at h, ?_⟩
        cases a with
        | none => exact Src.ofNil w ht c
        | some a => exact Src.ofSlice w ht a 0 c [] (by simp) (fun j u h => by simp at h) (fun _ h => by cases h)
    · cases h
  · rename_i a c
    cases h
    cases hv
    refine ⟨a, c, rfl, Nat.zero_le _, [], rfl, fun j a u h => by simp at h, ?_⟩
    cases a with
    | none => exact Src.ofNil w ht c
    | some a => exact Src.ofSlice w ht a 0 c [] (by simp) (fun j u h => by simp at h) (fun _ h => by cases h)
  · cases h

def capOf : AV → Option Nat
  | .nils => some 0
  | .sl _ _ _ _ _ cap => cap
  | .isl _ _ cap _ => cap
  | _ => none

theorem capOf_ok {Z w γ x base n c c0} (h : VRel Z w γ x (.slice base n c)) (hc : capOf x = some c0) : c = c0 := by
  unfold capOf at hc
  split at hc
  · cases hc; cases h; rfl
  · cases hc
    cases h
    · exact (by assumption : ∀ q, some c0 = some q → c = q) _ rfl
    · exact ((by assumption : ∀ q, some c0 = some q → q = 0) _ rfl).symm
  · cases hc
    cases h
    · exact (by assumption : ∀ q, some c0 = some q → c = q) _ rfl
    · exact (by assumption : ∀ q, some c0 = some q → c = q) _ rfl
  · cases hc

def appendF (E : Env) (t tx : TypeId) (d s : AV) (H : Heap) (nid : Nat) : Option Out :=
  match E.und t, E.und tx with
  | some (.slice e), some (.slice _) => match E.tt.get e with
    | some ei => match zeros ei, srcF ei.size d H, srcF ei.size s H with
      | some zl, some (n, olds, nd1), some (k, news, nd2) => match oneAll olds, oneAll news, Nat.beq zl.length ei.size with
        | true, true, true => match k with
          | 0 => some ⟨none, nd1 ++ nd2, d, []⟩
          | k' + 1 => match Nat.ble ((n + (k' + 1)) * ei.bytes) 140737488355328, Nat.ble (n + (k' + 1)) 9223372036854775807 with
            | true, true => match capOf d with
              | some c => match Nat.ble (n + (k' + 1)) c with
                | true => match d with
                  | .sl id base start sz _ _ => match H.get id with
                    | some (.cells ty cs) => match Nat.ble (base + (start + n) * ei.size + news.length) cs.length, Nat.beq sz ei.size with
                      | true, true => some ⟨none, id :: (nd1 ++ nd2), .sl id base start sz (n + (k' + 1)) (some c), [(id, .cells ty (splice (base + (start + n) * ei.size) news cs))]⟩
                      | _, _ => none
                    | _ => none
                  | _ => none
                | false => some ⟨none, nd1 ++ nd2, .sl nid 0 0 ei.size (n + (k' + 1)) none, [(nid, .cells e (olds ++ news))]⟩
              | none => match d with
                | .sl id base start sz _ _ => match H.get id with
                  | some (.cells ty _) => match Nat.beq base 0, Nat.beq start 0, Nat.beq sz ei.size, Nat.beq ty e with
                    | true, true, true, true => some ⟨none, id :: (nd1 ++ nd2), .sl nid 0 0 ei.size (n + (k' + 1)) none, [(id, .gone), (nid, .cells e (olds ++ news))]⟩
                    | _, _, _, _ => none
                  | _ => none
                | _ => none
            | _, _ => none
        | _, _, _ => none
      | _, _, _ => none
    | none => none
  | _, _ => none

omit ok in
theorem Sat.drawn {Z γ H w} (h : Sat Z γ H w) (d : Nat) : Sat Z γ H { w with drawn := d } :=
  ⟨fun i ch hi hl => by
    obtain ⟨b, h1, h2, h3⟩ := h.own i ch hi hl
    exact ⟨b, h1, h2, h3.mono rfl (fun _ h => ⟨h, rfl⟩) (fun _ _ h => h) (fun _ _ _ => rfl)⟩, h.inj, h.rng, h.zrng, h.dom⟩

omit ok in
theorem VRel.drawn {Z γ w a v} (h : VRel Z w γ a v) (d : Nat) : VRel Z { w with drawn := d } γ a v := h.mono (fun _ h => ⟨h, rfl⟩) (fun _ _ h => h) (fun _ _ _ => rfl)

/-- A block of ours goes under another name. -/
theorem Sat.rename {Z γ H w} (h : Sat Z γ H w) {i j b : Nat} {ch : Chunk} (hi : H.get i = some ch) (hl : ch.live = true) (hb : γ i = some b) (hj : H.get j = none) :
    Sat Z (upd γ j b) ((H.put i .gone).put j ch) w := by
  have hij : i ≠ j := fun e => by rw [e, hj] at hi; cases hi
  have hgj := h.dom j hj
  have up : ∀ k x, γ k = some x → upd γ j b k = some x := fun k x hk => by unfold upd; split <;> simp_all
  have hget : ∀ k, ((H.put i .gone).put j ch).get k = if k = j then some ch else if k = i then some .gone else H.get k := fun k => by rw [Tr.get_put, Tr.get_put]
  refine ⟨fun k c hk hlk => ?_, fun k m ck cm x hk hlk hm hlm hgk hgm => ?_, fun k x hk => ?_, h.zrng, fun k hk => ?_⟩
  · rw [hget] at hk
    by_cases e1 : k = j
    · subst e1
      rw [if_pos rfl] at hk; cases hk
      obtain ⟨b', h1, h2, h3⟩ := h.own i _ hi hl
      rw [hb] at h1; cases h1
      exact ⟨b, by simp [upd], h2, h3.mono rfl (fun _ h => ⟨h, rfl⟩) up (fun _ _ _ => rfl)⟩
    · rw [if_neg e1] at hk
      by_cases e2 : k = i
      · rw [if_pos e2] at hk; cases hk; cases hlk
      · rw [if_neg e2] at hk
        obtain ⟨b', h1, h2, h3⟩ := h.own k c hk hlk
        exact ⟨b', by simp [upd, e1, h1], h2, h3.mono rfl (fun _ h => ⟨h, rfl⟩) up (fun _ _ _ => rfl)⟩
  · rw [hget] at hk hm
    by_cases e1 : k = j <;> by_cases e2 : m = j
    · omega
    · subst e1
      rw [if_neg e2] at hm
      by_cases e3 : m = i
      · rw [if_pos e3] at hm; cases hm; cases hlm
      · rw [if_neg e3] at hm
        simp [upd] at hgk; subst hgk
        simp [upd, e2] at hgm
        exact absurd (h.inj m i cm ch b hm hlm hi hl hgm hb) e3
    · subst e2
      rw [if_neg e1] at hk
      by_cases e3 : k = i
      · rw [if_pos e3] at hk; cases hk; cases hlk
      · rw [if_neg e3] at hk
        simp [upd] at hgm; subst hgm
        simp [upd, e1] at hgk
        exact absurd (h.inj k i ck ch b hk hlk hi hl hgk hb) e3
    · rw [if_neg e1] at hk
      rw [if_neg e2] at hm
      simp [upd, e1] at hgk
      simp [upd, e2] at hgm
      by_cases e3 : k = i
      · rw [if_pos e3] at hk; cases hk; cases hlk
      · rw [if_neg e3] at hk
        by_cases e4 : m = i
        · rw [if_pos e4] at hm; cases hm; cases hlm
        · rw [if_neg e4] at hm
          exact h.inj k m ck cm x hk hlk hm hlm hgk hgm
  · unfold upd at hk
    split at hk
    · cases hk; exact h.rng i b hb
    · exact h.rng k x hk
  · rw [hget] at hk
    by_cases e1 : k = j
    · simp [e1] at hk
    · rw [if_neg e1] at hk
      by_cases e2 : k = i
      · simp [e2] at hk
      · rw [if_neg e2] at hk; simp [upd, e1, h.dom k hk]

theorem Sat.congr {Z γ w} {H H' : Heap} (h : Sat Z γ H w) (he : ∀ i, H'.get i = H.get i) : Sat Z γ H' w :=
  ⟨fun i ch hi hl => h.own i ch ((he i).symm.trans hi) hl, fun i j ci cj b hi hli hj hlj => h.inj i j ci cj b ((he i).symm.trans hi) hli ((he j).symm.trans hj) hlj, h.rng, h.zrng, fun i hi => h.dom i ((he i).symm.trans hi)⟩

theorem Sat.forget {Z γ H w} (h : Sat Z γ H w) (i : Nat) : Sat Z γ (H.put i .gone) w := by
  refine ⟨fun k c hk hlk => ?_, fun k m ck cm x hk hlk hm hlm hgk hgm => ?_, h.rng, h.zrng, fun k hk => ?_⟩
  · rw [Tr.get_put] at hk
    split at hk
    · cases hk; cases hlk
    · exact h.own k c hk hlk
  · rw [Tr.get_put] at hk hm
    split at hk
    · cases hk; cases hlk
    · split at hm
      · cases hm; cases hlm
      · exact h.inj k m ck cm x hk hlk hm hlm hgk hgm
  · rw [Tr.get_put] at hk
    split at hk
    · cases hk
    · exact h.dom k hk

/-- Cells are laid into a block. -/
theorem setCells_block {P : Program} {b off : Nat} {ty : TypeId} {vs : List Value} {w : World} {arr : Array Value} (hb : w.heap[b]? = some (.cells arr ty (0, 0))) (hv : ∀ v, v ∈ vs → v.oneCell' = true) (hs : off + vs.length ≤ arr.size) :
    ∃ arr', (w.setCells b off vs).heap[b]? = some (.cells arr' ty (0, 0)) ∧ arr'.size = arr.size ∧ (w.setCells b off vs).heap.size = w.heap.size ∧
      (∀ k, k ≠ b → (w.setCells b off vs).heap[k]? = w.heap[k]?) ∧ (w.setCells b off vs).tape = w.tape ∧ (w.setCells b off vs).os = w.os ∧ (w.setCells b off vs).output = w.output ∧
      ∀ j : Nat, arr'[j]? = if off ≤ j ∧ j < off + vs.length then vs[j - off]? else arr[j]? := by
  obtain ⟨w', arr', h1, h2, h3, h4, h5, h6, h7, h8, h9⟩ := run_storeCells P (b := b) (ty := ty) vs w arr off 0 hb hv (by omega)
  have h10 := run_storeCells_cells (P := P) b off vs 0 w (fun j hj => by
    rw [cell_of_row w b _ arr ty _ hb]
    have : off + 0 + j < arr.size := by omega
    simp at this ⊢; omega) (fun j hj => frozen_of_row w b _ arr ty hb) hv
  rw [h1] at h10
  simp only [Nat.add_zero] at h10 h9
  cases h10
  exact ⟨arr', h2, h3, h4, h5, h6, h7, h8, h9⟩


/-- A row is made anew. -/
theorem grow_ok {t tx e ty : TypeId} {ei : TypeInfo} {z : Value} (hzs : z.cells.size = ei.size) (ht : E.P.underlying t = some (.slice e)) (hei : E.P.info? e = some ei) (hz : ei.zero = some z) {Z γ w} {base : Option Addr} {n c k : Nat} {sv : Value} {olds news : List AV} {vo vn : List Value}
    (h1 : Src E.P ei.size t (.slice base n c) n vo w) (h2 : Src E.P ei.size tx sv k vn w) (hg : c < n + k) (hb : (n + k) * ei.bytes ≤ 140737488355328) (h63 : n + k ≤ 9223372036854775807)
    (ho : vo.length = olds.length) (hn : vn.length = news.length) (hor : ∀ (j : Nat) a u, olds[j]? = some a → vo[j]? = some u → VRel Z w γ a u) (hnr : ∀ (j : Nat) a u, news[j]? = some a → vn[j]? = some u → VRel Z w γ a u)
    {H : Heap} (hs : Sat Z γ H w) {nid : Nat} (hnid : H.get nid = none) :
    ∃ d ob cc, (Builtin.append_ #[t, tx] ty #[.slice base n c, sv]).run E.P w = .ok (.slice (some ⟨w.heap.size, 0, none⟩) (n + k) cc) (World.alloc { w with drawn := d } ob) ∧
      CRel Z (World.alloc { w with drawn := d } ob) (upd γ nid w.heap.size) w.heap.size (.cells e (olds ++ news)) ∧
      VRel Z (World.alloc { w with drawn := d } ob) (upd γ nid w.heap.size) (.sl nid 0 0 ei.size (n + k) none) (.slice (some ⟨w.heap.size, 0, none⟩) (n + k) cc) := by
  have hrun := run_append_grow_src (P := E.P) (ty := ty) w t tx e ei z ht hei hz base n c vo h1.cellsD sv k vn h2 hg (by omega) (growslice_fits hg hb)
  refine ⟨w.drawn + 1, _, _, hrun, ?_, ?_⟩
  · refine ⟨_, heap_alloc_new _ _, by simp; omega, fun j a u ha hu => ?_⟩
    have hlt : j < (vo ++ vn).length := by have := (List.getElem?_eq_some_iff.1 ha).1; simp at this ⊢; omega
    rw [Array.getElem?_append_left (by simpa using hlt)] at hu
    simp only [List.getElem?_toArray] at hu
    have hmv : ∀ {a u}, VRel Z w γ a u → VRel Z (World.alloc { w with drawn := w.drawn + 1 } (.cells ((vo ++ vn).toArray ++ Builtin.zeroCells z.cells (grownCap w (n + k) c e - (n + k))) e)) (upd γ nid w.heap.size) a u := fun h =>
      (VRel.drawn h (w.drawn + 1)).alloc hs.rng hs.zrng _ (hs.dom _ hnid)
    by_cases hj : j < olds.length
    · rw [List.getElem?_append_left hj] at ha
      rw [List.getElem?_append_left (by omega)] at hu
      exact hmv (hor j a u ha hu)
    · rw [List.getElem?_append_right (by omega)] at ha
      rw [List.getElem?_append_right (by omega), ho] at hu
      exact hmv (hnr _ a u ha hu)
  · have hge := grownCap_ge w (n + k) c e
    have := VRel.sl (Z := Z) (w := World.alloc { w with drawn := w.drawn + 1 } (.cells ((vo ++ vn).toArray ++ Builtin.zeroCells z.cells (grownCap w (n + k) c e - (n + k))) e)) (γ := upd γ nid w.heap.size) (id := nid) (base := 0) (start := 0) (sz := ei.size) (n := n + k) (cap := none) (b := w.heap.size) (c := grownCap w (n + k) c e)
      (by simp [upd]) hge (fun c0 h => by cases h) (fun ty m hm => by
        simp only [World.shape?, heap_alloc_new] at hm
        cases hm
        have e1 := h1.newsLen
        have e2 := h2.newsLen
        simp only [Array.size_append, List.size_toArray, List.length_append, size_zeroCells, hzs, e1, e2]
        rw [Nat.zero_add, Nat.zero_add, ← Nat.add_mul, ← Nat.add_mul]
        exact Nat.mul_le_mul_right _ (by omega))
    simpa using this

theorem argsTwo {args : Array Operand} {x y : Operand} (h : args.toList = [x, y]) : args = #[x, y] := by
  apply Array.ext'; simpa using h
theorem typesTwo {args : Array TypeId} {x y : TypeId} (h : args.toList = [x, y]) : args = #[x, y] := by
  apply Array.ext'; simpa using h

set_option maxHeartbeats 2000000 in
include ok in
theorem valid_append {o : Oper} {t tx : TypeId} {x y : Operand} {args : Array Operand} {ats : Array TypeId} (h : o.op = .call { callee := .builtin .append, args := args, argTypes := ats }) (ha : args.toList = [x, y]) (hat : ats.toList = [t, tx])
    (ρ : Operand → AV) (H : Heap) (nid : Nat) {u : Out} (hu : appendF E t tx (ρ x) (ρ y) H nid = some u) : Valid E.P o ρ H nid u ∧ ((∀ p, p ∈ u.wr → p.1 ∈ u.nd ∨ p.1 = nid) ∧ ∀ i, i ∈ u.nd → ∃ ch, H.get i = some ch ∧ ch.live = true) := by
  have ha := argsTwo ha
  have hat := typesTwo hat
  subst ha; subst hat
  have key : ∀ (a : Act) (w w' : World) v, (Builtin.append_ #[t, tx] o.type #[a.eval x, a.eval y]).run E.P w = .ok v w' → (execOp a.eval o).run E.P w = .ok (.value v) w' := fun a w w' v hv => ex_builtin h (by
    simp only [builtin, Sem.run_bind, List.map_toArray, List.map_cons, List.map_nil, hv]; rfl)
  unfold appendF at hu
  split at hu
  rotate_left
  · cases hu
  rename_i e e' hut hutx
  split at hu
  rotate_left
  · cases hu
  rename_i ei hei
  split at hu
  rotate_left
  · cases hu
  rename_i zl n olds nd1 k news nd2 hz hsd hss
  split at hu
  rotate_left
  · cases hu
  rename_i ho1 hn1 hzl
  have hzl := Nat.eq_of_beq_eq_true hzl
  obtain ⟨z, hz1, hz2, _⟩ := zeros_rel hz
  obtain ⟨ol1, ol2⟩ := srcF_live hsd
  obtain ⟨nl1, nl2⟩ := srcF_live hss
  have live12 : ∀ i, i ∈ nd1 ++ nd2 → ∃ ch, H.get i = some ch ∧ ch.live = true := fun i hi => by
    rcases List.mem_append.1 hi with hi | hi
    · exact ol2 i hi
    · exact nl2 i hi
  have ut := E.und_ok ok hut
  have utx := E.und_ok ok hutx
  have ie := ok.info _ _ hei
  have both : ∀ {H' : Heap} {Z γ w} {a : Act}, Sat Z γ H' w → (∀ x, VRel Z w γ (ρ x) (a.eval x)) → (∀ i, i ∈ nd1 ++ nd2 → H'.get i = H.get i) →
      ∃ base c vo c2 base2 vn, a.eval x = .slice base n c ∧ n ≤ c ∧ vo.length = olds.length ∧ (∀ (j : Nat) a u, olds[j]? = some a → vo[j]? = some u → VRel Z w γ a u) ∧ Src E.P ei.size t (a.eval x) n vo w ∧
        a.eval y = .slice base2 k c2 ∧ vn.length = news.length ∧ (∀ (j : Nat) a u, news[j]? = some a → vn[j]? = some u → VRel Z w γ a u) ∧ Src E.P ei.size tx (a.eval y) k vn w := by
    intro H' Z γ w a hs hx hn
    obtain ⟨base, c, e1, e2, vo, e3, e4, e5⟩ := srcF_ok hsd (fun i hi => hn i (List.mem_append_left _ hi)) hs (hx x) ho1 ut
    obtain ⟨base2, c2, f1, f2, vn, f3, f4, f5⟩ := srcF_ok hss (fun i hi => hn i (List.mem_append_right _ hi)) hs (hx y) hn1 utx
    exact ⟨base, c, vo, c2, base2, vn, e1, e2, e3, e4, e5, f1, f3, f4, f5⟩
  split at hu
  · cases hu
    refine ⟨valid_pure rfl fun Z γ H' w a hs hx hn => ?_, (fun p hp => by cases hp), live12⟩
    obtain ⟨base, c, vo, c2, base2, vn, e1, e2, e3, e4, e5, f1, f3, f4, f5⟩ := both hs hx hn
    have hvn : vn = [] := by have := f5.newsLen; simp at this; exact this
    subst hvn
    refine ⟨a.eval x, hx x, key a w w _ ?_⟩
    rw [e1]
    exact run_append_nothing w t tx o.type e ei ut ie base n c e2 (a.eval y) f5
  rename_i k'
  split at hu
  rotate_left
  · cases hu
  rename_i hb1 hb2
  have hb1 := Nat.le_of_ble_eq_true hb1
  have hb2 := Nat.le_of_ble_eq_true hb2
  split at hu
  · rename_i c0 hcap
    split at hu
    · rename_i hroom
      have hroom := Nat.le_of_ble_eq_true hroom
      split at hu
      rotate_left
      · cases hu
      rename_i id base start sz n' cap' hdx
      split at hu
      rotate_left
      · cases hu
      rename_i ty cs hid
      split at hu
      rotate_left
      · cases hu
      rename_i hle hsz
      have hle := Nat.le_of_ble_eq_true hle
      have hsz := Nat.eq_of_beq_eq_true hsz
      subst hsz
      cases hu
      refine ⟨?_, (fun p hp => by simp at hp; subst hp; exact .inl (by simp)), fun i hi => by
        rcases List.mem_cons.1 hi with rfl | hi
        · exact ⟨_, hid, rfl⟩
        · exact live12 i hi⟩
      intro R Z γ H' w a next Q hs hx hn hf hk
      obtain ⟨bs, c, vo, c2, base2, vn, e1, e2, e3, e4, e5, f1, f3, f4, f5⟩ := both hs hx (fun i hi => hn i (List.mem_cons_of_mem _ hi))
      have hxx := hx x
      rw [hdx, e1] at hxx
      rw [hdx] at hcap
      have hcc : c = c0 := capOf_ok hxx hcap
      subst hcc
      cases hcap
      have hid' := (hn id (by simp)).trans hid
      obtain ⟨b, hb, hzb, arr, ha, hasz, hrel⟩ := hs.own id _ hid' rfl
      cases hxx
      rotate_left
      · omega
      rename_i b' q1 q2 q3 q4
      have hb' : γ id = some b' := by assumption
      rw [hb] at hb'; cases hb'
      have hnl : vn.length = (k' + 1) * ei.size := f5.newsLen
      have hoff : base + start * ei.size + n * ei.size = base + (start + n) * ei.size := by rw [Nat.add_mul]; omega
      obtain ⟨arr', h2, h3, h4, h5, h6, h7, h8, h9⟩ := setCells_block (P := E.P) (off := base + start * ei.size + n * ei.size) (vs := vn) ha f5.one (by omega)
      have hrun := run_append_room_src (P := E.P) (ty := o.type) w t tx e ei ut ie b (base + start * ei.size) n c (a.eval y) (k' + 1) vn f5 hroom
        (fun j hj => by rw [cell_of_row w b _ arr ty _ ha]; simp; omega) (fun j hj => frozen_of_row w b _ arr ty ha)
      have hshape := shape_of_cells ha h2 h3 h5
      refine owp_value (key a w _ _ (by rw [e1]; exact hrun)) ?_ R
      refine hk _ _ Z γ ?_ ?_ (Stp.turn (i := id) (by simp) hb h4 h5 hshape h6 h7 h8) (fun i h1 h2 => absurd h1 h2)
      · have hsh : ∀ ty m, World.shape? (w.setCells b (base + start * ei.size + n * ei.size) vn) b = some (ty, m) → base + (start + c) * ei.size ≤ m := by rw [hshape]; assumption
        exact .sl hb hroom (fun c0 h => by cases h; rfl) hsh
      · refine hs.turn hid' rfl hb h4 h5 hshape ⟨arr', h2, by rw [splice_length hle]; omega, fun j c v hj hv => ?_⟩
        rw [splice_get hle] at hj
        rw [h9] at hv
        have hmono : ∀ {c v}, VRel Z w γ c v → VRel Z (w.setCells b (base + start * ei.size + n * ei.size) vn) γ c v := fun h => h.mono (fun q hq => ⟨hq, h5 q (fun e => hzb (e ▸ hq))⟩) (fun _ _ h => h) (fun _ q _ => hshape q)
        rw [hoff, f3] at hv
        by_cases hin : base + (start + n) * ei.size ≤ j ∧ j < base + (start + n) * ei.size + news.length
        · rw [if_pos hin] at hj hv
          exact hmono (f4 _ _ _ hj hv)
        · rw [if_neg hin] at hj hv
          exact hmono (hrel j c v hj hv)
    · rename_i hroom
      have hroom : ¬ (n + (k' + 1) ≤ c0) := fun h => by rw [Nat.ble_eq_true_of_le h] at hroom; cases hroom
      cases hu
      refine ⟨?_, (fun p hp => by simp at hp; subst hp; exact .inr rfl), live12⟩
      intro R Z γ H' w a next Q hs hx hn hf hk
      obtain ⟨bs, c, vo, c2, base2, vn, e1, e2, e3, e4, e5, f1, f3, f4, f5⟩ := both hs hx hn
      have hxx := hx x
      rw [e1] at hxx
      have hcc : c = c0 := capOf_ok hxx hcap
      subst hcc
      have hn0 : H'.get nid = none := hf nid (Nat.le_refl _) (by unfold room; omega)
      rw [e1] at e5
      obtain ⟨d, ob, cc, g1, g2, g3⟩ := grow_ok (ty := o.type) (hz2.trans hzl) ut ie hz1 e5 f5 (by omega) hb1 hb2 e3 f3 e4 f4 hs hn0
      refine owp_value (key a w _ _ (by rw [e1]; exact g1)) ?_ R
      have hst := Stp.alloc Z γ { w with drawn := d } (· ∈ nd1 ++ nd2) ob nid (hs.dom _ hn0)
      refine hk _ _ Z _ g3 ((hs.drawn d).new hn0 ob _ g2) ⟨hst.gam, hst.zed, hst.size, hst.keep, hst.shape, hst.gnew, hst.znew, hst.tape, hst.os, hst.output⟩ (fun i h1 h2 => ?_)
      by_cases e : i = nid
      · subst e; exact ⟨Nat.le_refl _, by unfold room; omega⟩
      · simp [upd, e] at h2; exact absurd h1 h2
  · rename_i hcap
    split at hu
    rotate_left
    · cases hu
    rename_i id base start sz n' cap' hdx
    split at hu
    rotate_left
    · cases hu
    rename_i ty cs hid
    split at hu
    rotate_left
    · cases hu
    rename_i hb0 hs0 hsz hty
    have hb0 := Nat.eq_of_beq_eq_true hb0
    have hs0 := Nat.eq_of_beq_eq_true hs0
    have hsz := Nat.eq_of_beq_eq_true hsz
    have hty := Nat.eq_of_beq_eq_true hty
    subst hb0; subst hs0; subst hsz; subst hty
    cases hu
    refine ⟨?_, fun p hp => by
      simp at hp
      rcases hp with rfl | rfl
      · exact .inl (by simp)
      · exact .inr rfl, fun i hi => by
      rcases List.mem_cons.1 hi with rfl | hi
      · exact ⟨_, hid, rfl⟩
      · exact live12 i hi⟩
    intro R Z γ H' w a next Q hs hx hn hf hk
    obtain ⟨bs, c, vo, c2, base2, vn, e1, e2, e3, e4, e5, f1, f3, f4, f5⟩ := both hs hx (fun i hi => hn i (List.mem_cons_of_mem _ hi))
    have hid' := (hn id (by simp)).trans hid
    have hn0 : H'.get nid = none := hf nid (Nat.le_refl _) (by unfold room; omega)
    have hidn : id ≠ nid := fun e => by rw [e, hn0] at hid'; cases hid'
    by_cases hroom : n + (k' + 1) ≤ c
    · have hxx := hx x
      rw [hdx, e1] at hxx
      obtain ⟨b, hb, hzb, arr, ha, hasz, hrel⟩ := hs.own id _ hid' rfl
      cases hxx
      rotate_left
      · omega
      rename_i b' q1 q2 q3 q4
      have hb' : γ id = some b' := by assumption
      rw [hb] at hb'; cases hb'
      have hnl : vn.length = (k' + 1) * ei.size := f5.newsLen
      have hshp : 0 + (0 + c) * ei.size ≤ arr.size := (by assumption : ∀ ty m, w.shape? b = some (ty, m) → 0 + (0 + c) * ei.size ≤ m) ty arr.size (by simp [World.shape?, ha])
      have hfit : n * ei.size + vn.length ≤ arr.size := by
        have : (n + (k' + 1)) * ei.size ≤ c * ei.size := Nat.mul_le_mul_right _ hroom
        rw [Nat.add_mul] at this
        simp only [Nat.zero_add] at hshp
        omega
      obtain ⟨arr', h2, h3, h4, h5, h6, h7, h8, h9⟩ := setCells_block (P := E.P) (off := n * ei.size) (vs := vn) ha f5.one hfit
      have hrun := run_append_room_src (P := E.P) (ty := o.type) w t tx ty ei ut ie b 0 n c (a.eval y) (k' + 1) vn f5 hroom
        (fun j hj => by rw [cell_of_row w b _ arr ty _ ha]; simp; omega) (fun j hj => frozen_of_row w b _ arr ty ha)
      have hshape := shape_of_cells ha h2 h3 h5
      simp only [Nat.zero_mul, Nat.add_zero, Nat.zero_add] at e1 hrun
      have hmono : ∀ {c v}, VRel Z w γ c v → VRel Z (w.setCells b (n * ei.size) vn) γ c v := fun h => h.mono (fun q hq => ⟨hq, h5 q (fun e => hzb (e ▸ hq))⟩) (fun _ _ h => h) (fun _ q _ => hshape q)
      have hsat : Sat Z γ (H'.put id (.cells ty (olds ++ news))) (w.setCells b (n * ei.size) vn) := by
        refine hs.turn hid' rfl hb h4 h5 hshape ⟨arr', h2, by simp [ol1, nl1] at hfit ⊢; omega, fun j a u ha' hu' => ?_⟩
        rw [h9] at hu'
        by_cases hj : j < olds.length
        · rw [List.getElem?_append_left hj] at ha'
          rw [if_neg (by omega)] at hu'
          obtain ⟨_, hcut⟩ : ∃ l, cut (0 + 0 * ei.size) (n * ei.size) cs = some l ∧ l = olds := by
            have := hsd
            unfold srcF at this
            rw [hdx] at this
            simp only [hid] at this
            split at this
            · rename_i _ hcut; cases this; exact ⟨_, hcut, rfl⟩
            · cases this
          obtain ⟨hcut, rfl⟩ := hcut
          obtain ⟨_, _, c3⟩ := cut_spec hcut
          rw [c3 j (by omega)] at ha'
          simp only [Nat.zero_mul, Nat.zero_add] at ha'
          exact hmono (hrel j a u ha' hu')
        · rw [List.getElem?_append_right (by omega)] at ha'
          have hlt := (List.getElem?_eq_some_iff.1 ha').1
          rw [if_pos (by omega), ← ol1] at hu'
          exact hmono (f4 _ a u ha' hu')
      have hg2 := hsat.rename (i := id) (j := nid) (by rw [Tr.get_put, if_pos rfl]) rfl hb (by rw [Tr.get_put, if_neg (Ne.symm hidn)]; exact hn0)
      refine owp_value (key a w _ _ (by rw [e1]; exact hrun)) ?_ R
      have hgn : γ nid = none := hs.dom _ hn0
      have hst := Stp.turn (Z := Z) (γ := γ) (nd := (· ∈ id :: (nd1 ++ nd2))) (i := id) (by simp) hb h4 h5 hshape h6 h7 h8
      refine hk _ _ Z (upd γ nid b) ?_ ?_ ⟨fun i x hi => by unfold upd; split <;> simp_all, hst.zed, hst.size, hst.keep, hst.shape, fun i x hi => ?_, hst.znew, hst.tape, hst.os, hst.output⟩ (fun i h1 h2 => ?_)
      · have hsh : ∀ ty m, World.shape? (w.setCells b (n * ei.size) vn) b = some (ty, m) → 0 + (0 + c) * ei.size ≤ m := by rw [hshape]; assumption
        have := VRel.sl (Z := Z) (w := w.setCells b (n * ei.size) vn) (γ := upd γ nid b) (id := nid) (base := 0) (start := 0) (sz := ei.size) (n := n + (k' + 1)) (cap := none) (b := b) (c := c) (by simp [upd]) hroom (fun c0 h => by cases h) hsh
        simpa using this
      · have e2 : ((H'.put id (.cells ty (olds ++ news))).put id .gone).put nid (.cells ty (olds ++ news)) = ((H'.put id (.cells ty (olds ++ news))).put id .gone).put nid (.cells ty (olds ++ news)) := rfl
        refine hg2.congr fun i => ?_
        simp only [Tr.puts, Tr.get_put]
        split
        · rfl
        · split
          · rfl
          · rfl
      · unfold upd at hi
        split at hi
        · cases hi; exact .inr (.inr ⟨id, by simp, hb⟩)
        · exact .inl hi
      · by_cases e : i = nid
        · subst e; exact ⟨Nat.le_refl _, by unfold room; omega⟩
        · simp [upd, e] at h2; exact absurd h1 h2
    · rw [e1] at e5
      have hs' := hs.forget id
      have hn0' : (H'.put id .gone).get nid = none := by rw [Tr.get_put, if_neg (Ne.symm hidn)]; exact hn0
      obtain ⟨d, ob, cc, g1, g2, g3⟩ := grow_ok (ty := o.type) (hz2.trans hzl) ut ie hz1 e5 f5 (by omega) hb1 hb2 e3 f3 e4 f4 hs' hn0'
      refine owp_value (key a w _ _ (by rw [e1]; exact g1)) ?_ R
      have hst := Stp.alloc Z γ { w with drawn := d } (· ∈ id :: (nd1 ++ nd2)) ob nid (hs.dom _ hn0)
      refine hk _ _ Z _ g3 ((hs'.drawn d).new hn0' ob _ g2) ⟨hst.gam, hst.zed, hst.size, hst.keep, hst.shape, hst.gnew, hst.znew, hst.tape, hst.os, hst.output⟩ (fun i h1 h2 => ?_)
      by_cases e : i = nid
      · subst e; exact ⟨Nat.le_refl _, by unfold room; omega⟩
      · simp [upd, e] at h2; exact absurd h1 h2

end
end Go.Sx

namespace Go.Sx
section
variable {E : Env} (ok : E.Ok)

/-! # append of a row of a length that is not written out, to nothing -/
def allB : Nat → (Nat → Bool) → Bool
  | 0, _ => true
  | n + 1, p => match p n with
    | true => allB n p
    | false => false

theorem allB_spec {p : Nat → Bool} : ∀ {n : Nat}, allB n p = true → ∀ i, i < n → p i = true
  | 0, _, i, hi => by omega
  | n + 1, h, i, hi => by
    unfold allB at h
    split at h
    · rename_i hp
      by_cases e : i = n
      · subst e; exact hp
      · exact allB_spec h i (by omega)
    · cases h

theorem allB_of {p : Nat → Bool} : ∀ {n : Nat}, (∀ i, i < n → p i = true) → allB n p = true
  | 0, _ => rfl
  | n + 1, h => by
    unfold allB
    rw [h n (by omega)]
    exact allB_of fun i hi => h i (by omega)

def okRow (sz : Nat) (l : List AV) : Bool :=
  match Nat.beq l.length sz, oneAll l with
  | true, true => true
  | _, _ => false

theorem okRow_spec {sz : Nat} {l : List AV} (h : okRow sz l = true) : l.length = sz ∧ oneAll l = true := by
  unfold okRow at h
  split at h
  · rename_i h1 h2; exact ⟨Nat.eq_of_beq_eq_true h1, h2⟩
  · cases h

def srcR (sz : Nat) (x : AV) (H : Heap) : Option (Nat × (Nat → List AV) × List Nat) :=
  match x with
  | .isl sz' k _ f => match Nat.beq sz sz' with
    | true => some (k, f, [])
    | false => none
  | .sl id base start sz' k _ => match H.get id with
    | some (.row _ sz'' m f) => match Nat.beq sz sz', Nat.beq sz sz'', Nat.beq base 0, Nat.ble (start + k) m with
      | true, true, true, true => some (k, fun i => f (start + i), [id])
      | _, _, _, _ => none
    | _ => none
  | _ => none

theorem idx_lt {i j k sz : Nat} (hi : i < k) (hj : j < sz) : i * sz + j < k * sz := by
  have : (i + 1) * sz ≤ k * sz := Nat.mul_le_mul_right _ hi
  rw [Nat.add_mul] at this; omega

theorem idx_div {i j sz : Nat} (hj : j < sz) : (i * sz + j) / sz = i ∧ (i * sz + j) % sz = j := by
  have h0 : 0 < sz := by omega
  constructor
  · rw [Nat.add_comm, Nat.add_mul_div_right _ _ h0, Nat.div_eq_of_lt hj, Nat.zero_add]
  · rw [Nat.add_comm, Nat.add_mul_mod_self_right, Nat.mod_eq_of_lt hj]

theorem srcR_ok {sz x k f nd} {H : Heap} (h : srcR sz x H = some (k, f, nd)) {H' : Heap} (hn : ∀ i, i ∈ nd → H'.get i = H.get i) {Z γ w v} (hs : Sat Z γ H' w) (hv : VRel Z w γ x v) (hone : ∀ i, i < k → okRow sz (f i) = true) (h0 : 0 < k) {P : Program} {tx e : TypeId} (ht : P.underlying tx = some (.slice e)) :
    ∃ base c, v = .slice base k c ∧ k ≤ c ∧ ∃ news : List Value, news.length = k * sz ∧ (∀ (i j : Nat) a u, i < k → j < sz → (f i)[j]? = some a → news[i * sz + j]? = some u → VRel Z w γ a u) ∧ Src P sz tx v k news w := by
  have one_of : ∀ (vs : Nat → Value), (∀ i j a, i < k → (f i)[j]? = some a → VRel Z w γ a (vs (i * sz + j))) → ∀ u ∈ (List.range (k * sz)).map vs, u.oneCell' = true := fun vs hvs u hu => by
    obtain ⟨q, hq, rfl⟩ := List.mem_map.1 hu
    have hq := List.mem_range.1 hq
    have hsz : 0 < sz := by
      rcases Nat.eq_zero_or_pos sz with h | h
      · rw [h] at hq; omega
      · exact h
    have hi : q / sz < k := Nat.div_lt_of_lt_mul (by rw [Nat.mul_comm]; exact hq)
    have hj := Nat.mod_lt q hsz
    obtain ⟨g1, g2⟩ := okRow_spec (hone _ hi)
    have := hvs (q / sz) (q % sz) _ hi (List.getElem?_eq_getElem (by omega))
    rw [Nat.mul_comm, Nat.div_add_mod] at this
    exact this.oneCell (oneAll_spec g2 _ (List.getElem_mem _))
  have fin : ∀ (a : Addr) (c : Nat) (vs : Nat → Value), k ≤ c → (∀ q, q < k * sz → w.cell? (a.add q) = some (vs q)) → (∀ i j x, i < k → (f i)[j]? = some x → VRel Z w γ x (vs (i * sz + j))) →
      ∃ base c', Value.slice (some a) k c = .slice base k c' ∧ k ≤ c' ∧ ∃ news : List Value, news.length = k * sz ∧ (∀ (i j : Nat) a u, i < k → j < sz → (f i)[j]? = some a → news[i * sz + j]? = some u → VRel Z w γ a u) ∧ Src P sz tx (.slice (some a) k c) k news w := fun a c vs hkc hcell hrel => by
    refine ⟨_, _, rfl, hkc, (List.range (k * sz)).map vs, by simp, fun i j x u hi hj hx hu => ?_, Src.ofSlice w ht a k c _ (by simp) (fun q u hq => ?_) (one_of vs hrel)⟩
    · simp only [List.getElem?_map, Option.map_eq_some_iff] at hu
      obtain ⟨q, hq, rfl⟩ := hu
      obtain ⟨h1, h2⟩ := List.getElem?_eq_some_iff.1 hq
      simp at h1 h2; subst h2
      exact hrel i j x hi hx
    · simp only [List.getElem?_map, Option.map_eq_some_iff] at hq
      obtain ⟨r, hr, rfl⟩ := hq
      obtain ⟨h1, h2⟩ := List.getElem?_eq_some_iff.1 hr
      simp at h1 h2; subst h2
      exact hcell _ h1
  unfold srcR at h
  split at h
  · rename_i sz' k' cap f'
    split at h
    · rename_i hsz
      have hsz := Nat.eq_of_beq_eq_true hsz
      subst hsz
      cases h
      cases hv
      case isl a c vs q1 q2 q3 q4 q5 q6 =>
        have hsp : a.spot = none := by assumption
        have hnc : k ≤ c := by assumption
        have hcell : ∀ (i j : Nat) (x : AV), i < k → (f i)[j]? = some x → w.cell? { block := a.block, off := a.off + i * sz + j, spot := none } = some (vs i j) := by first | exact q6 | exact q5 | exact q4 | exact q1
        have hrel : ∀ (i j : Nat) (x : AV), i < k → (f i)[j]? = some x → VRel Z w noG x (vs i j) := by first | exact q6 | exact q1 | exact q5
        have hfl : ∀ i, i < k → (f i).length = sz := fun i hi => (okRow_spec (hone i hi)).1
        refine fin a c (fun q => vs (q / sz) (q % sz)) hnc (fun q hq => ?_) (fun i j x hi hx => ?_)
        · have hsz : 0 < sz := by
            rcases Nat.eq_zero_or_pos sz with h | h
            · rw [h] at hq; omega
            · exact h
          have hi : q / sz < k := Nat.div_lt_of_lt_mul (by rw [Nat.mul_comm]; exact hq)
          have hj := Nat.mod_lt q hsz
          rw [add_spot hsp, ← hcell (q / sz) (q % sz) _ hi (List.getElem?_eq_getElem (by rw [hfl _ hi]; exact hj))]
          have := Nat.div_add_mod q sz
          rw [Nat.mul_comm] at this
          congr 2; omega
        · have hj : j < sz := by have := (List.getElem?_eq_some_iff.1 hx).1; rw [hfl i hi] at this; exact this
          obtain ⟨g1, g2⟩ := idx_div (i := i) hj
          simp only [g1, g2]
          exact noG_le (hrel i j x hi hx)
      case isl0 => omega
    · cases h
  · rename_i id base start sz' k' cap
    split at h
    · rename_i ty sz'' m f' hid
      split at h
      · rename_i e1 e2 e3 e4
        have e1 := Nat.eq_of_beq_eq_true e1
        have e2 := Nat.eq_of_beq_eq_true e2
        have e3 := Nat.eq_of_beq_eq_true e3
        have e4 := Nat.le_of_ble_eq_true e4
        subst e1; subst e2; subst e3
        cases h
        cases hv
        · rename_i b c q1 q2 q3 q4
          have hb : γ id = some b := by assumption
          have hnc : k ≤ c := by assumption
          obtain ⟨b', hb', _, arr, ha, hasz, hrel⟩ := hs.own id _ ((hn id (by simp)).trans hid) rfl
          rw [hb] at hb'; cases hb'
          have hfl : ∀ i, i < k → (f' (start + i)).length = sz := fun i hi => (okRow_spec (hone i hi)).1
          have hin : ∀ q, q < k * sz → 0 + start * sz + q < arr.size := fun q hq => by
            have : (start + k) * sz ≤ m * sz := Nat.mul_le_mul_right _ e4
            rw [Nat.add_mul] at this; omega
          refine fin ⟨b, 0 + start * sz, none⟩ c (fun q => arr.getD (0 + start * sz + q) undef) hnc (fun q hq => ?_) (fun i j x hi hx => ?_)
          · have := hin q hq
            rw [add_zero', cell_of_row w b _ arr ty _ ha]
            simp at this ⊢
            simp [this]
          · have hj : j < sz := by have := (List.getElem?_eq_some_iff.1 hx).1; rw [hfl i hi] at this; exact this
            have hq := hin _ (idx_lt hi hj)
            have e : 0 + start * sz + (i * sz + j) = (start + i) * sz + j := by rw [Nat.add_mul]; omega
            simp only [e] at hq ⊢
            exact hrel (start + i) j x _ (by omega) hj hx (by simp [hq])
        · omega
      · cases h
    · cases h
  · cases h

def emptyD : AV → Bool
  | .nils => true
  | .sl _ _ _ _ n (some c) => Nat.beq n 0 && Nat.beq c 0
  | .isl _ n (some c) _ => Nat.beq n 0 && Nat.beq c 0
  | _ => false

theorem emptyD_ok {x : AV} (h : emptyD x = true) {Z w γ v} (hv : VRel Z w γ x v) {P : Program} {t e : TypeId} (ht : P.underlying t = some (.slice e)) (sz : Nat) : ∃ base, v = .slice base 0 0 ∧ Src P sz t v 0 [] w := by
  have fin : ∀ base, Src P sz t (.slice base 0 0) 0 [] w := fun base => by
    cases base with
    | none => exact Src.ofNil w ht 0
    | some a => exact Src.ofSlice w ht a 0 0 [] (by simp) (fun j u h => by simp at h) (fun _ h => by cases h)
  unfold emptyD at h
  split at h
  · cases hv; exact ⟨_, rfl, fin _⟩
  · simp only [Bool.and_eq_true] at h
    have h1 := Nat.eq_of_beq_eq_true h.1
    have h2 := Nat.eq_of_beq_eq_true h.2
    subst h1; subst h2
    cases hv
    · rename_i b c q1 q2 q3 q4
      have : c = 0 := (by assumption : ∀ c0, some 0 = some c0 → c = c0) 0 rfl
      subst this
      exact ⟨_, rfl, fin _⟩
    · exact ⟨_, rfl, fin _⟩
  · simp only [Bool.and_eq_true] at h
    have h1 := Nat.eq_of_beq_eq_true h.1
    have h2 := Nat.eq_of_beq_eq_true h.2
    subst h1; subst h2
    cases hv
    · rename_i a c vs q1 q2 q3 q4 q5 q6
      have : c = 0 := (by assumption : ∀ c0, some 0 = some c0 → c = c0) 0 rfl
      subst this
      exact ⟨_, rfl, fin _⟩
    · rename_i a c q1 q2
      have : c = 0 := (by assumption : ∀ c0, some 0 = some c0 → c = c0) 0 rfl
      subst this
      exact ⟨_, rfl, fin _⟩
  · cases h

def okApp (k bytes sz : Nat) (f : Nat → List AV) : Bool :=
  match Nat.blt 0 k, Nat.ble (k * bytes) 140737488355328, Nat.ble k 9223372036854775807 with
  | true, true, true => allB k (fun i => okRow sz (f i))
  | _, _, _ => false

theorem okApp_spec {k bytes sz : Nat} {f : Nat → List AV} (h : okApp k bytes sz f = true) : 0 < k ∧ k * bytes ≤ 140737488355328 ∧ k ≤ 9223372036854775807 ∧ ∀ i, i < k → okRow sz (f i) = true := by
  unfold okApp at h
  split at h
  · rename_i h1 h2 h3; exact ⟨Nat.le_of_ble_eq_true h1, Nat.le_of_ble_eq_true h2, Nat.le_of_ble_eq_true h3, allB_spec h⟩
  · cases h

theorem okApp_of {k bytes sz : Nat} {f : Nat → List AV} (h1 : 0 < k) (h2 : k * bytes ≤ 140737488355328) (h3 : k ≤ 9223372036854775807) (h4 : ∀ i, i < k → okRow sz (f i) = true) : okApp k bytes sz f = true := by
  unfold okApp
  rw [show Nat.blt 0 k = true from Nat.ble_eq_true_of_le h1, Nat.ble_eq_true_of_le h2, Nat.ble_eq_true_of_le h3]
  exact allB_of h4

def appendR (E : Env) (t tx : TypeId) (d s : AV) (H : Heap) (nid : Nat) : Option Out :=
  match E.und t, E.und tx with
  | some (.slice e), some (.slice _) => match E.tt.get e with
    | some ei => match zeros ei, emptyD d, srcR ei.size s H with
      | some zl, true, some (k, f, nd) => match Nat.beq zl.length ei.size with
        | true => some ⟨some (okApp k ei.bytes ei.size f), nd, .sl nid 0 0 ei.size k none, [(nid, .row e ei.size k f)]⟩
        | false => none
      | _, _, _ => none
    | none => none
  | _, _ => none

theorem srcR_live {sz x H k f nd} (h : srcR sz x H = some (k, f, nd)) : ∀ i, i ∈ nd → ∃ ch, H.get i = some ch ∧ ch.live = true := by
  unfold srcR at h
  split at h
  · split at h
    · cases h; intro i h; cases h
    · cases h
  · split at h
    · rename_i hid
      split at h
      · cases h; intro i hi; simp at hi; subst hi; exact ⟨_, hid, rfl⟩
      · cases h
    · cases h
  · cases h

include ok in
theorem valid_appendR {o : Oper} {t tx : TypeId} {x y : Operand} {args : Array Operand} {ats : Array TypeId} (h : o.op = .call { callee := .builtin .append, args := args, argTypes := ats }) (ha : args.toList = [x, y]) (hat : ats.toList = [t, tx])
    (ρ : Operand → AV) (H : Heap) (nid : Nat) {u : Out} (hu : appendR E t tx (ρ x) (ρ y) H nid = some u) (hc : Asked u.c) : Valid E.P o ρ H nid u ∧ ((∀ p, p ∈ u.wr → p.1 = nid) ∧ ∀ i, i ∈ u.nd → ∃ ch, H.get i = some ch ∧ ch.live = true) := by
  have ha := argsTwo ha
  have hat := typesTwo hat
  subst ha; subst hat
  have key : ∀ (a : Act) (w w' : World) v, (Builtin.append_ #[t, tx] o.type #[a.eval x, a.eval y]).run E.P w = .ok v w' → (execOp a.eval o).run E.P w = .ok (.value v) w' := fun a w w' v hv => ex_builtin h (by
    simp only [builtin, Sem.run_bind, List.map_toArray, List.map_cons, List.map_nil, hv]; rfl)
  unfold appendR at hu
  split at hu
  rotate_left
  · cases hu
  rename_i e e' hut hutx
  split at hu
  rotate_left
  · cases hu
  rename_i ei hei
  split at hu
  rotate_left
  · cases hu
  rename_i zl k f nd hz hed hss
  split at hu
  rotate_left
  · cases hu
  rename_i hzl
  have hzl := Nat.eq_of_beq_eq_true hzl
  cases hu
  obtain ⟨hk0, hb1, hb2, hrow⟩ := okApp_spec hc
  obtain ⟨z, hz1, hz2, _⟩ := zeros_rel hz
  have ut := E.und_ok ok hut
  have utx := E.und_ok ok hutx
  have ie := ok.info _ _ hei
  refine ⟨?_, fun p hp => by simp at hp; subst hp; rfl, srcR_live hss⟩
  intro R Z γ H' w a next Q hs hx hn hf hk
  obtain ⟨base, e1, e5⟩ := emptyD_ok hed (hx x) ut ei.size
  obtain ⟨base2, c2, f1, f2, vn, f3, f4, f5⟩ := srcR_ok hss hn hs (hx y) hrow hk0 utx
  have hn0 : H'.get nid = none := hf nid (Nat.le_refl _) (by unfold room; omega)
  rw [e1] at e5
  obtain ⟨d, ob, cc, g1, ⟨arr, g21, g22, g23⟩, g3⟩ := grow_ok (ty := o.type) (olds := []) (news := (List.range (k * ei.size)).map (fun q => ((f (q / ei.size))[q % ei.size]?).getD .any)) (hz2.trans hzl) ut ie hz1 e5 f5 (by omega) (by simpa using hb1) (by omega) rfl (by simpa using f3)
    (fun j a u h => by simp at h) (fun q a u hq hu => by
      simp only [List.getElem?_map, Option.map_eq_some_iff] at hq
      obtain ⟨r, hr, rfl⟩ := hq
      obtain ⟨h1, h2⟩ := List.getElem?_eq_some_iff.1 hr
      simp at h1 h2; subst h2
      cases hx : (f (q / ei.size))[q % ei.size]? with
      | none => simp; exact .any
      | some a =>
        simp only [Option.getD_some]
        have hsz : 0 < ei.size := by
          rcases Nat.eq_zero_or_pos ei.size with h | h
          · rw [h] at h1; omega
          · exact h
        have hi : q / ei.size < k := Nat.div_lt_of_lt_mul (by rw [Nat.mul_comm]; exact h1)
        refine f4 _ _ a u hi (Nat.mod_lt _ hsz) hx ?_
        have := Nat.div_add_mod q ei.size
        rw [Nat.mul_comm] at this
        rw [this]; exact hu) hs hn0
  rw [Nat.zero_add] at g1 g3
  refine owp_value (key a w _ _ (by rw [e1]; exact g1)) ?_ R
  have hst := Stp.alloc Z γ { w with drawn := d } (· ∈ nd) ob nid (hs.dom _ hn0)
  refine hk _ _ Z _ g3 ((hs.drawn d).new hn0 ob _ ⟨arr, g21, by simpa using g22, fun i j x v hi hj hx hv => ?_⟩) ⟨hst.gam, hst.zed, hst.size, hst.keep, hst.shape, hst.gnew, hst.znew, hst.tape, hst.os, hst.output⟩ (fun i h1 h2 => ?_)
  · obtain ⟨q1, q2⟩ := idx_div (i := i) hj
    refine g23 (i * ei.size + j) x v ?_ hv
    simp only [List.nil_append, List.getElem?_map]
    rw [List.getElem?_range (idx_lt hi hj)]
    simp [q1, q2, hx]
  · by_cases e : i = nid
    · subst e; exact ⟨Nat.le_refl _, by unfold room; omega⟩
    · simp [upd, e] at h2; exact absurd h1 h2

end
end Go.Sx
