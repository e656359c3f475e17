/-
  The abstract heap, what relates it to a world, reading and writing of cells, new blocks.
-/
import Derived.Test.YtnjoaffnfjlcaaaB1
namespace Go.Proofs.Ytnjoaffnfjlcaaa
namespace B
open Go

/-- The blocks that nothing turns; where the activation began. -/
structure Fz where
  low : Nat → Prop
  b : Nat

/-- The record of a range over a function. -/
structure ALoop where
  state : LoopState
  pending : Option Code
  tmps : List Value
  params : Array Tmp
  assign : Code
  body : Code

inductive AObj where
  | box (cs : List Value) (e : TypeId)
  | arr (cs : List Value) (st : List Nat) (g : Nat) (e : TypeId) (ro : Bool)
  | map (es : List (Value × Value))
  | loop (r : ALoop)

structure RowV where
  cs : List Value
  st : Nat → Nat
  g : Nat
  e : TypeId
  ro : Bool

def AObj.view : AObj → Option RowV
  | .box cs e => some ⟨cs, fun _ => 0, 0, e, false⟩
  | .arr cs st g e ro => some ⟨cs, fun j => st.getD j 0, g, e, ro⟩
  | .map _ => none
  | .loop _ => none

structure AHeap where
  next : Nat
  get : Nat → Option AObj

def AHeap.set (H : AHeap) (i : Nat) (o : AObj) : AHeap := ⟨H.next, fun j => if j = i then some o else H.get j⟩
def AHeap.push (H : AHeap) (o : AObj) : AHeap := ⟨H.next + 1, fun j => if j = H.next then some o else H.get j⟩
def AHeap.view (H : AHeap) (i : Nat) : Option RowV := (H.get i).bind AObj.view

def AHeap.cell (H : AHeap) (a : Addr) : Option Value :=
  match H.view a.block with
  | some r => match r.cs[a.off]? with
    | some v => if r.st a.off ≤ agen a then some v else none
    | none => none
  | none => none

def AHeap.readN (H : AHeap) (a : Addr) : Nat → Option (List Value)
  | 0 => some []
  | n + 1 => match H.cell a with
    | some v => match AHeap.readN H (addA a 1) n with
      | some vs => some (v :: vs)
      | none => none
    | none => none

def AHeap.setCell (H : AHeap) (a : Addr) (v : Value) : Option AHeap :=
  if flatV v then
    match H.get a.block with
    | some (.box cs e) => if agen a = 0 ∧ a.off < cs.length then some (H.set a.block (.box (cs.set a.off v) e)) else none
    | some (.arr cs st g e false) => if agen a = g ∧ a.off < cs.length ∧ a.off < st.length then some (H.set a.block (.arr (cs.set a.off v) (st.set a.off g) g e false)) else none
    | _ => none
  else none

def AHeap.setN (H : AHeap) (a : Addr) : List Value → Option AHeap
  | [] => some H
  | v :: vs => match H.setCell a v with
    | some H' => AHeap.setN H' (addA a 1) vs
    | none => none

/-! ### A heap that came of another -/
def AHeap.Fresh (H : AHeap) : Prop := ∀ i, H.next ≤ i → H.get i = none

structure AHeap.le (H H' : AHeap) : Prop where
  next : H.next ≤ H'.next
  fresh : H.Fresh → H'.Fresh

theorem AHeap.le_refl (H : AHeap) : AHeap.le H H := ⟨Nat.le_refl _, id⟩
theorem AHeap.le_trans {H H' H'' : AHeap} (h : AHeap.le H H') (g : AHeap.le H' H'') : AHeap.le H H'' := ⟨Nat.le_trans h.next g.next, fun f => g.fresh (h.fresh f)⟩
theorem AHeap.le_push (H : AHeap) (o : AObj) : AHeap.le H (H.push o) := ⟨Nat.le_succ _, fun f i hi => by
  have hi' : H.next + 1 ≤ i := hi
  show (if i = H.next then some o else H.get i) = none
  rw [if_neg (by omega)]; exact f i (by omega)⟩
theorem AHeap.le_set {H : AHeap} {i : Nat} {x o : AObj} (h : H.get i = some x) : AHeap.le H (H.set i o) := ⟨Nat.le_refl _, fun f j hj => by
  have hj' : H.next ≤ j := hj
  show (if j = i then some o else H.get j) = none
  split
  · rename_i e; subst e; rw [f j hj'] at h; simp at h
  · exact f j hj'⟩
theorem AHeap.le_of {H H' : AHeap} {i : Nat} {x : AObj} (hn : H'.next = H.next) (hg : ∀ j, j ≠ i → H'.get j = H.get j) (h : H.get i = some x) : AHeap.le H H' := ⟨by rw [hn]; exact Nat.le_refl _, fun f j hj => by
  rw [hn] at hj
  have : j ≠ i := by intro e; subst e; rw [f j hj] at h; simp at h
  rw [hg j this]; exact f j hj⟩

/-! ### What relates a heap to a world -/
structure RowOk (P : Program) (N0 : Fz) (β : Emb) (w : World) (r : RowV) (k b o : Nat) (c : Array Value) (fz : Nat × Nat) : Prop where
  blk : w.heap[b]? = some (.cells c r.e fz)
  size : c.size = β.bsz b
  elem : r.ro = false → ∃ i, P.info? r.e = some i ∧ i.size = β.bes b
  robes : r.ro = true → β.bes b = 0
  cell : ∀ (j : Nat) (v : Value), r.cs[j]? = some v → r.st j ≤ k → ∃ v', c[o + j]? = some v' ∧ VRel β v v'
  own : r.ro = false → o = 0 ∧ ¬ N0.low b ∧ fz = (0, 0)
  gen : k ≤ r.g

inductive ERels (β : Emb) : List (Value × Value) → List MapEntry → Prop
  | nil : ERels β [] []
  | cons {k v : Value} {e : MapEntry} {l : List (Value × Value)} {l' : List MapEntry} (hk : closedV k = true) (he : e.key = k) (hv : VRel β v e.val) (g : ERels β l l') : ERels β ((k, v) :: l) (e :: l')

theorem ERels.monoU {β γ : Emb} (le : Emb.leU β γ) {l : List (Value × Value)} {l' : List MapEntry} (h : ERels β l l') : ERels γ l l' := by
  induction h with
  | nil => exact .nil
  | cons hk he hv _ ih => exact .cons hk he (VRel.monoU le hv) ih

theorem ERels.mono {β γ : Emb} (le : Emb.le β γ) {l : List (Value × Value)} {l' : List MapEntry} (h : ERels β l l') : ERels γ l l' := h.monoU le.u

structure LRel (β : Emb) (r : ALoop) (r' : Loop) : Prop where
  state : r'.state = r.state
  pending : r'.pending = r.pending
  tmps : VRels β r.tmps r'.tmps.toList
  params : r'.params = r.params
  assign : r'.assign = r.assign
  body : r'.body = r.body

theorem LRel.monoU {β γ : Emb} (le : Emb.leU β γ) {r : ALoop} {r' : Loop} (h : LRel β r r') : LRel γ r r' := ⟨h.state, h.pending, VRels.monoU le h.tmps, h.params, h.assign, h.body⟩

structure HRel (P : Program) (N0 : Fz) (β : Emb) (H : AHeap) (w : World) : Prop where
  row : ∀ (i k b o : Nat) (r : RowV), β.row i k = some (b, o) → H.view i = some r → ∃ c fz, RowOk P N0 β w r k b o c fz
  map : ∀ (i b : Nat) (es : List (Value × Value)), β.map i = some b → H.get i = some (.map es) → ¬ N0.low b ∧ ∃ ces clock, w.heap[b]? = some (.map ces clock) ∧ ERels β es ces.toList
  dom : ∀ (i k : Nat) (p : Nat × Nat), β.row i k = some p → ∃ r, H.view i = some r
  domM : ∀ (i b : Nat), β.map i = some b → ∃ es, H.get i = some (.map es)
  fresh : ∀ i, H.next ≤ i → H.get i = none
  stle : ∀ (i : Nat) (r : RowV), H.view i = some r → ∀ j, r.st j ≤ r.g
  inj : ∀ (i k b o i' k' o' : Nat) (r r' : RowV), β.row i k = some (b, o) → β.row i' k' = some (b, o') → H.view i = some r → H.view i' = some r' → i = i' ∨ (r.ro = true ∧ r'.ro = true)
  injM : ∀ (i i' b : Nat), β.map i = some b → β.map i' = some b → i = i'
  base : ∀ b, N0.low b → b < w.heap.size
  nx : β.nx = H.next
  liveR : ∀ (i k : Nat) (p : Nat × Nat), β.row i k = some p → β.live i = true
  liveM : ∀ (i b : Nat), β.map i = some b → β.live i = true
  live : ∀ i, β.live i = true → i < H.next
  lp : ∀ (i b : Nat), β.loop i = some b → ∃ r r', H.get i = some (.loop r) ∧ ¬ N0.low b ∧ w.heap[b]? = some (.loop r') ∧ LRel β r r'
  injL : ∀ (i i' b : Nat), β.loop i = some b → β.loop i' = some b → i = i'

theorem view_loop {H : AHeap} {i : Nat} {r : ALoop} (h : H.get i = some (.loop r)) : H.view i = none := by unfold AHeap.view; rw [h]; rfl

/-- Nothing that lay below has turned. -/
structure Fr (N0 : Fz) (w w' : World) : Prop where
  size : w.heap.size ≤ w'.heap.size
  low : ∀ b, N0.low b → w'.heap[b]? = w.heap[b]?
  os : w'.os = w.os
  out : w'.output = w.output

theorem Fr.refl (N0 : Fz) (w : World) : Fr N0 w w := ⟨Nat.le_refl _, fun _ _ => rfl, rfl, rfl⟩
theorem Fr.trans {N0 : Fz} {a b c : World} (h : Fr N0 a b) (g : Fr N0 b c) : Fr N0 a c := ⟨Nat.le_trans h.size g.size, fun i hi => (g.low i hi).trans (h.low i hi), g.os.trans h.os, g.out.trans h.out⟩

section
variable {P : Program} {N0 : Fz} {β : Emb} {H : AHeap} {w : World}

theorem HRel.lt_of_get (h : HRel P N0 β H w) {i : Nat} {o : AObj} (hg : H.get i = some o) : i < H.next := by
  rcases Nat.lt_or_ge i H.next with hl | hl
  · exact hl
  · rw [h.fresh i hl] at hg; simp at hg

theorem HRel.rowblk_lt (h : HRel P N0 β H w) {i k b o : Nat} (hr : β.row i k = some (b, o)) : b < w.heap.size := by
  obtain ⟨r, hv⟩ := h.dom _ _ _ hr
  obtain ⟨c, fz, hok⟩ := h.row _ _ _ _ _ hr hv
  have := hok.blk
  rcases Nat.lt_or_ge b w.heap.size with hl | hl
  · exact hl
  · rw [Array.getElem?_eq_none hl] at this; simp at this

theorem HRel.mapblk_lt (h : HRel P N0 β H w) {i b : Nat} (hr : β.map i = some b) : b < w.heap.size := by
  obtain ⟨es, hg⟩ := h.domM _ _ hr
  obtain ⟨_, c, cl, this, _⟩ := h.map _ _ _ hr hg
  rcases Nat.lt_or_ge b w.heap.size with hl | hl
  · exact hl
  · rw [Array.getElem?_eq_none hl] at this; simp at this

/-! ### Reading -/
theorem HRel.cell_run (h : HRel P N0 β H w) {a c : Addr} {v : Value} (hc : H.cell a = some v) (ha : ARel β a c) : ∃ v', w.cell? c = some v' ∧ VRel β v v' := by
  obtain ⟨b, o, hr, rfl⟩ := ha
  unfold AHeap.cell at hc
  obtain ⟨r, hv⟩ := h.dom _ _ _ hr
  rw [hv] at hc
  obtain ⟨c, fz, hok⟩ := h.row _ _ _ _ _ hr hv
  dsimp only at hc
  cases hcs : r.cs[a.off]? with
  | none => rw [hcs] at hc; simp at hc
  | some u =>
    rw [hcs] at hc
    dsimp only at hc
    split at hc
    · rename_i hst
      obtain ⟨v', h1, h2⟩ := hok.cell _ _ hcs hst
      have : u = v := by simpa using hc
      subst this
      refine ⟨v', ?_, h2⟩
      unfold World.cell?
      rw [hok.blk]
      simpa using h1
    · simp at hc

theorem load_run {c : Addr} {v : Value} (h : w.cell? c = some v) : (load c).run P w = .ok v w := by
  simp [load, Sem.run, h]

theorem addA_block (a : Addr) (n : Nat) : (addA a n).block = a.block := rfl
theorem addA_zero (a : Addr) : addA a 0 = a := by cases a; rfl
theorem addA_add (a : Addr) (m n : Nat) : addA (addA a m) n = addA a (m + n) := by simp [addA, Nat.add_assoc]

theorem HRel.loadCellsFrom_run (h : HRel P N0 β H w) {a c : Addr} (ha : ARel β a c) : ∀ (n i : Nat) (acc : Array Value) (vs : List Value), H.readN (addA a i) n = some vs →
    ∃ vs', (loadCellsFrom c i n acc).run P w = .ok (acc ++ vs'.toArray) w ∧ VRels β vs vs' := by
  intro n
  induction n with
  | zero =>
    intro i acc vs hv
    simp [AHeap.readN] at hv
    subst hv
    exact ⟨[], by simp [loadCellsFrom, pure, Sem.run], .nil⟩
  | succ n ih =>
    intro i acc vs hv
    unfold AHeap.readN at hv
    cases h1 : H.cell (addA a i) with
    | none => rw [h1] at hv; simp at hv
    | some v =>
      rw [h1, addA_add] at hv
      dsimp only at hv
      cases h2 : H.readN (addA a (i + 1)) n with
      | none => rw [h2] at hv; simp at hv
      | some us =>
        rw [h2] at hv
        simp at hv
        subst hv
        obtain ⟨v', hv', hvr⟩ := h.cell_run h1 (ha.add i)
        obtain ⟨us', hu, hur⟩ := ih (i + 1) (acc.push v') us h2
        refine ⟨v' :: us', ?_, .cons hvr hur⟩
        unfold loadCellsFrom
        rw [Sem.run_bind, load_run hv', Result.andThen_ok, hu]
        simp

theorem HRel.loadCells_run (h : HRel P N0 β H w) {a c : Addr} (ha : ARel β a c) {n : Nat} {vs : List Value} (hv : H.readN a n = some vs) :
    ∃ vs', (loadCells c n).run P w = .ok vs'.toArray w ∧ VRels β vs vs' := by
  obtain ⟨vs', h1, h2⟩ := h.loadCellsFrom_run ha n 0 #[] vs (by rw [addA_zero]; exact hv)
  exact ⟨vs', by unfold loadCells; rw [h1]; simp, h2⟩

/-! ### Writing -/
theorem setCell_view {H H' : AHeap} {a : Addr} {v : Value} (hs : H.setCell a v = some H') : flatV v = true ∧ H'.next = H.next ∧ (∀ j, j ≠ a.block → H'.get j = H.get j) ∧
    ∃ r r', H.view a.block = some r ∧ H'.view a.block = some r' ∧ r.ro = false ∧ agen a = r.g ∧ a.off < r.cs.length ∧ r'.cs = r.cs.set a.off v ∧
      (∀ j, r'.st j = if j = a.off then r.g else r.st j) ∧ r'.g = r.g ∧ r'.e = r.e ∧ r'.ro = false := by
  unfold AHeap.setCell at hs
  split at hs
  · rename_i hf
    split at hs
    · rename_i cs e hg
      split at hs
      · rename_i hc
        simp at hs; subst hs
        have e1 : H.view a.block = AObj.view (.box cs e) := by unfold AHeap.view; rw [hg]; rfl
        have e2 : (H.set a.block (.box (cs.set a.off v) e)).view a.block = AObj.view (.box (cs.set a.off v) e) := by simp [AHeap.view, AHeap.set]
        refine ⟨hf, rfl, fun j hj => by simp [AHeap.set, hj], _, _, e1, e2, rfl, hc.1, hc.2, rfl, ?_, rfl, rfl, rfl⟩
        intro j; simp
      · simp at hs
    · rename_i cs st g e hg
      split at hs
      · rename_i hc
        simp at hs; subst hs
        have e1 : H.view a.block = AObj.view (.arr cs st g e false) := by unfold AHeap.view; rw [hg]; rfl
        have e2 : (H.set a.block (.arr (cs.set a.off v) (st.set a.off g) g e false)).view a.block = AObj.view (.arr (cs.set a.off v) (st.set a.off g) g e false) := by simp [AHeap.view, AHeap.set]
        refine ⟨hf, rfl, fun j hj => by simp [AHeap.set, hj], _, _, e1, e2, rfl, hc.1, hc.2.1, rfl, ?_, rfl, rfl, rfl⟩
        intro j
        by_cases hj : j = a.off
        · subst hj; simp [List.getD, hc.2.2]
        · simp [List.getD, hj, List.getElem?_set_ne (Ne.symm hj)]
      · simp at hs
    · simp at hs
  · simp at hs

def putCell (c : Addr) (v : Value) : Obj → Obj
  | .cells cs elem frozen => .cells (if c.spot.isSome then cs else cs.setIfInBounds c.off v) elem frozen
  | o => o

theorem heap_setCell (w : World) (c : Addr) (v : Value) (b : Nat) : (w.setCell c v).heap[b]? = if b = c.block then (w.heap[b]?).map (putCell c v) else w.heap[b]? := by
  unfold World.setCell
  simp only [Array.getElem?_modify]
  by_cases h : b = c.block
  · subst h
    simp only [if_true]
    congr 1
  · simp [h, Ne.symm h]

theorem HRel.setCell (h : HRel P N0 β H w) {H' : AHeap} {a c : Addr} {v v' : Value} (hs : H.setCell a v = some H') (ha : ARel β a c) (hv : VRel β v v') :
    (∃ u, w.cell? c = some u) ∧ w.frozen? c = false ∧ HRel P N0 β H' (w.setCell c v') ∧ Fr N0 w (w.setCell c v') := by
  obtain ⟨hf, hn, hoth, r, r', hr, hr', hro, hg, hoff, hcs, hst, hg', he', hro'⟩ := setCell_view hs
  obtain ⟨b, o, hb, rfl⟩ := ha
  obtain ⟨cc, fz, hok⟩ := h.row _ _ _ _ _ hb hr
  obtain ⟨ho, hN, hfz⟩ := hok.own hro
  subst ho; subst hfz
  have hblk := hok.blk
  have hview : ∀ j, j ≠ a.block → H'.view j = H.view j := fun j hj => by unfold AHeap.view; rw [hoth j hj]
  have hcell : ∀ i k b' o' rr, β.row i k = some (b', o') → H.view i = some rr → i ≠ a.block → b' ≠ b := by
    intro i k b' o' rr h1 h2 h3 h4
    subst h4
    rcases h.inj _ _ _ _ _ _ _ _ _ h1 hb h2 hr with e | ⟨_, e⟩
    · exact h3 e
    · rw [hro] at e; simp at e
  have hst0 : r.st a.off ≤ agen a := by rw [hg]; exact h.stle _ _ hr _
  have hlt : a.off < cc.size := by
    obtain ⟨u, hu, _⟩ := hok.cell a.off _ (List.getElem?_eq_getElem hoff) hst0
    have := (Array.getElem?_eq_some_iff.1 hu).1
    omega
  have hblk' : (w.setCell ⟨b, 0 + a.off, none⟩ v').heap[b]? = some (.cells (cc.setIfInBounds a.off v') r.e (0, 0)) := by
    rw [heap_setCell]; simp [hblk, putCell]
  have hblko : ∀ b', b' ≠ b → (w.setCell ⟨b, 0 + a.off, none⟩ v').heap[b']? = w.heap[b']? := fun b' hb' => by rw [heap_setCell]; simp [hb']
  refine ⟨?_, ?_, ?_, ?_⟩
  · unfold World.cell?
    rw [hblk]
    simp only [Option.isSome_none, Bool.false_eq_true, if_false, Nat.zero_add]
    exact ⟨_, Array.getElem?_eq_getElem hlt⟩
  · unfold World.frozen?
    rw [hblk]; simp
  · constructor
    · intro i k b' o' rr h1 h2
      by_cases hi : i = a.block
      · subst hi
        rw [hr'] at h2
        obtain rfl : r' = rr := by simpa using h2
        obtain ⟨c2, fz2, hok2⟩ := h.row _ _ _ _ _ h1 hr
        by_cases hbb : b' = b
        · subst hbb
          have hb2 := hok2.blk
          rw [hblk] at hb2
          obtain ⟨rfl, rfl⟩ : cc = c2 ∧ (0, 0) = fz2 := by simpa using hb2
          obtain ⟨ho2, hN2, _⟩ := hok2.own hro
          subst ho2
          refine ⟨_, _, { blk := by rw [he']; exact hblk', size := by simp [hok.size], elem := fun _ => by rw [he']; exact hok.elem hro, robes := fun e => by rw [hro'] at e; simp at e, cell := ?_, own := fun _ => ⟨rfl, hN, rfl⟩, gen := by rw [hg']; exact hok2.gen }⟩
          intro j u hj hju
          rw [hcs] at hj
          by_cases hja : j = a.off
          · subst hja
            rw [List.getElem?_set_self hoff] at hj
            obtain rfl : v = u := by simpa using hj
            exact ⟨v', by simp [hlt], hv⟩
          · rw [List.getElem?_set_ne (Ne.symm hja)] at hj
            rw [hst j, if_neg hja] at hju
            obtain ⟨u', hu', hur⟩ := hok2.cell j u hj hju
            refine ⟨u', ?_, hur⟩
            rw [Array.getElem?_setIfInBounds_ne (by omega)]
            exact hu'
        · refine ⟨c2, fz2, { blk := by rw [he', hblko _ hbb]; exact hok2.blk, size := hok2.size, elem := fun _ => by rw [he']; exact hok2.elem hro, robes := fun e => by rw [hro'] at e; simp at e, cell := ?_, own := fun _ => hok2.own hro, gen := by rw [hg']; exact hok2.gen }⟩
          intro j u hj hju
          rw [hcs] at hj
          by_cases hja : j = a.off
          · subst hja
            rw [hst, if_pos rfl] at hju
            have hk : k = r.g := Nat.le_antisymm hok2.gen hju
            rw [hk, ← hg, hb] at h1
            simp at h1
            exact absurd h1.1.symm hbb
          · rw [List.getElem?_set_ne (Ne.symm hja)] at hj
            rw [hst j, if_neg hja] at hju
            exact hok2.cell j u hj hju
      · rw [hview _ hi] at h2
        obtain ⟨c2, fz2, hok2⟩ := h.row _ _ _ _ _ h1 h2
        exact ⟨c2, fz2, { blk := by rw [hblko _ (hcell _ _ _ _ _ h1 h2 hi)]; exact hok2.blk, size := hok2.size, elem := hok2.elem, robes := hok2.robes, cell := hok2.cell, own := hok2.own, gen := hok2.gen }⟩
    · intro i b' es h1 h2
      have hi : i ≠ a.block := by
        intro e; subst e
        obtain ⟨es', hes'⟩ := h.domM _ _ h1
        unfold AHeap.view at hr; rw [hes'] at hr; simp [AObj.view] at hr
      rw [hoth _ hi] at h2
      obtain ⟨h3, ces, cl, h4, h5⟩ := h.map _ _ _ h1 h2
      have hbb : b' ≠ b := by intro e; subst e; rw [hblk] at h4; simp at h4
      exact ⟨h3, ces, cl, by rw [hblko _ hbb]; exact h4, h5⟩
    · intro i k p h1
      by_cases hi : i = a.block
      · subst hi; exact ⟨_, hr'⟩
      · rw [hview _ hi]; exact h.dom _ _ _ h1
    · intro i b' h1
      have hi : i ≠ a.block := by
        intro e; subst e
        obtain ⟨es', hes'⟩ := h.domM _ _ h1
        unfold AHeap.view at hr; rw [hes'] at hr; simp [AObj.view] at hr
      rw [hoth _ hi]; exact h.domM _ _ h1
    · intro i hi
      rw [hn] at hi
      have hne : i ≠ a.block := by
        intro e; subst e
        have := h.fresh _ hi
        unfold AHeap.view at hr; rw [this] at hr; simp at hr
      rw [hoth _ hne]; exact h.fresh _ hi
    · intro i rr h1 j
      by_cases hi : i = a.block
      · subst hi
        rw [hr'] at h1
        obtain rfl : r' = rr := by simpa using h1
        rw [hst, hg']
        split
        · exact Nat.le_refl _
        · exact h.stle _ _ hr j
      · rw [hview _ hi] at h1; exact h.stle _ _ h1 j
    · intro i k b1 o1 i' k' o1' r1 r2 h1 h2 h3 h4
      have key : ∀ i rr, ((if i = a.block then some r' else H.view i) = some rr) → ∃ r0, H.view i = some r0 ∧ r0.ro = rr.ro := by
        intro i rr he
        split at he
        · rename_i e; subst e
          obtain rfl : r' = rr := by simpa using he
          exact ⟨r, hr, by rw [hro, hro']⟩
        · exact ⟨rr, he, rfl⟩
      have hvw : ∀ i, H'.view i = if i = a.block then some r' else H.view i := by
        intro i; split
        · rename_i e; subst e; exact hr'
        · rename_i e; exact hview _ e
      rw [hvw] at h3 h4
      obtain ⟨q1, hq1, e1⟩ := key _ _ h3
      obtain ⟨q2, hq2, e2⟩ := key _ _ h4
      rw [← e1, ← e2]
      exact h.inj _ _ _ _ _ _ _ _ _ h1 h2 hq1 hq2
    · exact h.injM
    · rw [World.size_setCell]; exact h.base
    · rw [hn]; exact h.nx
    · exact h.liveR
    · exact h.liveM
    · intro i hi; rw [hn]; exact h.live i hi
    · intro i b' h1
      obtain ⟨q, q', h2, h3, h4, h5⟩ := h.lp _ _ h1
      have hi : i ≠ a.block := by
        intro e; subst e; rw [view_loop h2] at hr; simp at hr
      have hbb : b' ≠ b := by intro e; subst e; rw [hblk] at h4; simp at h4
      exact ⟨q, q', by rw [hoth _ hi]; exact h2, h3, by rw [hblko _ hbb]; exact h4, h5⟩
    · exact h.injL
  · refine ⟨by rw [World.size_setCell]; exact Nat.le_refl _, fun b' hb' => hblko _ (fun e => hN (e ▸ hb')), rfl, rfl⟩

theorem store_run {c : Addr} {v u : Value} (hf : flatV v = true) (h : w.cell? c = some u) (hz : w.frozen? c = false) : (store c v).run P w = .ok () (w.setCell c v) := by
  cases v <;> simp_all [store, Sem.run, flatV]

theorem HRel.storeCells_run {H : AHeap} {w : World} (h : HRel P N0 β H w) {a c : Addr} (ha : ARel β a c) : ∀ (vs vs' : List Value) (i : Nat) {H' : AHeap}, H.setN (addA a i) vs = some H' → VRels β vs vs' →
    ∃ w', (storeCells c vs' i).run P w = .ok () w' ∧ HRel P N0 β H' w' ∧ Fr N0 w w' := by
  intro vs
  induction vs generalizing H w with
  | nil =>
    intro vs' i H' hs hv
    cases hv
    simp [AHeap.setN] at hs; subst hs
    exact ⟨w, by simp [storeCells, pure, Sem.run], h, Fr.refl _ _⟩
  | cons v vs ih =>
    intro vs' i H' hs hv
    cases hv with
    | cons hv1 hv2 =>
      unfold AHeap.setN at hs
      cases h1 : H.setCell (addA a i) v with
      | none => rw [h1] at hs; simp at hs
      | some H1 =>
        rw [h1, addA_add] at hs
        dsimp only at hs
        have hf := (setCell_view h1).1
        obtain ⟨⟨u, hu⟩, hz, hr, hfr⟩ := h.setCell h1 (ha.add i) hv1
        obtain ⟨w', hw', hr', hfr'⟩ := ih hr _ (i + 1) hs hv2
        refine ⟨w', ?_, hr', hfr.trans hfr'⟩
        unfold storeCells
        rw [Sem.run_bind, store_run (by rw [VRel.flat hv1]; exact hf) hu hz, Result.andThen_ok, hw']
end

end B
end Go.Proofs.Ytnjoaffnfjlcaaa
