/-
  From a world to the abstract heap; from the abstract machine's answer to a row's post.
-/
import Derived.Test.YtnjoaffnfjlcaaaB22
import Derived.ProofKit
import Derived.ReadAgain
namespace Go.Proofs.Ytnjoaffnfjlcaaa
namespace B
open Go

/-! ### The world as an abstract heap: every row of it is there to be read alone -/
def isRow (W : World) (i : Nat) : Bool := match W.heap[i]? with
  | some (.cells _ _ _) => true
  | _ => false

def embOf (W : World) : Emb where
  row i k := if k = 0 ∧ isRow W i = true then some (i, 0) else none
  map _ := none
  loop _ := none
  bsz b := match W.heap[b]? with
    | some (.cells c _ _) => c.size
    | _ => 0
  bes _ := 0
  live i := isRow W i
  nx := W.heap.size

open Classical in
noncomputable def stampOf (W : World) (v : Value) : Nat := if VRel (embOf W) v v then 0 else 1

noncomputable def heapOf (W : World) : AHeap where
  next := W.heap.size
  get i := match W.heap[i]? with
    | some (.cells c e _) => some (.arr c.toList (c.toList.map (stampOf W)) 1 e true)
    | _ => none

theorem isRow_some {W : World} {i : Nat} (h : isRow W i = true) : ∃ c e fz, W.heap[i]? = some (.cells c e fz) := by
  unfold isRow at h
  split at h
  · rename_i c e fz hb; exact ⟨c, e, fz, hb⟩
  · simp at h

theorem stampOf_le {W : World} (v : Value) : stampOf W v ≤ 1 := by unfold stampOf; split <;> omega
theorem stampOf_zero {W : World} {v : Value} (h : stampOf W v ≤ 0) : VRel (embOf W) v v := by
  unfold stampOf at h
  split at h
  · assumption
  · omega

theorem heapOf_view {W : World} {i : Nat} {c : Array Value} {e : TypeId} {fz : Nat × Nat} (h : W.heap[i]? = some (.cells c e fz)) :
    (heapOf W).view i = some ⟨c.toList, fun j => (c.toList.map (stampOf W)).getD j 0, 1, e, true⟩ := by
  simp [AHeap.view, heapOf, h, AObj.view]

theorem stamps_le {W : World} (l : List Value) (j : Nat) : (l.map (stampOf W)).getD j 0 ≤ 1 := by
  rw [List.getD_eq_getElem?_getD, List.getElem?_map]
  cases l[j]? with
  | none => simp
  | some v => simpa using stampOf_le v

theorem heapOf_rel (P : Program) (W : World) : HRel P ⟨fun b => b < W.heap.size, 0⟩ (embOf W) (heapOf W) W := by
  have hrow : ∀ {i k b o : Nat}, (embOf W).row i k = some (b, o) → k = 0 ∧ b = i ∧ o = 0 ∧ isRow W i = true := by
    intro i k b o h
    unfold embOf at h
    dsimp only at h
    split at h
    · rename_i hc
      simp only [Option.some.injEq, Prod.mk.injEq] at h
      exact ⟨hc.1, h.1.symm, h.2.symm, hc.2⟩
    · simp at h
  have hview : ∀ {i : Nat} {r : RowV}, (heapOf W).view i = some r → ∃ c e fz, W.heap[i]? = some (.cells c e fz) ∧ r = ⟨c.toList, fun j => (c.toList.map (stampOf W)).getD j 0, 1, e, true⟩ := by
    intro i r h
    unfold AHeap.view heapOf at h
    dsimp only at h
    split at h
    · rename_i c e fz hb
      simp only [Option.bind_some, AObj.view, Option.some.injEq] at h
      exact ⟨c, e, fz, hb, h.symm⟩
    · simp at h
  constructor
  · intro i k b o r h1 h2
    obtain ⟨rfl, rfl, rfl, _⟩ := hrow h1
    obtain ⟨c, e, fz, hb, rfl⟩ := hview h2
    refine ⟨c, fz, { blk := hb, size := by simp [embOf, hb], elem := fun h => by simp at h, robes := fun _ => rfl, cell := ?_, own := fun h => by simp at h, gen := by simp }⟩
    intro j v hj hst
    dsimp only at hj hst
    rw [List.getD_eq_getElem?_getD, List.getElem?_map, hj] at hst
    exact ⟨v, by rw [Nat.zero_add, ← Array.getElem?_toList]; exact hj, stampOf_zero (by simpa using hst)⟩
  · intro i b es h; simp [embOf] at h
  · intro i k p h
    obtain ⟨b, o⟩ := p
    obtain ⟨_, _, _, hr⟩ := hrow h
    obtain ⟨c, e, fz, hb⟩ := isRow_some hr
    exact ⟨_, heapOf_view hb⟩
  · intro i b h; simp [embOf] at h
  · intro i h
    have : W.heap[i]? = none := Array.getElem?_eq_none h
    simp [heapOf, this]
  · intro i r h j
    obtain ⟨c, e, fz, _, rfl⟩ := hview h
    exact stamps_le _ _
  · intro i k b o i' k' o' r r' h1 h2 h3 h4
    obtain ⟨_, rfl, _, _⟩ := hrow h1
    obtain ⟨_, e, _, _⟩ := hrow h2
    exact .inl e
  · intro i i' b h; simp [embOf] at h
  · exact fun _ h => h
  · rfl
  · intro i k p h
    obtain ⟨b, o⟩ := p
    exact (hrow h).2.2.2
  · intro i b h; simp [embOf] at h
  · intro i h
    obtain ⟨c, e, fz, hb⟩ := isRow_some h
    exact (Array.getElem?_eq_some_iff.1 hb).1
  · intro i b h; simp [embOf] at h
  · intro i i' b h; simp [embOf] at h

theorem arel_of {W : World} {a : Addr} (hs : a.spot = none) (hr : isRow W a.block = true) : ARel (embOf W) a a := by
  refine ⟨a.block, 0, ?_, ?_⟩
  · simp [embOf, agen, hs, hr]
  · cases a; simp_all

theorem good_slice {W : World} {a : Addr} {len cap : Nat} (hs : a.spot = none) (hr : isRow W a.block = true) (hl : len ≤ cap) : VRel (embOf W) (.slice (some a) len cap) (.slice (some a) len cap) :=
  .slice (arel_of hs hr) hl (Nat.le_refl _) (fun h => by simp [embOf] at h)

theorem good_pointer {W : World} {a : Addr} (hs : a.spot = none) (hr : isRow W a.block = true) : VRel (embOf W) (.pointer (some a)) (.pointer (some a)) := .pointer (arel_of hs hr)

theorem cell_isRow {W : World} {a : Addr} {v : Value} (h : W.cell? a = some v) : a.spot = none ∧ isRow W a.block = true := by
  unfold World.cell? at h
  unfold isRow
  split at h
  · rename_i c e fz hb
    rw [hb]
    split at h
    · simp at h
    · rename_i hs
      exact ⟨by simpa using hs, rfl⟩
  · simp at h

theorem heapOf_cell {W : World} {a : Addr} {v : Value} (h : W.cell? a = some v) (hg : VRel (embOf W) v v) : (heapOf W).cell a = some v := by
  obtain ⟨hs, hr⟩ := cell_isRow h
  obtain ⟨c, e, fz, hb⟩ := isRow_some hr
  unfold World.cell? at h
  rw [hb] at h
  simp only [hs, Option.isSome_none, Bool.false_eq_true, if_false] at h
  have hj : c.toList[a.off]? = some v := by rw [Array.getElem?_toList]; exact h
  unfold AHeap.cell
  rw [heapOf_view hb]
  dsimp only
  rw [hj]
  dsimp only
  rw [if_pos]
  rw [List.getD_eq_getElem?_getD, List.getElem?_map, hj]
  simp [stampOf, hg]

theorem addA_add' {a : Addr} (hs : a.spot = none) (n : Nat) : a.add n = addA a n := by
  unfold Addr.add addA
  split
  · rename_i h; subst h; cases a; simp_all
  · rw [hs]

/-- A reading of the world's is one of the heap's. -/
theorem heapOf_readN {W : World} : ∀ {n : Nat} {a : Addr} {vs : List Value}, a.spot = none → vs.length = n → (∀ i v, vs[i]? = some v → W.cell? (addA a i) = some v ∧ VRel (embOf W) v v) → (heapOf W).readN a n = some vs
  | 0, a, vs, _, hl, _ => by rw [List.eq_nil_of_length_eq_zero hl]; rfl
  | n + 1, a, [], _, hl, _ => by simp at hl
  | n + 1, a, v :: vs, hs, hl, h => by
    obtain ⟨h1, h2⟩ := h 0 v rfl
    unfold AHeap.readN
    have e0 : addA a 0 = a := by cases a; simp [addA]
    rw [e0] at h1
    rw [heapOf_cell h1 h2]
    dsimp only
    rw [heapOf_readN (n := n) (a := addA a 1) (vs := vs) hs (by simpa using hl) fun i u hu => ?_]
    have := h (i + 1) u (by simpa using hu)
    have e1 : addA (addA a 1) i = addA a (i + 1) := by simp only [addA]; congr 1; omega
    rw [e1]; exact this

theorem cells?_at {W : World} {base : Nat} {a : Addr} {n : Nat} {cs : List Value} (h : W.cells? base a n = some cs) : cs.length = n ∧ ∀ i v, cs[i]? = some v → W.cell? (a.add i) = some v := by
  unfold World.cells? at h
  split at h
  · have hl := mapM_some_length h
    refine ⟨by simpa using hl, fun i v hi => ?_⟩
    have hin : i < n := by have := (List.getElem?_eq_some_iff.1 hi).1; simp at hl; omega
    have key : ∀ (l : List Nat) (f : Nat → Option Value) (r : List Value), l.mapM f = some r → ∀ (i : Nat) (v : Value), r[i]? = some v → ∃ x, l[i]? = some x ∧ f x = some v := by
      intro l f
      induction l with
      | nil => intro r hr i v hi; simp at hr; subst hr; simp at hi
      | cons x xs ih =>
        intro r hr i v hi
        rw [List.mapM_cons] at hr
        cases hx : f x with
        | none => simp [hx] at hr
        | some y =>
          cases hxs : xs.mapM f with
          | none => simp [hx, hxs] at hr
          | some ys =>
            simp [hx, hxs] at hr
            subst hr
            cases i with
            | zero => simp at hi; subst hi; exact ⟨x, by simp, hx⟩
            | succ i => simp only [List.getElem?_cons_succ] at hi ⊢; exact ih _ hxs _ _ hi
    obtain ⟨x, hx, hf⟩ := key _ _ _ h i v hi
    rw [List.getElem?_range hin] at hx
    obtain rfl : i = x := by simpa using hx
    exact hf
  · simp at h

/-! ### The call -/
theorem entry {P : Program} {ext : CallT} (hext : CallOK P ext) (hm : P.follows .mixedOrders = true) {f : FuncId} {fn : Func} (hfn : P.funcs[f]? = some fn) {args : Array Value} {W : World} {v : Value} {H' : AHeap}
    (h : theCall P ext f args.toList (heapOf W) = some (.ret v, H')) (hv : closedV v = true) (ha : VRels (embOf W) args.toList args.toList) :
    Calls P f args W fun e W' => e = .returned v ∧ Fr ⟨fun b => b < W.heap.size, 0⟩ W W' := by
  refine (callsIn_wide (n := 0)).1 ?_
  have hc : CallsIn (WF none) 0 P f args W _ := ((theCall_ok hext hm) _ _ _ _ _ h).2 ⟨fun b => b < W.heap.size, 0⟩ (embOf W) W (.enter f args) (heapOf_rel P W) (.fn hfn ha) none 0
  refine CallsIn.mono hc ?_
  intro e W' hr
  obtain ⟨γ, le, hh, he, hf⟩ := hr
  cases e with
  | returned v' => exact ⟨by rw [VRel.eq_of_closed he hv], hf⟩
  | panicked c => exact he.elim
  | outgrown => exact he.elim

/-! ### What stays -/
section
open Go.ChangeShapes
variable {H : Type} {enc : TypeId × Value → H} {P : Program} {W W' : World}

theorem Fr.keptBut (h : Fr ⟨fun b => b < W.heap.size, 0⟩ W W') (may : MemPlace → Prop) : W.keptBut W' may := by
  refine ⟨h.os, h.out, fun i hi => ?_⟩
  rw [h.low i hi]
  cases hb : W.heap[i]? with
  | none => rfl
  | some o =>
    cases o <;> first | rfl | exact ⟨rfl, rfl, rfl, fun _ _ => rfl⟩ | exact .inr ⟨rfl, rfl⟩

theorem Fr.sameAt (h : Fr ⟨fun b => b < W.heap.size, 0⟩ W W') {p : MemPlace} (hp : p.block < W.heap.size) : W.sameAt W' p := by
  cases p with
  | cell b off =>
    show W'.cell? _ = W.cell? _
    unfold World.cell?
    have := h.low b hp
    simp only [this]
  | map b => exact h.low b hp

theorem TrodAll_carry (h : Fr ⟨fun b => b < W.heap.size, 0⟩ W W') {base : Nat} {spare : Nat → Bool} {held : Bool} : ∀ {ts : List TypeId} {vs : List Value} {ds : List (DataW H)} {ps : List MemPlace}, (∀ p ∈ ps, p.block < W.heap.size) →
    DataW.TrodAll enc P W base spare held ts vs ds ps → DataW.TrodAll enc P W' base spare held ts vs ds ps
  | [], [], [], _, _, h => h
  | [], [], _ :: _, _, _, h => h
  | [], _ :: _, _, _, _, h => h
  | _ :: _, [], _, _, _, h => h
  | _ :: _, _ :: _, [], _, _, h => h
  | _ :: _, _ :: _, _ :: _, _, hp, ⟨p, q, ⟨n, h1⟩, h2, e⟩ => by
    refine ⟨p, q, ⟨n, DataW.trod_carry _ _ _ _ h1 fun x hx => h.sameAt (hp x (by rw [e]; simp [hx]))⟩, TrodAll_carry h (fun x hx => hp x (by rw [e]; simp [hx])) h2, e⟩

/-- The post of a row that hands back 'true' and leaves what it was handed as it was. -/
theorem post_true {T : TypeId → Prop} (K : Kids P T) (hz : ∀ t e, T t → P.underlying t = some (.slice e) → 0 < P.cellsOf e) {f : Func} {s : ChangeSpec} {fresh handsOn : Bool} {args : Array Value} {ds : List (DataW H)} {before : List MemPlace} {t : TypeId}
    (hW : DataW.Whole enc P f.params.toList s.vars false W args.toList ds [] before) (hT : ∀ t ∈ f.params.toList, T t) (hvars : s.vars = []) (hres : f.resultTypes = #[t]) (hb : P.underlying t = some .bool)
    (hr : (s.fn H (ds ++ [])).results = [.lit (.bool true)]) (hargs : (s.fn H (ds ++ [])).args = ds) (hgs : (s.fn H (ds ++ [])).vars = []) (hf : Fr ⟨fun b => b < W.heap.size, 0⟩ W W') :
    s.post enc P f false fresh handsOn false W args (.bool true) W' := by
  have hW' := hW
  obtain ⟨p, q, h1, h2, h3, h4, h5⟩ := hW
  have hlt : ∀ x ∈ before, x.block < W.heap.size := fun x hx => hW'.lt x hx
  have hq : q = [] := by rw [hvars] at h2; exact h2
  subst hq
  rw [List.append_nil] at h3
  subst h3
  refine ⟨ds, [], before, [], before, [], hW', ?_, ?_, ?_, hf.keptBut _, fun h => by simp at h⟩
  · rw [hres, hr]
    refine ⟨[], [], ⟨1, ?_⟩, rfl, rfl⟩
    simp [DataW.trod, hb, Value.cells]
  · rw [hargs]
    refine TrodAll_carry hf hlt (DataW.TrodAll.respare K hz hT h1 fun x hx => ?_)
    simpa using hlt x hx
  · rw [hvars, hgs]; rfl

end
end B
end Go.Proofs.Ytnjoaffnfjlcaaa
