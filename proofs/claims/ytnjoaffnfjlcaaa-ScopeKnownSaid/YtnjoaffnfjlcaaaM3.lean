/-
  Joined by program out of B23, B24, B25, B26, B27, B28, B29, B30, B31, B32, B33, B34, B35, B36, B37, B38, B39, B40, B41, B42, B43, B44.
-/
import Derived.Test.YtnjoaffnfjlcaaaM2
import Derived.ProofKit
import Derived.ReadAgain
import Derived.Maps.RangeRun
namespace Go.Proofs.Ytnjoaffnfjlcaaa
namespace B
open Go

/-! ### The world as an abstract heap: every row of it is there to be read alone -/
def isRow (W : World) (i : Nat) : Bool := match W.heap[i]? with
  | some (.cells _ _ _) => true
  | _ => false

def embOf (W : World) : Emb where
  row i k := if k = 0 ∧ isRow W i = true then some (i, 0) else none
  map _ := none
  loop _ := none
  bsz b := match W.heap[b]? with
    | some (.cells c _ _) => c.size
    | _ => 0
  bes _ := 0
  live i := decide (i < W.heap.size + 1)
  nx := W.heap.size + 1

open Classical in
noncomputable def stampOf (W : World) (v : Value) : Nat := if VRel (embOf W) v v then 0 else 1

/-- One thing more than there are blocks is free: a slice of no elements may name it. -/
noncomputable def heapOf (W : World) : AHeap where
  next := W.heap.size + 1
  get i := match W.heap[i]? with
    | some (.cells c e _) => some (.arr c.toList (c.toList.map (stampOf W)) 1 e true)
    | _ => none

theorem isRow_some {W : World} {i : Nat} (h : isRow W i = true) : ∃ c e fz, W.heap[i]? = some (.cells c e fz) := by
  unfold isRow at h
  split at h
  · rename_i c e fz hb; exact ⟨c, e, fz, hb⟩
  · simp at h

theorem stampOf_le {W : World} (v : Value) : stampOf W v ≤ 1 := by unfold stampOf; split <;> omega
theorem stampOf_zero {W : World} {v : Value} (h : stampOf W v ≤ 0) : VRel (embOf W) v v := by
  unfold stampOf at h
  split at h
  · assumption
  · omega

theorem heapOf_view {W : World} {i : Nat} {c : Array Value} {e : TypeId} {fz : Nat × Nat} (h : W.heap[i]? = some (.cells c e fz)) :
    (heapOf W).view i = some ⟨c.toList, fun j => (c.toList.map (stampOf W)).getD j 0, 1, e, true⟩ := by
  simp [AHeap.view, heapOf, h, AObj.view]

theorem stamps_le {W : World} (l : List Value) (j : Nat) : (l.map (stampOf W)).getD j 0 ≤ 1 := by
  rw [List.getD_eq_getElem?_getD, List.getElem?_map]
  cases l[j]? with
  | none => simp
  | some v => simpa using stampOf_le v

theorem heapOf_rel (P : Program) (W : World) : HRel P ⟨fun b => b < W.heap.size, 0⟩ (embOf W) (heapOf W) W := by
  have hrow : ∀ {i k b o : Nat}, (embOf W).row i k = some (b, o) → k = 0 ∧ b = i ∧ o = 0 ∧ isRow W i = true := by
    intro i k b o h
    unfold embOf at h
    dsimp only at h
    split at h
    · rename_i hc
      simp only [Option.some.injEq, Prod.mk.injEq] at h
      exact ⟨hc.1, h.1.symm, h.2.symm, hc.2⟩
    · simp at h
  have hview : ∀ {i : Nat} {r : RowV}, (heapOf W).view i = some r → ∃ c e fz, W.heap[i]? = some (.cells c e fz) ∧ r = ⟨c.toList, fun j => (c.toList.map (stampOf W)).getD j 0, 1, e, true⟩ := by
    intro i r h
    unfold AHeap.view heapOf at h
    dsimp only at h
    split at h
    · rename_i c e fz hb
      simp only [Option.bind_some, AObj.view, Option.some.injEq] at h
      exact ⟨c, e, fz, hb, h.symm⟩
    · simp at h
  constructor
  · intro i k b o r h1 h2
    obtain ⟨rfl, rfl, rfl, _⟩ := hrow h1
    obtain ⟨c, e, fz, hb, rfl⟩ := hview h2
    refine ⟨c, fz, { blk := hb, size := by simp [embOf, hb], elem := fun h => by simp at h, robes := fun _ => rfl, cell := ?_, own := fun h => by simp at h, gen := by simp }⟩
    intro j v hj hst
    dsimp only at hj hst
    rw [List.getD_eq_getElem?_getD, List.getElem?_map, hj] at hst
    exact ⟨v, by rw [Nat.zero_add, ← Array.getElem?_toList]; exact hj, stampOf_zero (by simpa using hst)⟩
  · intro i b es h; simp [embOf] at h
  · intro i k p h
    obtain ⟨b, o⟩ := p
    obtain ⟨_, _, _, hr⟩ := hrow h
    obtain ⟨c, e, fz, hb⟩ := isRow_some hr
    exact ⟨_, heapOf_view hb⟩
  · intro i b h; simp [embOf] at h
  · intro i h
    have h' : W.heap.size + 1 ≤ i := h
    have : W.heap[i]? = none := Array.getElem?_eq_none (by omega)
    simp [heapOf, this]
  · intro i r h j
    obtain ⟨c, e, fz, _, rfl⟩ := hview h
    exact stamps_le _ _
  · intro i k b o i' k' o' r r' h1 h2 h3 h4
    obtain ⟨_, rfl, _, _⟩ := hrow h1
    obtain ⟨_, e, _, _⟩ := hrow h2
    exact .inl e
  · intro i i' b h; simp [embOf] at h
  · exact fun _ h => h
  · rfl
  · intro i k p h
    obtain ⟨b, o⟩ := p
    obtain ⟨c, e, fz, hb⟩ := isRow_some (hrow h).2.2.2
    have := (Array.getElem?_eq_some_iff.1 hb).1
    show decide (i < W.heap.size + 1) = true
    rw [decide_eq_true_eq]; omega
  · intro i b h; simp [embOf] at h
  · intro i h
    exact of_decide_eq_true (h : decide (i < W.heap.size + 1) = true)
  · intro i b h; simp [embOf] at h
  · intro i i' b h; simp [embOf] at h

/-- A slice of no elements. -/
theorem good_empty {W : World} {a : Addr} : VRel (embOf W) (.slice (some ⟨W.heap.size, 0, none⟩) 0 0) (.slice (some a) 0 0) := .sliceZ (by simp [embOf])

theorem arel_of {W : World} {a : Addr} (hs : a.spot = none) (hr : isRow W a.block = true) : ARel (embOf W) a a := by
  refine ⟨a.block, 0, ?_, ?_⟩
  · simp [embOf, agen, hs, hr]
  · cases a; simp_all

theorem good_slice {W : World} {a : Addr} {len cap : Nat} (hs : a.spot = none) (hr : isRow W a.block = true) (hl : len ≤ cap) : VRel (embOf W) (.slice (some a) len cap) (.slice (some a) len cap) :=
  .slice (arel_of hs hr) hl (Nat.le_refl _) (fun h => by simp [embOf] at h)

theorem good_pointer {W : World} {a : Addr} (hs : a.spot = none) (hr : isRow W a.block = true) : VRel (embOf W) (.pointer (some a)) (.pointer (some a)) := .pointer (arel_of hs hr)

theorem cell_isRow {W : World} {a : Addr} {v : Value} (h : W.cell? a = some v) : a.spot = none ∧ isRow W a.block = true := by
  unfold World.cell? at h
  unfold isRow
  split at h
  · rename_i c e fz hb
    rw [hb]
    split at h
    · simp at h
    · rename_i hs
      exact ⟨by simpa using hs, rfl⟩
  · simp at h

theorem heapOf_cell {W : World} {a : Addr} {v : Value} (h : W.cell? a = some v) (hg : VRel (embOf W) v v) : (heapOf W).cell a = some v := by
  obtain ⟨hs, hr⟩ := cell_isRow h
  obtain ⟨c, e, fz, hb⟩ := isRow_some hr
  unfold World.cell? at h
  rw [hb] at h
  simp only [hs, Option.isSome_none, Bool.false_eq_true, if_false] at h
  have hj : c.toList[a.off]? = some v := by rw [Array.getElem?_toList]; exact h
  unfold AHeap.cell
  rw [heapOf_view hb]
  dsimp only
  rw [hj]
  dsimp only
  rw [if_pos]
  rw [List.getD_eq_getElem?_getD, List.getElem?_map, hj]
  simp [stampOf, hg]

theorem addA_add' {a : Addr} (hs : a.spot = none) (n : Nat) : a.add n = addA a n := by
  unfold Addr.add addA
  split
  · rename_i h; subst h; cases a; simp_all
  · rw [hs]

/-- A reading of the world's is one of the heap's. -/
theorem heapOf_readN {W : World} : ∀ {n : Nat} {a : Addr} {vs : List Value}, a.spot = none → vs.length = n → (∀ i v, vs[i]? = some v → W.cell? (addA a i) = some v ∧ VRel (embOf W) v v) → (heapOf W).readN a n = some vs
  | 0, a, vs, _, hl, _ => by rw [List.eq_nil_of_length_eq_zero hl]; rfl
  | n + 1, a, [], _, hl, _ => by simp at hl
  | n + 1, a, v :: vs, hs, hl, h => by
    obtain ⟨h1, h2⟩ := h 0 v rfl
    unfold AHeap.readN
    have e0 : addA a 0 = a := by cases a; simp [addA]
    rw [e0] at h1
    rw [heapOf_cell h1 h2]
    dsimp only
    rw [heapOf_readN (n := n) (a := addA a 1) (vs := vs) hs (by simpa using hl) fun i u hu => ?_]
    have := h (i + 1) u (by simpa using hu)
    have e1 : addA (addA a 1) i = addA a (i + 1) := by simp only [addA]; congr 1; omega
    rw [e1]; exact this

theorem cells?_at {W : World} {base : Nat} {a : Addr} {n : Nat} {cs : List Value} (h : W.cells? base a n = some cs) : cs.length = n ∧ ∀ i v, cs[i]? = some v → W.cell? (a.add i) = some v := by
  unfold World.cells? at h
  split at h
  · have hl := mapM_some_length h
    refine ⟨by simpa using hl, fun i v hi => ?_⟩
    have hin : i < n := by have := (List.getElem?_eq_some_iff.1 hi).1; simp at hl; omega
    have key : ∀ (l : List Nat) (f : Nat → Option Value) (r : List Value), l.mapM f = some r → ∀ (i : Nat) (v : Value), r[i]? = some v → ∃ x, l[i]? = some x ∧ f x = some v := by
      intro l f
      induction l with
      | nil => intro r hr i v hi; simp at hr; subst hr; simp at hi
      | cons x xs ih =>
        intro r hr i v hi
        rw [List.mapM_cons] at hr
        cases hx : f x with
        | none => simp [hx] at hr
        | some y =>
          cases hxs : xs.mapM f with
          | none => simp [hx, hxs] at hr
          | some ys =>
            simp [hx, hxs] at hr
            subst hr
            cases i with
            | zero => simp at hi; subst hi; exact ⟨x, by simp, hx⟩
            | succ i => simp only [List.getElem?_cons_succ] at hi ⊢; exact ih _ hxs _ _ hi
    obtain ⟨x, hx, hf⟩ := key _ _ _ h i v hi
    rw [List.getElem?_range hin] at hx
    obtain rfl : i = x := by simpa using hx
    exact hf
  · simp at h

/-! ### The call -/
theorem entry {P : Program} {ext : CallT} (hext : CallOK P ext) (hm : P.follows .mixedOrders = true) {f : FuncId} {fn : Func} (hfn : P.funcs[f]? = some fn) {args : Array Value} {as : List Value} {W : World} {v : Value} {H' : AHeap}
    (h : theCall P ext f as (heapOf W) = some (.ret v, H')) (hv : closedV v = true) (ha : VRels (embOf W) as args.toList) :
    Calls P f args W fun e W' => e = .returned v ∧ Fr ⟨fun b => b < W.heap.size, 0⟩ W W' := by
  refine (callsIn_wide (n := 0)).1 ?_
  have hc : CallsIn (WF none) 0 P f args W _ := ((theCall_ok hext hm) _ _ _ _ _ h).2 ⟨fun b => b < W.heap.size, 0⟩ (embOf W) W (.enter f args) (heapOf_rel P W) (.fn hfn ha) none 0
  refine CallsIn.mono hc ?_
  intro e W' hr
  obtain ⟨γ, le, hh, he, hf⟩ := hr
  cases e with
  | returned v' => exact ⟨by rw [VRel.eq_of_closed he hv], hf⟩
  | panicked c => exact he.elim
  | outgrown => exact he.elim

/-! ### What stays -/
section
open Go.ChangeShapes
variable {H : Type} {enc : TypeId × Value → H} {P : Program} {W W' : World}

theorem Fr.keptBut (h : Fr ⟨fun b => b < W.heap.size, 0⟩ W W') (may : MemPlace → Prop) : W.keptBut W' may := by
  refine ⟨h.os, h.out, fun i hi => ?_⟩
  rw [h.low i hi]
  cases hb : W.heap[i]? with
  | none => rfl
  | some o =>
    cases o <;> first | rfl | exact ⟨rfl, rfl, rfl, fun _ _ => rfl⟩ | exact .inr ⟨rfl, rfl⟩

theorem Fr.sameAt (h : Fr ⟨fun b => b < W.heap.size, 0⟩ W W') {p : MemPlace} (hp : p.block < W.heap.size) : W.sameAt W' p := by
  cases p with
  | cell b off =>
    show W'.cell? _ = W.cell? _
    unfold World.cell?
    have := h.low b hp
    simp only [this]
  | map b => exact h.low b hp

theorem TrodAll_carry (h : Fr ⟨fun b => b < W.heap.size, 0⟩ W W') {base : Nat} {spare : Nat → Bool} {held : Bool} : ∀ {ts : List TypeId} {vs : List Value} {ds : List (DataW H)} {ps : List MemPlace}, (∀ p ∈ ps, p.block < W.heap.size) →
    DataW.TrodAll enc P W base spare held ts vs ds ps → DataW.TrodAll enc P W' base spare held ts vs ds ps
  | [], [], [], _, _, h => h
  | [], [], _ :: _, _, _, h => h
  | [], _ :: _, _, _, _, h => h
  | _ :: _, [], _, _, _, h => h
  | _ :: _, _ :: _, [], _, _, h => h
  | _ :: _, _ :: _, _ :: _, _, hp, ⟨p, q, ⟨n, h1⟩, h2, e⟩ => by
    refine ⟨p, q, ⟨n, DataW.trod_carry _ _ _ _ h1 fun x hx => h.sameAt (hp x (by rw [e]; simp [hx]))⟩, TrodAll_carry h (fun x hx => hp x (by rw [e]; simp [hx])) h2, e⟩

/-- The post of a row that hands back 'true' and leaves what it was handed as it was. -/
theorem post_true {T : TypeId → Prop} (K : Kids P T) (hz : ∀ t e, T t → P.underlying t = some (.slice e) → 0 < P.cellsOf e) {f : Func} {s : ChangeSpec} {fresh handsOn : Bool} {args : Array Value} {ds : List (DataW H)} {before : List MemPlace} {t : TypeId}
    (hW : DataW.Whole enc P f.params.toList s.vars false W args.toList ds [] before) (hT : ∀ t ∈ f.params.toList, T t) (hvars : s.vars = []) (hres : f.resultTypes = #[t]) (hb : P.underlying t = some .bool)
    (hr : (s.fn H (ds ++ [])).results = [.lit (.bool true)]) (hargs : (s.fn H (ds ++ [])).args = ds) (hgs : (s.fn H (ds ++ [])).vars = []) (hf : Fr ⟨fun b => b < W.heap.size, 0⟩ W W') :
    s.post enc P f false fresh handsOn false W args (.bool true) W' := by
  have hW' := hW
  obtain ⟨p, q, h1, h2, h3, h4, h5⟩ := hW
  have hlt : ∀ x ∈ before, x.block < W.heap.size := fun x hx => hW'.lt x hx
  have hq : q = [] := by rw [hvars] at h2; exact h2
  subst hq
  rw [List.append_nil] at h3
  subst h3
  refine ⟨ds, [], before, [], before, [], hW', ?_, ?_, ?_, hf.keptBut _, fun h => by simp at h⟩
  · rw [hres, hr]
    refine ⟨[], [], ⟨1, ?_⟩, rfl, rfl⟩
    simp [DataW.trod, hb, Value.cells]
  · rw [hargs]
    refine TrodAll_carry hf hlt (DataW.TrodAll.respare K hz hT h1 fun x hx => ?_)
    simpa using hlt x hx
  · rw [hvars, hgs]; rfl

end
end B
end Go.Proofs.Ytnjoaffnfjlcaaa

namespace Go.Proofs.Ytnjoaffnfjlcaaa
namespace B
open Go

section
variable {P : Program} {call : CallT}

/-- An operation's answer: neither its slot nor its place nor its edges matter. -/
noncomputable def opA (P : Program) (H : AHeap) (ρ : Operand → Value) (op : Op) (ty : TypeId) : Option ARes := evalAny P H ρ ⟨none, op, ty, "", #[], none⟩

theorem evalAny_op (H : AHeap) (ρ : Operand → Value) (o : Oper) : evalAny P H ρ o = opA P H ρ o.op o.type := by
  unfold opA
  have hx : ∀ ρ', execOp ρ' o = execOp ρ' ⟨none, o.op, o.type, "", #[], none⟩ := fun ρ' => by unfold execOp; rfl
  have hc : closedRun P ρ o = closedRun P ρ ⟨none, o.op, o.type, "", #[], none⟩ := by unfold closedRun; rw [hx]
  have hop : evalOp P H ρ o = evalOp P H ρ ⟨none, o.op, o.type, "", #[], none⟩ := by
    unfold evalOp; rw [hc]
  have hcall : ∀ c, evalCall P H ρ o c = evalCall P H ρ ⟨none, o.op, o.type, "", #[], none⟩ c := by
    intro c; unfold evalCall; rw [hc]
  unfold evalAny
  simp only [hop, hcall]

def isDefer : Op → Bool
  | .defer _ => true
  | _ => false

/-- What is done with an operation's answer. -/
def contA (call : CallT) (dst : Option Nat) (k : St → Option (AExit × St)) (s : St) : Option ARes → Option (AExit × St)
  | some (.val v H) => k ⟨putT dst v s.tmps, s.dfs, H⟩
  | some (.skip H) => k ⟨putT dst undef s.tmps, s.dfs, H⟩
  | some (.enter f args H) => match call f args H with
    | some (.ret v, H') => k ⟨putT dst v s.tmps, s.dfs, H'⟩
    | some (.panic v, H') => some (.panic v, ⟨s.tmps, s.dfs, H'⟩)
    | none => none
  | some (.panic v H) => some (.panic v, ⟨s.tmps, s.dfs, H⟩)
  | _ => none

/-- What is done with a call's answer. -/
def callA (dst : Option Nat) (k : St → Option (AExit × St)) (tmps : List Value) (dfs : List ADef) : Option (AEnd × AHeap) → Option (AExit × St)
  | some (.ret v, H') => k ⟨putT dst v tmps, dfs, H'⟩
  | some (.panic v, H') => some (.panic v, ⟨tmps, dfs, H'⟩)
  | none => none

/-- A region in the text's order, operation for operation. -/
noncomputable def evalList (P : Program) (call : CallT) (rnd : Bool) (all : List Oper) : List Oper → St → Option (AExit × St)
  | [], s => some (.normal, s)
  | o :: rest, s =>
    if wantedA all s.tmps o then
      if isDefer o.op then match o.op with
        | .defer c => if rnd = false ∧ o.op.operands.all operandOk = true then match deferOf P (aev s.tmps) c with
            | some d => evalList P call rnd all rest ⟨putT o.dst undef s.tmps, d :: s.dfs, s.H⟩
            | none => none
          else none
        | _ => none
      else contA call o.dst (evalList P call rnd all rest) s (opA P s.H (aev s.tmps) o.op o.type)
    else evalList P call rnd all rest ⟨putT o.dst undef s.tmps, s.dfs, s.H⟩

theorem evalIdx_from {rnd : Bool} {ops : List Oper} : ∀ (n k : Nat) (s : St), k + n = ops.length → evalIdx P call rnd ops (List.range' k n) s = evalList P call rnd ops (ops.drop k) s
  | 0, k, s, h => by
    rw [List.drop_eq_nil_of_le (by omega)]
    rfl
  | n + 1, k, s, h => by
    have hk : k < ops.length := by omega
    rw [List.range'_succ, List.drop_eq_getElem_cons hk]
    have ih := fun s => evalIdx_from (rnd := rnd) (ops := ops) n (k + 1) s (by omega)
    unfold evalIdx evalList
    rw [List.getElem?_eq_getElem hk]
    dsimp only
    split
    · cases hd : isDefer ops[k].op with
      | true =>
        simp only [if_true]
        cases hop : ops[k].op <;> rw [hop] at hd <;> simp [isDefer] at hd
        rename_i c
        simp only []
        split
        · cases hdd : deferOf P (aev s.tmps) c with
          | none => rfl
          | some d => exact ih _
        · rfl
      | false =>
        simp only [Bool.false_eq_true, if_false]
        have hnd : ∀ c, ops[k].op ≠ .defer c := by intro c hc; rw [hc] at hd; simp [isDefer] at hd
        rw [← evalAny_op]
        split
        · rename_i c hc; exact absurd hc (hnd c)
        · cases hev : evalAny P s.H (aev s.tmps) ops[k] with
          | none => rfl
          | some r =>
            cases r <;> simp only [contA] <;> first | exact ih _ | rfl | skip
            rename_i f args H
            cases call f args H with
            | none => rfl
            | some q =>
              obtain ⟨e, H'⟩ := q
              cases e
              · exact ih _
              · rfl
    · exact ih _

theorem theCode_list {ext : CallT} {rnd : Bool} {id : Nat} {l : List Oper} {s : St} : theCode P ext rnd (.region id l.toArray false) s = evalList P (theCall P ext) rnd l l s := by
  rw [theCode_region]
  have := evalIdx_from (P := P) (call := theCall P ext) (rnd := rnd) (ops := l) l.length 0 s (by omega)
  rw [List.drop_zero] at this
  rw [← this, List.range_eq_range']
  simp

theorem evalList_nil {rnd : Bool} {all : List Oper} {s : St} : evalList P call rnd all [] s = some (.normal, s) := rfl

/-- Without a guard. -/
theorem evalList_plain {rnd : Bool} {all rest : List Oper} {dst : Option Tmp} {op : Op} {ty : TypeId} {pos : String} {af : Array Edge} {s : St} (hd : isDefer op = false) :
    evalList P call rnd all (⟨dst, op, ty, pos, af, none⟩ :: rest) s = contA call dst (evalList P call rnd all rest) s (opA P s.H (aev s.tmps) op ty) := by
  conv => lhs; unfold evalList
  simp [wantedA, hd]

theorem evalList_guard {rnd : Bool} {all rest : List Oper} {dst : Option Tmp} {op : Op} {ty : TypeId} {pos : String} {af : Array Edge} {j : Nat} {want : Bool} {s : St} (hd : isDefer op = false) :
    evalList P call rnd all (⟨dst, op, ty, pos, af, some (j, want)⟩ :: rest) s =
      if yieldA all s.tmps j = some want then contA call dst (evalList P call rnd all rest) s (opA P s.H (aev s.tmps) op ty) else evalList P call rnd all rest ⟨putT dst undef s.tmps, s.dfs, s.H⟩ := by
  conv => lhs; unfold evalList
  simp [wantedA, hd]

theorem contA_val {dst : Option Nat} {k : St → Option (AExit × St)} {s : St} {v : Value} {H : AHeap} : contA call dst k s (some (.val v H)) = k ⟨putT dst v s.tmps, s.dfs, H⟩ := rfl
theorem contA_skip {dst : Option Nat} {k : St → Option (AExit × St)} {s : St} {H : AHeap} : contA call dst k s (some (.skip H)) = k ⟨putT dst undef s.tmps, s.dfs, H⟩ := rfl
theorem contA_panic {dst : Option Nat} {k : St → Option (AExit × St)} {s : St} {v : Value} {H : AHeap} : contA call dst k s (some (.panic v H)) = some (.panic v, ⟨s.tmps, s.dfs, H⟩) := rfl
theorem contA_enter {dst : Option Nat} {k : St → Option (AExit × St)} {s : St} {f : FuncId} {args : List Value} {H : AHeap} : contA call dst k s (some (.enter f args H)) = callA dst k s.tmps s.dfs (call f args H) := by
  unfold contA callA; rfl
theorem contA_ite {dst : Option Nat} {k : St → Option (AExit × St)} {s : St} {c : Prop} [Decidable c] {x y : Option ARes} : contA call dst k s (if c then x else y) = if c then contA call dst k s x else contA call dst k s y := by split <;> rfl
theorem callA_ret {dst : Option Nat} {k : St → Option (AExit × St)} {tm : List Value} {dfs : List ADef} {v : Value} {H : AHeap} : callA dst k tm dfs (some (.ret v, H)) = k ⟨putT dst v tm, dfs, H⟩ := rfl
theorem callA_panic {dst : Option Nat} {k : St → Option (AExit × St)} {tm : List Value} {dfs : List ADef} {v : Value} {H : AHeap} : callA dst k tm dfs (some (.panic v, H)) = some (.panic v, ⟨tm, dfs, H⟩) := rfl
theorem callA_ite {dst : Option Nat} {k : St → Option (AExit × St)} {tm : List Value} {dfs : List ADef} {c : Prop} [Decidable c] {x y : Option (AEnd × AHeap)} : callA dst k tm dfs (if c then x else y) = if c then callA dst k tm dfs x else callA dst k tm dfs y := by split <;> rfl

/-! ### Slots -/
theorem putT_some {d : Nat} {v : Value} {tm : List Value} : putT (some d) v tm = tm.set d v := rfl
theorem putT_none {v : Value} {tm : List Value} : putT none v tm = tm := rfl
theorem aev_tmp {tm : List Value} {i : Nat} : aev tm (.tmp i) = tm.getD i undef := rfl
theorem aev_const {tm : List Value} {v : Value} : aev tm (.const v) = v := rfl
theorem aev_func {tm : List Value} {f : FuncId} : aev tm (.func f) = .func (.func f) #[] #[] := rfl
theorem rd_same {tm : List Value} {d : Nat} {v : Value} (h : d < tm.length) : (tm.set d v).getD d undef = v := by
  rw [List.getD_eq_getElem?_getD, List.getElem?_set_self h]; rfl
theorem rd_ne {tm : List Value} {d i : Nat} {v : Value} (h : d ≠ i) : (tm.set d v).getD i undef = tm.getD i undef := by
  rw [List.getD_eq_getElem?_getD, List.getElem?_set_ne h, ← List.getD_eq_getElem?_getD]

/-! ### Control -/
theorem thenA_normal {s : St} {k : St → Option (AExit × St)} : thenA (some (.normal, s)) k = k s := rfl
theorem thenA_ret {s : St} {k : St → Option (AExit × St)} : thenA (some (.ret, s)) k = some (.ret, s) := rfl
theorem thenA_exit {i : Nat} {s : St} {k : St → Option (AExit × St)} : thenA (some (.exit i, s)) k = some (.exit i, s) := rfl
theorem thenA_panic {v : Value} {s : St} {k : St → Option (AExit × St)} : thenA (some (.panic v, s)) k = some (.panic v, s) := rfl
theorem thenA_ite {c : Prop} [Decidable c] {x y : Option (AExit × St)} {k : St → Option (AExit × St)} : thenA (if c then x else y) k = if c then thenA x k else thenA y k := by split <;> rfl
theorem inBlockA_normal {i : Nat} {s : St} : inBlockA i (some (.normal, s)) = some (.normal, s) := rfl
theorem inBlockA_ret {i : Nat} {s : St} : inBlockA i (some (.ret, s)) = some (.ret, s) := rfl
theorem inBlockA_panic {i : Nat} {v : Value} {s : St} : inBlockA i (some (.panic v, s)) = some (.panic v, s) := rfl
theorem inBlockA_exit {i j : Nat} {s : St} : inBlockA i (some (.exit j, s)) = if j = i then some (.normal, s) else some (.exit j, s) := rfl
theorem inBlockA_ite {i : Nat} {c : Prop} [Decidable c] {x y : Option (AExit × St)} : inBlockA i (if c then x else y) = if c then inBlockA i x else inBlockA i y := by split <;> rfl
theorem leaveA_ite {fn : Func} {c : Prop} [Decidable c] {x y : Option (AExit × St)} : leaveA P fn (if c then x else y) = if c then leaveA P fn x else leaveA P fn y := by split <;> rfl

theorem theCode_if {ext : CallT} {rnd : Bool} {c : Operand} {a b : Code} {s : St} (hok : operandOk c = true) (hc : (boolOf (aev s.tmps c)).isSome = true) :
    theCode P ext rnd (.cond c a b) s = if boolOf (aev s.tmps c) = some true then theCode P ext rnd a s else theCode P ext rnd b s := by
  cases hb : boolOf (aev s.tmps c) with
  | none => rw [hb] at hc; simp at hc
  | some t =>
    have hv : aev s.tmps c = .bool t := by
      cases h : aev s.tmps c <;> rw [h] at hb <;> simp_all [boolOf]
    rw [theCode_cond hok hv]
    cases t <;> simp

theorem boolOf_bool {b : Bool} : boolOf (.bool b) = some b := rfl

end
end B
end Go.Proofs.Ytnjoaffnfjlcaaa

namespace Go.Proofs.Ytnjoaffnfjlcaaa
namespace B
open Go

def valA (H : AHeap) : Option Value → Option ARes
  | some v => some (.val v H)
  | none => none
def skipA : Option AHeap → Option ARes
  | some H => some (.skip H)
  | none => none
theorem valA_some {H : AHeap} {v : Value} : valA H (some v) = some (.val v H) := rfl
theorem skipA_some {H : AHeap} : skipA (some H) = some (.skip H) := rfl

theorem pureRun_pure {α : Type} {P : Program} {a : α} : pureRun P (pure a : Sem α) = some a := rfl
theorem pureRun_seq {α γ : Type} {P : Program} : ∀ {s : Sem α} {f : α → Sem γ} {a : α}, pureRun P s = some a → pureRun P (s >>= f) = pureRun P (f a)
  | .pure a, f, c, h => by simp only [pureRun, Option.some.injEq] at h; subst h; rfl
  | .program k, f, c, h => pureRun_seq (s := k P) (f := f) h
  | .mark m k, f, c, h => pureRun_seq (s := k) (f := f) h
  | .load .., _, _, h => by simp [pureRun] at h
  | .store .., _, _, h => by simp [pureRun] at h
  | .new .., _, _, h => by simp [pureRun] at h
  | .shape .., _, _, h => by simp [pureRun] at h
  | .freeze .., _, _, h => by simp [pureRun] at h
  | .frozen .., _, _, h => by simp [pureRun] at h
  | .getObj .., _, _, h => by simp [pureRun] at h
  | .setObj .., _, _, h => by simp [pureRun] at h
  | .choose .., _, _, h => by simp [pureRun] at h
  | .sys .., _, _, h => by simp [pureRun] at h
  | .halt _, _, _, h => by simp [pureRun] at h

theorem pureRun_value {P : Program} {s : Sem Value} {v : Value} (h : pureRun P s = some v) : pureRun P (do pure (Next.value (← s)) : Sem Next) = some (.value v) := by
  rw [pureRun_seq h]; rfl

section
variable {P : Program} {H : AHeap} {ρ : Operand → Value} {ty : TypeId}

theorem ev_of {op : Op} (h1 : ∀ c, op ≠ .call c) (h2 : ∀ t m k ok, op ≠ .lookup t m k ok) (h3 : ∀ t m k v, op ≠ .mapUpdate t m k v) (h4 : ∀ t m k v, op ≠ .insert t m k v) :
    opA P H ρ op ty = evalOp P H ρ ⟨none, op, ty, "", #[], none⟩ := by
  unfold opA evalAny
  cases op <;> first | rfl | exact absurd rfl (h1 _) | exact absurd rfl (h2 _ _ _ _) | exact absurd rfl (h3 _ _ _ _) | exact absurd rfl (h4 _ _ _ _)

theorem opA_move {x : Operand} (hx : operandOk x = true) : opA P H ρ (.move x) ty = some (.val (ρ x) H) := by
  rw [ev_of (by simp) (by simp) (by simp) (by simp)]; unfold evalOp; simp [Op.operands, hx]
theorem opA_assign {x : Operand} (hx : operandOk x = true) : opA P H ρ (.assign x) ty = some (.val (ρ x) H) := by
  rw [ev_of (by simp) (by simp) (by simp) (by simp)]; unfold evalOp; simp [Op.operands, hx]
theorem opA_pick {c a b : Operand} (hc : operandOk c = true) (ha : operandOk a = true) (hb : operandOk b = true) (hv : (boolOf (ρ c)).isSome = true) :
    opA P H ρ (.pick c a b) ty = if boolOf (ρ c) = some true then some (.val (ρ a) H) else some (.val (ρ b) H) := by
  rw [ev_of (by simp) (by simp) (by simp) (by simp)]; unfold evalOp; simp only [Op.operands]
  simp [hc, ha, hb]
  cases h : ρ c <;> rw [h] at hv <;> simp_all [boolOf]
  rename_i b2; cases b2 <;> simp

def loadS (P : Program) (H : AHeap) (t : TypeId) : Value → Option ARes
  | .pointer (some a) => valA H (H.loadV P t a)
  | _ => none
theorem opA_load {t : TypeId} {x : Operand} (hx : operandOk x = true) : opA P H ρ (.load t x) ty = loadS P H t (ρ x) := by
  rw [ev_of (by simp) (by simp) (by simp) (by simp)]; unfold evalOp; simp [Op.operands, hx, loadS]
  cases ρ x <;> try rfl
theorem loadS_ptr {t : TypeId} {a : Addr} : loadS P H t (.pointer (some a)) = valA H (H.loadV P t a) := rfl

def storeS (P : Program) (H : AHeap) (t : TypeId) (v : Value) : Value → Option ARes
  | .pointer (some a) => skipA (H.storeV P t a v)
  | _ => none
theorem opA_store {t : TypeId} {x y : Operand} (hx : operandOk x = true) (hy : operandOk y = true) : opA P H ρ (.store t x y) ty = storeS P H t (ρ y) (ρ x) := by
  rw [ev_of (by simp) (by simp) (by simp) (by simp)]; unfold evalOp; simp [Op.operands, hx, hy, storeS]
  cases ρ x <;> try rfl
theorem storeS_ptr {t : TypeId} {a : Addr} {v : Value} : storeS P H t v (.pointer (some a)) = skipA (H.storeV P t a v) := rfl

def nilCheckS (H : AHeap) : Value → Option ARes
  | .pointer (some a) => some (.val (.pointer (some a)) H)
  | .func (.func f) u v => some (.val (.func (.func f) u v) H)
  | _ => none
theorem opA_nilCheck {x : Operand} (hx : operandOk x = true) : opA P H ρ (.nilCheck x) ty = nilCheckS H (ρ x) := by
  rw [ev_of (by simp) (by simp) (by simp) (by simp)]; unfold evalOp; simp [Op.operands, hx, nilCheckS]
  cases ρ x <;> try rfl
theorem nilCheckS_ptr {a : Addr} : nilCheckS H (.pointer (some a)) = some (.val (.pointer (some a)) H) := rfl
theorem nilCheckS_func {f : FuncId} {u v : Array Value} : nilCheckS H (.func (.func f) u v) = some (.val (.func (.func f) u v) H) := rfl

def fieldAddrS (P : Program) (H : AHeap) (s : TypeId) (f : Nat) : Value → Option ARes
  | .pointer (some a) => match P.underlying s with
    | some (.struct fields) => match fields[f]? with
      | some fd => match P.info? fd.type with
        | some i => if i.size = 0 then none else some (.val (.pointer (some (addA a fd.offset))) H)
        | none => none
      | none => none
    | _ => none
  | _ => none
theorem opA_fieldAddr {s : TypeId} {x : Operand} {f : Nat} (hx : operandOk x = true) : opA P H ρ (.fieldAddr s x f) ty = fieldAddrS P H s f (ρ x) := by
  rw [ev_of (by simp) (by simp) (by simp) (by simp)]; unfold evalOp; simp [Op.operands, hx, fieldAddrS]
  cases h : P.underlying s with
  | none => cases ρ x <;> try rfl
            rename_i a; cases a <;> rfl
  | some d => cases d <;> cases ρ x <;> try rfl
              all_goals (rename_i a; cases a <;> rfl)

def extractS (H : AHeap) (ix : Nat) : Value → Option ARes
  | .tuple vs => valA H vs[ix]?
  | _ => none
theorem opA_extract {x : Operand} {ix : Nat} (hx : operandOk x = true) : opA P H ρ (.extract x ix) ty = extractS H ix (ρ x) := by
  rw [ev_of (by simp) (by simp) (by simp) (by simp)]; unfold evalOp; simp [Op.operands, hx, extractS]
  cases ρ x <;> try rfl
theorem extractS_tuple {ix : Nat} {vs : Array Value} : extractS H ix (.tuple vs) = valA H vs[ix]? := rfl

/-! ### Two operands -/
def binC (P : Program) (op : BinOp) (t : TypeId) (x y : Operand) (v w : Value) : Option Value :=
  if closedV v && closedV w then match pureRun P (do eqGuard op t x y v w; binOp op t v w) with
    | some r => if closedV r then some r else none
    | none => none
  else none

def binS (P : Program) (H : AHeap) (op : BinOp) (t : TypeId) (x y : Operand) (v w : Value) : Option ARes :=
  match binC P op t x y v w with
  | some r => some (.val r H)
  | none => match P.underlying t with
    | some d => match nilEq d v w with
      | some b => match op with
        | .eql => some (.val (.bool b) H)
        | .neq => some (.val (.bool (!b)) H)
        | _ => none
      | none => none
    | none => none

theorem pureRun_map {s : Sem Value} : pureRun P (do pure (Next.value (← s)) : Sem Next) = (pureRun P s).map .value := by
  cases h : pureRun P s with
  | some v => rw [pureRun_value h]; rfl
  | none =>
    cases h2 : pureRun P (do pure (Next.value (← s)) : Sem Next) with
    | none => rfl
    | some c =>
      obtain ⟨a, h3, _⟩ := pureRun_bind h2
      rw [h] at h3; simp at h3

theorem closedRun_bin {op : BinOp} {t : TypeId} {x y : Operand} {u : TypeId} : closedRun P ρ ⟨none, .binOp op t x y u, ty, "", #[], none⟩ = binC P op t x y (ρ x) (ρ y) := by
  unfold closedRun binC
  have : execOp ρ ⟨none, .binOp op t x y u, ty, "", #[], none⟩ = (do pure (Next.value (← (do eqGuard op t x y (ρ x) (ρ y); binOp op t (ρ x) (ρ y)))) : Sem Next) := rfl
  rw [this, pureRun_map]
  simp only [Op.operands]
  simp only [List.all_toArray, List.all_cons, List.all_nil, Bool.and_true]
  cases pureRun P (do eqGuard op t x y (ρ x) (ρ y); binOp op t (ρ x) (ρ y)) <;> rfl

theorem opA_bin {op : BinOp} {t : TypeId} {x y : Operand} {u : TypeId} (hx : operandOk x = true) (hy : operandOk y = true) : opA P H ρ (.binOp op t x y u) ty = binS P H op t x y (ρ x) (ρ y) := by
  rw [ev_of (by simp) (by simp) (by simp) (by simp)]; unfold evalOp binS
  simp only [closedRun_bin]
  simp only [Op.operands, List.all_toArray, List.all_cons, List.all_nil, hx, hy, Bool.and_true, if_true]
  rfl

theorem strEq (s u : ByteArray) : (s.toList == u.toList) = decide (s = u) := by
  rw [ByteArray.toList_eq, ByteArray.toList_eq]
  by_cases h : s = u
  · subst h; simp
  · have : s.data.toList ≠ u.data.toList := by
      intro e
      apply h
      cases s; cases u
      simpa using e
    have h2 : ¬ s.data = u.data := fun e => this (by rw [e])
    simp [h, h2]

theorem pureRun_underlying {t : TypeId} {d : TypeDesc} (h : P.underlying t = some d) : pureRun P (underlying t) = some d := by
  unfold underlying
  have e : pureRun P (program : Sem Program) = some P := rfl
  rw [pureRun_seq e]
  rw [h]
  rfl

section
variable {t : TypeId} {x y : Operand} {k : IntKind} {a b : Int}
theorem binS_of {op : BinOp} {v w r : Value} (h : binC P op t x y v w = some r) : binS P H op t x y v w = some (.val r H) := by unfold binS; rw [h]
theorem bin_lss : binS P H .lss t x y (.int k a) (.int k b) = some (.val (.bool (decide (a < b))) H) := binS_of (by simp [binC, closedV, pureRun_pure, go_sem])
theorem bin_leq : binS P H .leq t x y (.int k a) (.int k b) = some (.val (.bool (decide (a ≤ b))) H) := binS_of (by simp [binC, closedV, pureRun_pure, go_sem])
theorem bin_gtr : binS P H .gtr t x y (.int k a) (.int k b) = some (.val (.bool (decide (b < a))) H) := binS_of (by simp [binC, closedV, pureRun_pure, go_sem])
theorem bin_geq : binS P H .geq t x y (.int k a) (.int k b) = some (.val (.bool (decide (b ≤ a))) H) := binS_of (by simp [binC, closedV, pureRun_pure, go_sem])
theorem bin_eql : binS P H .eql t x y (.int k a) (.int k b) = some (.val (.bool (decide (a = b))) H) := binS_of (by
  have : eqGuard .eql t x y (.int k a) (.int k b) = pure () := rfl
  simp [binC, closedV, pureRun_pure, go_sem, this]; rfl)
theorem bin_neq : binS P H .neq t x y (.int k a) (.int k b) = some (.val (.bool (!decide (a = b))) H) := binS_of (by
  have : eqGuard .neq t x y (.int k a) (.int k b) = pure () := rfl
  simp [binC, closedV, pureRun_pure, go_sem, this]; rfl)
theorem bin_add : binS P H .add t x y (.int k a) (.int k b) = some (.val (.int k (k.wrap (a + b))) H) := binS_of (by simp [binC, closedV, pureRun_pure, go_sem])
theorem bin_sub : binS P H .sub t x y (.int k a) (.int k b) = some (.val (.int k (k.wrap (a - b))) H) := binS_of (by simp [binC, closedV, pureRun_pure, go_sem])
theorem bin_mul : binS P H .mul t x y (.int k a) (.int k b) = some (.val (.int k (k.wrap (a * b))) H) := binS_of (by simp [binC, closedV, pureRun_pure, go_sem])
theorem bin_rem (hb : b ≠ 0) : binS P H .rem t x y (.int k a) (.int k b) = some (.val (.int k (a.tmod b)) H) := binS_of (by simp [binC, closedV, pureRun_pure, go_sem, hb])
theorem bin_quo (hb : b ≠ 0) : binS P H .quo t x y (.int k a) (.int k b) = some (.val (.int k (k.wrap (a.tdiv b))) H) := binS_of (by simp [binC, closedV, pureRun_pure, go_sem, hb])
theorem bin_seql {s u : ByteArray} : binS P H .eql t x y (.string s) (.string u) = some (.val (.bool (decide (s = u))) H) := binS_of (by
  have : eqGuard .eql t x y (.string s) (.string u) = pure () := rfl
  simp [binC, closedV, pureRun_pure, go_sem, this, strEq])
theorem bin_sneq {s u : ByteArray} : binS P H .neq t x y (.string s) (.string u) = some (.val (.bool (!decide (s = u))) H) := binS_of (by
  have : eqGuard .neq t x y (.string s) (.string u) = pure () := rfl
  simp [binC, closedV, pureRun_pure, go_sem, this, strEq])
theorem pureRun_eqBool {p q : Bool} (hu : P.underlying t = some .bool) : pureRun P (Op.equal t (.bool p) (.bool q)) = some (p == q) := by
  unfold Op.equal
  show pureRun P (Op.equalIn 10000 t (.bool p) (.bool q)) = _
  unfold Op.equalIn
  rw [pureRun_seq (pureRun_underlying hu)]
  rfl
theorem bin_beql {p q : Bool} (hu : P.underlying t = some .bool) : binS P H .eql t x y (.bool p) (.bool q) = some (.val (.bool (p == q)) H) := binS_of (by
  have h1 : eqGuard .eql t x y (.bool p) (.bool q) = pure () := rfl
  have h2 : binOp .eql t (.bool p) (.bool q) = (do pure (.bool (← Op.equal t (.bool p) (.bool q)))) := rfl
  unfold binC
  rw [h1, pureRun_seq pureRun_pure, h2, pureRun_seq (pureRun_eqBool hu)]
  simp [closedV, pureRun_pure])
theorem bin_bneq {p q : Bool} (hu : P.underlying t = some .bool) : binS P H .neq t x y (.bool p) (.bool q) = some (.val (.bool (!(p == q))) H) := binS_of (by
  have h1 : eqGuard .neq t x y (.bool p) (.bool q) = pure () := rfl
  have h2 : binOp .neq t (.bool p) (.bool q) = (do pure (.bool (!(← Op.equal t (.bool p) (.bool q))))) := rfl
  unfold binC
  rw [h1, pureRun_seq pureRun_pure, h2, pureRun_seq (pureRun_eqBool hu)]
  simp [closedV, pureRun_pure])
/-- A comparison that is nil's. -/
theorem bin_nil {op : BinOp} {v w : Value} {d : TypeDesc} {b : Bool} (hc : binC P op t x y v w = none ∨ closedV v = false ∨ closedV w = false) (hu : P.underlying t = some d) (hn : nilEq d v w = some b) :
    (op = .eql → binS P H op t x y v w = some (.val (.bool b) H)) ∧ (op = .neq → binS P H op t x y v w = some (.val (.bool (!b)) H)) := by
  have : binC P op t x y v w = none := by
    rcases hc with h | h | h
    · exact h
    · unfold binC; rw [h]; rfl
    · unfold binC; rw [h, Bool.and_false]; rfl
  unfold binS
  rw [this, hu]
  dsimp only
  rw [hn]
  constructor <;> (intro h; subst h; rfl)
end

end
end B
end Go.Proofs.Ytnjoaffnfjlcaaa

namespace Go.Proofs.Ytnjoaffnfjlcaaa
namespace B
open Go

def leaveR (P : Program) (rs : List ResultVar) : Option (AExit × St) → Option (AEnd × AHeap)
  | some (.normal, ⟨tmps, [], H⟩) => match resultsA P H tmps rs with
    | some vs => some (.ret (packA vs), H)
    | none => none
  | some (.ret, ⟨tmps, [], H⟩) => match resultsA P H tmps rs with
    | some vs => some (.ret (packA vs), H)
    | none => none
  | some (.panic v, ⟨_, [], H⟩) => some (.panic v, H)
  | _ => none

section
variable {P : Program} {ext : CallT}

theorem leaveA_R (fn : Func) (x : Option (AExit × St)) : leaveA P fn x = leaveR P fn.results.toList x := rfl

theorem theCall_run {f : FuncId} {fn : Func} {c : Code} {rs : List ResultVar} {n : Nat} {args : List Value} {H : AHeap} {r : Option (AEnd × AHeap)} (hx : ext f args H = none) (hf : P.funcs[f]? = some fn) (hb : fn.body = some c)
    (hr : fn.results.toList = rs) (hn : fn.ntmps = n) (hl : args.length ≤ n) (h : ∀ tm : List Value, tm.length = n → (∀ i, tm.getD i undef = args.getD i undef) → leaveR P rs (theCode P ext false c ⟨tm, [], H⟩) = r) :
    theCall P ext f args H = r := by
  rw [theCall_body hx hf hb, leaveA_R, hr]
  unfold enterA
  rw [hn]
  refine h _ (by simp; omega) fun i => ?_
  rw [List.getD_eq_getElem?_getD, List.getD_eq_getElem?_getD]
  rcases Nat.lt_or_ge i args.length with hi | hi
  · rw [List.getElem?_append_left hi]
  · rw [List.getElem?_append_right hi, List.getElem?_eq_none hi, List.getElem?_replicate]
    split <;> rfl

theorem leaveR_ret {rs : List ResultVar} {tm : List Value} {H : AHeap} : leaveR P rs (some (.ret, ⟨tm, [], H⟩)) = (resultsA P H tm rs).map fun vs => (.ret (packA vs), H) := by
  unfold leaveR; dsimp only; cases h : resultsA P H tm rs <;> rfl
theorem leaveR_normal {rs : List ResultVar} {tm : List Value} {H : AHeap} : leaveR P rs (some (.normal, ⟨tm, [], H⟩)) = (resultsA P H tm rs).map fun vs => (.ret (packA vs), H) := by
  unfold leaveR; dsimp only; cases h : resultsA P H tm rs <;> rfl
theorem leaveR_panic {rs : List ResultVar} {tm : List Value} {H : AHeap} {v : Value} : leaveR P rs (some (.panic v, ⟨tm, [], H⟩)) = some (.panic v, H) := rfl
theorem leaveR_ite {rs : List ResultVar} {c : Prop} [Decidable c] {x y : Option (AExit × St)} : leaveR P rs (if c then x else y) = if c then leaveR P rs x else leaveR P rs y := by split <;> rfl

theorem resA_nil {H : AHeap} {tm : List Value} : resultsA P H tm [] = some [] := rfl
theorem resA_tmp {H : AHeap} {tm : List Value} {t : Nat} {rs : List ResultVar} : resultsA P H tm (.tmp t :: rs) = (resultsA P H tm rs).map fun vs => tm.getD t undef :: vs := by
  conv => lhs; unfold resultsA
  simp only [resultA]
  cases resultsA P H tm rs <;> rfl
theorem pack_one {v : Value} : packA [v] = v := rfl
theorem pack_none : packA [] = .tuple #[] := rfl
theorem pack_two {v w : Value} {l : List Value} : packA (v :: w :: l) = .tuple (v :: w :: l).toArray := rfl


/-! ### Where 'simp' looks -/
@[congr] theorem thenA_congr {x x' : Option (AExit × St)} {k : St → Option (AExit × St)} (h : x = x') : thenA x k = thenA x' k := by rw [h]
@[congr] theorem contA_congr {call : CallT} {dst : Option Nat} {k : St → Option (AExit × St)} {s : St} {x x' : Option ARes} (h : x = x') : contA call dst k s x = contA call dst k s x' := by rw [h]
@[congr] theorem callA_congr {dst : Option Nat} {k : St → Option (AExit × St)} {tm : List Value} {dfs : List ADef} {x x' : Option (AEnd × AHeap)} (h : x = x') : callA dst k tm dfs x = callA dst k tm dfs x' := by rw [h]
@[congr] theorem evalList_congr {call : CallT} {rnd : Bool} {all l : List Oper} {s s' : St} (h : s = s') : evalList P call rnd all l s = evalList P call rnd all l s' := by rw [h]
@[congr] theorem theCode_congr {rnd : Bool} {c : Code} {s s' : St} (h : s = s') : theCode P ext rnd c s = theCode P ext rnd c s' := by rw [h]
@[congr] theorem drawRun_congr {call : CallT} {ops : List Oper} {s s' : St} (h : s = s') : drawRun P call ops s = drawRun P call ops s' := by rw [h]

theorem yieldA_succ {o : Oper} {l : List Oper} {tm : List Value} {j : Nat} : yieldA (o :: l) tm (j + 1) = yieldA l tm j := by
  unfold yieldA; rfl
theorem yieldA_zero {d : Nat} {op : Op} {ty : TypeId} {pos : String} {af : Array Edge} {g : Option (Nat × Bool)} {l : List Oper} {tm : List Value} (h : d < tm.length) : yieldA (⟨some d, op, ty, pos, af, g⟩ :: l) tm 0 = boolOf (tm.getD d undef) := by
  unfold yieldA
  simp [List.getElem?_eq_getElem h]


def slotAt (all : List Oper) (j : Nat) : Option Nat := match all[j]? with
  | some o => o.dst
  | none => none
def yieldS (tm : List Value) : Option Nat → Option Bool
  | some d => match tm[d]? with
    | some v => boolOf v
    | none => none
  | none => none
theorem yieldA_S {all : List Oper} {tm : List Value} {j : Nat} : yieldA all tm j = yieldS tm (slotAt all j) := by
  unfold yieldA slotAt yieldS
  cases all[j]? with
  | none => rfl
  | some o =>
    dsimp only
    cases o.dst with
    | none => rfl
    | some d => rfl
theorem slotAt_succ {o : Oper} {l : List Oper} {j : Nat} : slotAt (o :: l) (j + 1) = slotAt l j := rfl
theorem slotAt_zero {d : Option Nat} {op : Op} {ty : TypeId} {pos : String} {af : Array Edge} {g : Option (Nat × Bool)} {l : List Oper} : slotAt (⟨d, op, ty, pos, af, g⟩ :: l) 0 = d := rfl
theorem yieldS_some {tm : List Value} {d : Nat} (h : d < tm.length) : yieldS tm (some d) = boolOf (tm.getD d undef) := by
  unfold yieldS
  simp [List.getElem?_eq_getElem h]

/-! ### Side conditions (not by 'rfl': 'simp' cannot hand those on) -/
theorem nd_move {x : Operand} : isDefer (.move x) = false := by simp [isDefer]
theorem nd_assign {x : Operand} : isDefer (.assign x) = false := by simp [isDefer]
theorem nd_pick {c a b : Operand} : isDefer (.pick c a b) = false := by simp [isDefer]
theorem nd_alloc {t : TypeId} : isDefer (.alloc t) = false := by simp [isDefer]
theorem nd_box {t : TypeId} {x : Operand} : isDefer (.box t x) = false := by simp [isDefer]
theorem nd_build {t : TypeId} {ps : Array (Nat × Operand)} : isDefer (.build t ps) = false := by simp [isDefer]
theorem nd_buildSlice {t : TypeId} {n : Nat} {ps : Array (Nat × Operand)} : isDefer (.buildSlice t n ps) = false := by simp [isDefer]
theorem nd_load {t : TypeId} {x : Operand} : isDefer (.load t x) = false := by simp [isDefer]
theorem nd_store {t : TypeId} {x y : Operand} : isDefer (.store t x y) = false := by simp [isDefer]
theorem nd_nilCheck {x : Operand} : isDefer (.nilCheck x) = false := by simp [isDefer]
theorem nd_binOp {o : BinOp} {t u : TypeId} {x y : Operand} : isDefer (.binOp o t x y u) = false := by simp [isDefer]
theorem nd_unOp {o : UnOp} {t : TypeId} {x : Operand} : isDefer (.unOp o t x) = false := by simp [isDefer]
theorem nd_convert {t u : TypeId} {x : Operand} : isDefer (.convert t u x) = false := by simp [isDefer]
theorem nd_makeInterface {t : TypeId} {x : Operand} : isDefer (.makeInterface t x) = false := by simp [isDefer]
theorem nd_makeFunc {f : Fn} {u v : Array Operand} : isDefer (.makeFunc f u v) = false := by simp [isDefer]
theorem nd_makeMap {t : TypeId} {r : Option Operand} : isDefer (.makeMap t r) = false := by simp [isDefer]
theorem nd_slice {t : TypeId} {x : Operand} {l h m : Option Operand} : isDefer (.slice t x l h m) = false := by simp [isDefer]
theorem nd_fieldAddr {t : TypeId} {x : Operand} {f : Nat} : isDefer (.fieldAddr t x f) = false := by simp [isDefer]
theorem nd_field {t : TypeId} {x : Operand} {f : Nat} : isDefer (.field t x f) = false := by simp [isDefer]
theorem nd_indexAddr {t : TypeId} {x i : Operand} : isDefer (.indexAddr t x i) = false := by simp [isDefer]
theorem nd_index {t : TypeId} {x i : Operand} : isDefer (.index t x i) = false := by simp [isDefer]
theorem nd_lookup {t : TypeId} {x i : Operand} {ok : Bool} : isDefer (.lookup t x i ok) = false := by simp [isDefer]
theorem nd_mapUpdate {t : TypeId} {m k v : Operand} : isDefer (.mapUpdate t m k v) = false := by simp [isDefer]
theorem nd_typeAssert {x : Operand} {t u : TypeId} {ok : Bool} : isDefer (.typeAssert x t u ok) = false := by simp [isDefer]
theorem nd_extract {x : Operand} {i : Nat} : isDefer (.extract x i) = false := by simp [isDefer]
theorem nd_call {c : Call} : isDefer (.call c) = false := by simp [isDefer]
theorem nd_panic {x : Operand} : isDefer (.panic x) = false := by simp [isDefer]
theorem ok_tmp {i : Nat} : operandOk (.tmp i) = true := by simp [operandOk]
theorem ok_func {f : FuncId} : operandOk (.func f) = true := by simp [operandOk]
theorem ok_const {v : Value} : operandOk (.const v) = closedV v := by simp [operandOk]
theorem cl_bool {b : Bool} : closedV (.bool b) = true := by simp [closedV]
theorem cl_int {k : IntKind} {n : Int} : closedV (.int k n) = true := by simp [closedV]
theorem cl_string {b : ByteArray} : closedV (.string b) = true := by simp [closedV]
theorem cl_ptr : closedV (.pointer none) = true := by simp [closedV]
theorem cl_map : closedV (.map none) = true := by simp [closedV]
theorem cl_nilFunc : closedV .nilFunc = true := by simp [closedV]
theorem cl_nilIface : closedV .nilIface = true := by simp [closedV]
theorem cl_slice : closedV (.slice none 0 0) = true := by simp [closedV]
theorem cl_iface {t : TypeId} {v : Value} : closedV (.iface t v) = closedV v := by simp [closedV]
theorem cl_agg {l : List Value} : closedV (.agg l.toArray) = closedL l := by simp [closedV, closedA]
theorem cl_tuple {l : List Value} : closedV (.tuple l.toArray) = closedL l := by simp [closedV, closedA]
theorem cl_nil : closedL [] = true := by simp [closedL]
theorem cl_cons {v : Value} {l : List Value} : closedL (v :: l) = (closedV v && closedL l) := by simp [closedL]
theorem cl_ptr_some {a : Addr} : closedV (.pointer (some a)) = false := by simp [closedV]
theorem cl_map_some {a : Nat} : closedV (.map (some a)) = false := by simp [closedV]
theorem cl_slice_some {a : Addr} {n c : Nat} : closedV (.slice (some a) n c) = false := by simp [closedV]

end
end B
end Go.Proofs.Ytnjoaffnfjlcaaa

namespace Go.Proofs.Ytnjoaffnfjlcaaa
namespace B
open Go

def dropP : Option (AExit × St) → Option (AExit × St)
  | some (.panic v, s) => some (.panic v, ⟨[], s.dfs, s.H⟩)
  | r => r
theorem dropP_normal {s : St} : dropP (some (.normal, s)) = some (.normal, s) := rfl
theorem dropP_panic {s : St} {v : Value} : dropP (some (.panic v, s)) = some (.panic v, ⟨[], s.dfs, s.H⟩) := rfl
theorem dropP_ite {c : Prop} [Decidable c] {x y : Option (AExit × St)} : dropP (if c then x else y) = if c then dropP x else dropP y := by split <;> rfl

section
variable {P : Program} {call : CallT}

theorem evalIdx_step {rnd : Bool} {all : List Oper} {j : Nat} {rest : List Nat} {s : St} {o : Oper} (ho : all[j]? = some o) (hd : isDefer o.op = false) :
    evalIdx P call rnd all (j :: rest) s = if wantedA all s.tmps o then contA call o.dst (evalIdx P call rnd all rest) s (evalAny P s.H (aev s.tmps) o) else evalIdx P call rnd all rest ⟨putT o.dst undef s.tmps, s.dfs, s.H⟩ := by
  have hnd : ∀ c, o.op ≠ .defer c := by intro c hc; rw [hc] at hd; simp [isDefer] at hd
  conv => lhs; unfold evalIdx
  rw [ho]
  dsimp only
  split
  · split
    · rename_i c hc; exact absurd hc (hnd c)
    · cases hev : evalAny P s.H (aev s.tmps) o with
      | none => rfl
      | some r =>
        cases r <;> rfl
  · rfl

theorem runPlan_idx {ops : List Oper} (hnd : ∀ o ∈ ops, isDefer o.op = false) : ∀ (plan : List Nat) (tm : List Value) (dfs : List ADef) (H : AHeap), (∀ j ∈ plan, j < ops.length) →
    (runPlan P call ops dfs plan tm H).map (fun r => (r.2.2.1, r.2.2.2)) = dropP (evalIdx P call true ops plan ⟨tm, dfs, H⟩)
  | [], _, _, _, _ => rfl
  | j :: rest, tm, dfs, H, hj => by
    have hlt := hj j (by simp)
    have ih := fun tm H => runPlan_idx hnd rest tm dfs H (fun i hi => hj i (by simp [hi]))
    have hcons : ∀ (t : Tr) (x : Option (List Tr × AHeap × AExit × St)), (consT t x).map (fun r => (r.2.2.1, r.2.2.2)) = x.map (fun r => (r.2.2.1, r.2.2.2)) := by
      intro t x; cases x <;> rfl
    rw [evalIdx_step (List.getElem?_eq_getElem hlt) (hnd _ (List.getElem_mem hlt))]
    unfold runPlan
    rw [List.getElem?_eq_getElem hlt]
    dsimp only
    split
    · cases hev : evalAny P H (aev tm) ops[j] with
      | none => rfl
      | some r =>
        cases r with
        | val v H' => simp only [hcons, ih, contA]
        | skip H' => simp only [hcons, ih, contA]
        | panic v H' => rfl
        | defer d args H' => rfl
        | enter f args H1 =>
          simp only [contA]
          cases hc : call f args H1 with
          | none => rfl
          | some q =>
            obtain ⟨e, H'⟩ := q
            cases e with
            | ret v => simp only [hcons, ih]
            | panic v => rfl
    · rw [hcons, ih]

/-- The plan is the text's own order, and nothing is read beside what acts. -/
def textOK (l : List Oper) : Bool :=
  (planOf l == List.range l.length) && edgesOK l && okStatic l (befOf l) (planOf l) && quietOK l (befOf l) (planOf l) && l.all fun o => !(isDefer o.op)

theorem drawRun_text {l : List Oper} (h : textOK l = true) {s : St} : drawRun P call l s = dropP (evalList P call true l l s) := by
  unfold textOK at h
  simp only [Bool.and_eq_true, beq_iff_eq] at h
  obtain ⟨⟨⟨⟨h1, h2⟩, h3⟩, h4⟩, h5⟩ := h
  have hnd : ∀ o ∈ l, isDefer o.op = false := fun o ho => by simpa using List.all_eq_true.1 h5 o ho
  have hp := runPlan_idx (P := P) (call := call) hnd (planOf l) s.tmps s.dfs s.H (by rw [h1]; intro j hj; simpa using hj)
  have he : evalIdx P call true l (planOf l) s = evalList P call true l l s := by
    have := evalIdx_from (P := P) (call := call) (rnd := true) (ops := l) l.length 0 s (by omega)
    rw [List.drop_zero] at this
    rw [← this, h1, List.range_eq_range']
  rw [← he]
  have hs : (⟨s.tmps, s.dfs, s.H⟩ : St) = s := rfl
  rw [hs] at hp
  rw [← hp]
  unfold drawRun
  cases runPlan P call l s.dfs (planOf l) s.tmps s.H with
  | none => rfl
  | some r =>
    obtain ⟨T, He, x, s'⟩ := r
    dsimp only
    rw [if_pos ⟨h2, h3, .inl h4⟩]
    rfl

theorem theCode_text {ext : CallT} {rnd : Bool} {id : Nat} {l : List Oper} {s : St} (h : textOK l = true) : theCode P ext rnd (.region id l.toArray true) s = dropP (evalList P (theCall P ext) true l l s) := by
  rw [theCode_draw, ← drawRun_text h]

/-- The plan in another order than the text's; nothing is read beside what acts. -/
def planOK' (l : List Oper) (plan : List Nat) : Bool :=
  (planOf l == plan) && edgesOK l && okStatic l (befOf l) plan && quietOK l (befOf l) plan && (l.all fun o => !(isDefer o.op)) && plan.all fun j => decide (j < l.length)

theorem evalIdx_list {rnd : Bool} {all : List Oper} : ∀ (plan : List Nat) (s : St), evalIdx P call rnd all plan s = evalList P call rnd all (plan.filterMap fun j => all[j]?) s
  | [], s => rfl
  | j :: rest, s => by
    have ih := fun s => evalIdx_list (rnd := rnd) (all := all) rest s
    cases ho : all[j]? with
    | none =>
      rw [List.filterMap_cons_none ho]
      unfold evalIdx
      rw [ho]
      exact ih s
    | some o =>
      rw [List.filterMap_cons_some ho]
      unfold evalIdx evalList
      rw [ho]
      dsimp only
      split
      · cases hd : isDefer o.op with
        | true =>
          simp only [if_true]
          cases hop : o.op <;> rw [hop] at hd <;> simp [isDefer] at hd
          rename_i c
          simp only []
          split
          · cases hdd : deferOf P (aev s.tmps) c with
            | none => rfl
            | some d => exact ih _
          · rfl
        | false =>
          simp only [Bool.false_eq_true, if_false]
          have hnd : ∀ c, o.op ≠ .defer c := by intro c hc; rw [hc] at hd; simp [isDefer] at hd
          rw [← evalAny_op]
          split
          · rename_i c hc; exact absurd hc (hnd c)
          · cases hev : evalAny P s.H (aev s.tmps) o with
            | none => rfl
            | some r =>
              cases r <;> simp only [contA] <;> first | exact ih _ | rfl | skip
              rename_i f args H
              cases call f args H with
              | none => rfl
              | some q =>
                obtain ⟨e, H'⟩ := q
                cases e
                · exact ih _
                · rfl
      · exact ih _

theorem drawRun_plan {l : List Oper} {plan : List Nat} (h : planOK' l plan = true) {s : St} : drawRun P call l s = dropP (evalList P call true l (plan.filterMap fun j => l[j]?) s) := by
  unfold planOK' at h
  simp only [Bool.and_eq_true, beq_iff_eq] at h
  obtain ⟨⟨⟨⟨⟨h1, h2⟩, h3⟩, h4⟩, h5⟩, h6⟩ := h
  have hnd : ∀ o ∈ l, isDefer o.op = false := fun o ho => by simpa using List.all_eq_true.1 h5 o ho
  have hp := runPlan_idx (P := P) (call := call) hnd plan s.tmps s.dfs s.H (fun j hj => by simpa using List.all_eq_true.1 h6 j hj)
  rw [← evalIdx_list]
  have hs : (⟨s.tmps, s.dfs, s.H⟩ : St) = s := rfl
  rw [hs] at hp
  rw [← hp]
  unfold drawRun
  rw [h1]
  cases runPlan P call l s.dfs plan s.tmps s.H with
  | none => rfl
  | some r =>
    obtain ⟨T, He, x, s'⟩ := r
    dsimp only
    rw [if_pos ⟨h2, h3, .inl h4⟩]
    rfl

@[congr] theorem dropP_congr {x x' : Option (AExit × St)} (h : x = x') : dropP x = dropP x' := by rw [h]

end
end B
end Go.Proofs.Ytnjoaffnfjlcaaa

namespace Go.Proofs.Ytnjoaffnfjlcaaa
namespace B
open Go

section
variable {P : Program} {H : AHeap}

/-! ### Things got -/
theorem get_set_same {i : Nat} {o : AObj} : (H.set i o).get i = some o := by simp [AHeap.set]
theorem get_set_ne {i j : Nat} {o : AObj} (h : j ≠ i) : (H.set i o).get j = H.get j := by simp [AHeap.set, h]
theorem get_push_new {o : AObj} : (H.push o).get H.next = some o := by simp [AHeap.push]
theorem get_push_old {j : Nat} {o : AObj} (h : j ≠ H.next) : (H.push o).get j = H.get j := by simp [AHeap.push, h]
theorem next_set {i : Nat} {o : AObj} : (H.set i o).next = H.next := rfl
theorem next_push {o : AObj} : (H.push o).next = H.next + 1 := rfl
theorem set_set {i : Nat} {o o' : AObj} : (H.set i o).set i o' = H.set i o' := by
  unfold AHeap.set; congr 1; funext j; simp only; split <;> rfl

theorem addA_mk {b o n : Nat} {s : Option Nat} : addA ⟨b, o, s⟩ n = ⟨b, o + n, s⟩ := rfl

/-! ### Cells -/
def cellO : Option AObj → Nat → Nat → Option Value
  | some (.box cs _), o, _ => cs[o]?
  | some (.arr cs st _ _ _), o, g => if st.getD o 0 ≤ g then cs[o]? else none
  | _, _, _ => none

theorem cell_eq {b o : Nat} {s : Option Nat} : H.cell ⟨b, o, s⟩ = cellO (H.get b) o (s.getD 0) := by
  unfold AHeap.cell AHeap.view cellO agen
  cases H.get b with
  | none => rfl
  | some x =>
    cases x with
    | map es => rfl
    | loop r => rfl
    | box cs e =>
      simp only [Option.bind_some, AObj.view]
      cases cs[o]? <;> simp
    | arr cs st g e ro =>
      simp only [Option.bind_some, AObj.view]
      cases hc : cs[o]? with
      | none => simp
      | some v => simp
theorem cellO_box {cs : List Value} {e : TypeId} {o g : Nat} : cellO (some (.box cs e)) o g = cs[o]? := rfl
theorem cellO_arr {cs : List Value} {st : List Nat} {g0 : Nat} {e : TypeId} {ro : Bool} {o g : Nat} : cellO (some (.arr cs st g0 e ro)) o g = if st.getD o 0 ≤ g then cs[o]? else none := rfl

/-- A box's cells read in a row. -/
theorem readN_box {b : Nat} {s : Option Nat} {cs : List Value} {e : TypeId} (h : H.get b = some (.box cs e)) : ∀ (n o : Nat), o + n ≤ cs.length → H.readN ⟨b, o, s⟩ n = some ((cs.drop o).take n)
  | 0, o, _ => by simp [AHeap.readN]
  | n + 1, o, hle => by
    unfold AHeap.readN
    rw [cell_eq, h, cellO_box, List.getElem?_eq_getElem (by omega)]
    dsimp only
    rw [addA_mk, readN_box h n (o + 1) (by omega)]
    dsimp only
    rw [List.drop_eq_getElem_cons (by omega : o < cs.length)]
    rfl

def boxCells : Option AObj → Option (List Value)
  | some (.box cs _) => some cs
  | _ => none

/-- An aggregate loaded out of a box. -/
theorem readN_boxO {b o n : Nat} {s : Option Nat} (hb : ((boxCells (H.get b)).map fun cs => decide (o + n ≤ cs.length)) = some true) : H.readN ⟨b, o, s⟩ n = (boxCells (H.get b)).map fun cs => (cs.drop o).take n := by
  cases hg : H.get b with
  | none => rw [hg] at hb; simp [boxCells] at hb
  | some x =>
    cases x with
    | box cs e =>
      rw [hg] at hb
      simp only [boxCells, Option.map_some, Option.some.injEq, decide_eq_true_eq] at hb ⊢
      exact readN_box hg n o hb
    | arr => rw [hg] at hb; simp [boxCells] at hb
    | map => rw [hg] at hb; simp [boxCells] at hb
    | loop => rw [hg] at hb; simp [boxCells] at hb

theorem loadV_flat {t : TypeId} {a : Addr} (h : aggT P t = some false) : H.loadV P t a = H.cell a := by unfold AHeap.loadV; rw [h]
theorem loadV_agg {t : TypeId} {a : Addr} (h : aggT P t = some true) (h2 : (P.info? t).isSome = true) : H.loadV P t a = (H.readN a (P.cellsOf t)).map fun vs => .agg vs.toArray := by
  unfold AHeap.loadV
  rw [h]
  dsimp only
  unfold Program.cellsOf
  cases hi : P.info? t with
  | none => rw [hi] at h2; simp at h2
  | some i =>
    simp only [Option.map_some, Option.getD_some]
    cases H.readN a i.size <;> rfl

/-! ### Stores -/
def setCellO (H : AHeap) (b o g : Nat) (v : Value) : Option AObj → Option AHeap
  | some (.box cs e) => if g = 0 ∧ o < cs.length then some (H.set b (.box (cs.set o v) e)) else none
  | some (.arr cs st g0 e false) => if g = g0 ∧ o < cs.length ∧ o < st.length then some (H.set b (.arr (cs.set o v) (st.set o g0) g0 e false)) else none
  | _ => none

theorem setCell_eq {b o : Nat} {s : Option Nat} {v : Value} (hf : flatV v = true) : H.setCell ⟨b, o, s⟩ v = setCellO H b o (s.getD 0) v (H.get b) := by
  unfold AHeap.setCell setCellO agen
  rw [if_pos hf]
  split <;> simp_all

theorem setCellO_box {b o g : Nat} {v : Value} {cs : List Value} {e : TypeId} (hg : g = 0) (ho : o < cs.length) : setCellO H b o g v (some (.box cs e)) = some (H.set b (.box (cs.set o v) e)) := by
  unfold setCellO; simp [hg, ho]

theorem storeV_flat {t : TypeId} {a : Addr} {v : Value} (h : P.cellsOf t = 1) (h2 : (P.info? t).isSome = true) (hv : v.cells = #[v]) : H.storeV P t a v = H.setCell a v := by
  unfold AHeap.storeV
  cases hi : P.info? t with
  | none => rw [hi] at h2; simp at h2
  | some i =>
    have : i.size = 1 := by unfold Program.cellsOf at h; rw [hi] at h; simpa using h
    simp only [hv, this]
    simp only [List.size_toArray, List.length_cons, List.length_nil, Nat.zero_add, if_true]
    unfold AHeap.setN
    cases H.setCell a v <;> rfl

def fieldOff (P : Program) (s : TypeId) (f : Nat) : Option Nat := match P.underlying s with
  | some (.struct fields) => match fields[f]? with
    | some fd => match P.info? fd.type with
      | some i => if i.size = 0 then none else some fd.offset
      | none => none
    | none => none
  | _ => none

theorem fieldAddrS_eq {s : TypeId} {f b o : Nat} {sp : Option Nat} : fieldAddrS P H s f (.pointer (some ⟨b, o, sp⟩)) = (fieldOff P s f).map fun off => .val (.pointer (some ⟨b, o + off, sp⟩)) H := by
  unfold fieldAddrS fieldOff
  cases P.underlying s with
  | none => rfl
  | some d =>
    cases d <;> try rfl
    rename_i fields
    dsimp only
    cases fields[f]? with
    | none => rfl
    | some fd =>
      dsimp only
      cases P.info? fd.type with
      | none => rfl
      | some i =>
        dsimp only
        split <;> rfl

/-! ### Making -/
variable {ρ : Operand → Value} {ty : TypeId}

theorem opA_box {t : TypeId} {x : Operand} (hx : operandOk x = true) (hi : (P.info? t).isSome = true) (hf : (ρ x).cells.toList.all flatV = true) :
    opA P H ρ (.box t x) ty = some (.val (.pointer (some ⟨H.next, 0, none⟩)) (H.push (.box (ρ x).cells.toList t))) := by
  rw [ev_of (by simp) (by simp) (by simp) (by simp)]; unfold evalOp
  simp only [Op.operands]
  cases h : P.info? t with
  | none => rw [h] at hi; simp at hi
  | some i => simp [hx, h, hf]

def zeroOf (P : Program) (t : TypeId) : Option Value := match P.info? t with
  | some i => match i.zero with
    | some z => if closedV z && z.cells.toList.all flatV then some z else none
    | none => none
  | none => none

theorem opA_alloc {t : TypeId} : opA P H ρ (.alloc t) ty = (zeroOf P t).map fun z => .val (.pointer (some ⟨H.next, 0, none⟩)) (H.push (.box z.cells.toList t)) := by
  rw [ev_of (by simp) (by simp) (by simp) (by simp)]; unfold evalOp zeroOf
  simp only [Op.operands]
  simp
  cases P.info? t with
  | none => rfl
  | some i =>
    dsimp only
    cases i.zero with
    | none => rfl
    | some z => dsimp only; split <;> rfl

theorem opA_makeMap {t : TypeId} : opA P H ρ (.makeMap t none) ty = some (.val (.map (some H.next)) (H.push (.map []))) := by
  rw [ev_of (by simp) (by simp) (by simp) (by simp)]; unfold evalOp; simp [Op.operands]

theorem opA_makeFunc {f : FuncId} {u v : Array Operand} (hu : u.all operandOk = true) (hv : v.all operandOk = true) : opA P H ρ (.makeFunc (.func f) u v) ty = some (.val (.func (.func f) (u.map ρ) (v.map ρ)) H) := by
  rw [ev_of (by simp) (by simp) (by simp) (by simp)]; unfold evalOp
  have : (Op.makeFunc (.func f) u v).operands.all operandOk = true := by
    simp only [Op.operands, Array.all_append, hu, hv, Bool.and_self]
  simp only [this, if_true]

def unS (P : Program) (H : AHeap) (op : UnOp) (v : Value) : Option ARes :=
  if closedV v then match pureRun P (Op.unary op v) with
    | some r => if closedV r then some (.val r H) else none
    | none => none
  else none
theorem opA_un {op : UnOp} {t : TypeId} {x : Operand} (hx : operandOk x = true) : opA P H ρ (.unOp op t x) ty = unS P H op (ρ x) := by
  rw [ev_of (by simp) (by simp) (by simp) (by simp)]; unfold evalOp unS closedRun
  have : execOp ρ ⟨none, .unOp op t x, ty, "", #[], none⟩ = (do pure (Next.value (← Op.unary op (ρ x))) : Sem Next) := rfl
  rw [this, pureRun_map]
  simp only [Op.operands]
  simp [hx]
  by_cases hc : closedV (ρ x) = true
  · simp only [hc, if_true]
    cases pureRun P (Op.unary op (ρ x)) with
    | none => rfl
    | some r =>
      simp only [Option.map_some]
      cases closedV r <;> rfl
  · simp [hc]
theorem un_not {b : Bool} : unS P H .not (.bool b) = some (.val (.bool !b) H) := by
  unfold unS
  have : Op.unary .not (.bool b) = pure (.bool !b) := rfl
  rw [this, pureRun_pure]
  simp [closedV]

/-! ### Calls -/
def enterB (P : Program) (f : FuncId) : Bool := match P.funcs[f]? with
  | some fn => Func.enters fn
  | none => false

def callS (P : Program) (H : AHeap) (args : List Value) : Value → Option ARes
  | .func (.func g) first captured => if enterB P g then some (.enter g (first.toList ++ args ++ captured.toList) H) else none
  | .func (.yield K) first captured => if first.isEmpty && captured.isEmpty then match H.get K with
      | some (.loop r) => if args.length = r.params.size then some (.enter (P.funcs.size + K) args H) else none
      | _ => none
    else none
  | _ => none

theorem opA_call {f : Operand} {args : List Operand} {tys : Array TypeId} (hf : operandOk f = true) (ha : args.all operandOk = true) :
    opA P H ρ (.call ⟨.value f, args.toArray, tys⟩) ty = callS P H (args.map ρ) (ρ f) := by
  unfold opA evalAny
  have hok : (Op.call ⟨.value f, args.toArray, tys⟩).operands.all operandOk = true := by
    simp only [Op.operands, Call.operands, Array.all_append]
    simp [hf, ha]
  simp only [hok, if_true]
  unfold evalCall callS enterB
  dsimp only
  cases ρ f <;> try rfl
  rename_i fn first cap
  cases fn <;> try rfl
  · rename_i g
    dsimp only
    cases P.funcs[g]? with
    | none => rfl
    | some fn => rfl
  · rename_i K
    dsimp only
    by_cases hc : (first.isEmpty && cap.isEmpty) = true
    · rw [if_pos hc, if_pos hc]
      cases H.get K with
      | none => rfl
      | some o => cases o <;> simp
    · rw [if_neg hc, if_neg hc]

theorem callS_func {args : List Value} {g : FuncId} {first cap : List Value} (h : enterB P g = true) : callS P H args (.func (.func g) first.toArray cap.toArray) = some (.enter g (first ++ args ++ cap) H) := by
  unfold callS; simp only [h, if_true]
theorem callS_yield {args : List Value} {K : Nat} {r : ALoop} (h : H.get K = some (.loop r)) (hs : args.length = r.params.size) : callS P H args (.func (.yield K) #[] #[]) = some (.enter (P.funcs.size + K) args H) := by
  unfold callS; simp [h, hs]
theorem callS_plain {args : List Value} {g : FuncId} (h : enterB P g = true) : callS P H args (.func (.func g) #[] #[]) = some (.enter g args H) := by
  unfold callS; simp [h]

def lenS (P : Program) (H : AHeap) (t : TypeId) (v : Value) : Option ARes := (lenOp P H t v).map fun n => .val (.int .i64 n) H

theorem opA_len {x : Operand} {t : TypeId} (hx : operandOk x = true) (hv : (lenS P H t (ρ x)).isSome = true) : opA P H ρ (.call ⟨.builtin .len, #[x], #[t]⟩) ty = lenS P H t (ρ x) := by
  unfold opA evalAny
  have hok : (Op.call ⟨.builtin .len, #[x], #[t]⟩).operands.all operandOk = true := by
    simp [Op.operands, Call.operands, hx]
  simp only [hok, if_true]
  unfold evalCall
  dsimp only
  unfold lenS at hv ⊢
  cases h : lenOp P H t (ρ x) with
  | none => rw [h] at hv; simp at hv
  | some n => rfl

theorem lenS_slice {t : TypeId} {a : Option Addr} {n c : Nat} (h : isSlice P t = true) : lenS P H t (.slice a n c) = some (.val (.int .i64 n) H) := by
  unfold lenS lenOp; cases a <;> simp [h]

theorem opA_lenStr {x : Operand} {t : TypeId} {s : ByteArray} (hx : operandOk x = true) (hs : ρ x = .string s) (hu : P.underlying t = some .string) : opA P H ρ (.call ⟨.builtin .len, #[x], #[t]⟩) ty = some (.val (.int .i64 s.size) H) := by
  unfold opA evalAny
  have hok : (Op.call ⟨.builtin .len, #[x], #[t]⟩).operands.all operandOk = true := by
    simp [Op.operands, Call.operands, hx]
  simp only [hok, if_true]
  unfold evalCall
  dsimp only
  have h1 : lenOp P H t (ρ x) = none := by rw [hs]; rfl
  have h2 : closedRun P ρ ⟨none, .call ⟨.builtin .len, #[x], #[t]⟩, ty, "", #[], none⟩ = some (.int .i64 s.size) := by
    unfold closedRun
    have hop : (Op.call ⟨.builtin .len, #[x], #[t]⟩).operands = #[x] := by simp [Op.operands, Call.operands]
    simp only [hop]
    have hcl : (#[x] : Array Operand).all (fun y => closedV (ρ y)) = true := by simp [hs, closedV]
    rw [if_pos hcl]
    have : pureRun P (Builtin.len_ #[t] ty #[.string s]) = some (.int .i64 s.size) := by
      unfold Builtin.len_
      show pureRun P (underlying t >>= _) = _
      rw [pureRun_seq (pureRun_underlying hu)]
      rfl
    have he : pureRun P (execOp ρ ⟨none, .call ⟨.builtin .len, #[x], #[t]⟩, ty, "", #[], none⟩) = some (.value (.int .i64 s.size)) := by
      unfold execOp
      simp only [resolve, invoke, builtin, hs, List.map_toArray, List.map_cons, List.map_nil, pure_bind]
      rw [pureRun_seq this]
      rfl
    rw [he]
    rfl
  rw [h1, h2]

/-! ### Facts of the tables -/
theorem info_of {P : Program} {t n : Nat} {i : TypeInfo} (hs : P.types.size = n) (hlt : t < n) (h : P.types[t]? = some i) : P.info? t = some i := by
  have h2 : t < P.types.size := by rw [hs]; exact hlt
  unfold Tables.info?
  rw [if_pos h2]
  exact h
theorem isSome_of {P : Program} {t : TypeId} {i : TypeInfo} (h : P.info? t = some i) : (P.info? t).isSome = true := by rw [h]; rfl
theorem cells_of {P : Program} {t n : Nat} {i : TypeInfo} (h : P.info? t = some i) (hn : i.size = n) : P.cellsOf t = n := by unfold Program.cellsOf; rw [h]; exact hn
theorem agg_of {P : Program} {t : TypeId} {d : TypeDesc} {b : Bool} (h : P.underlying t = some d) (hb : (match d with | .struct _ => true | .array _ _ => true | _ => false) = b) : aggT P t = some b := by
  unfold aggT; rw [h]; subst hb; cases d <;> rfl
theorem isSlice_of {P : Program} {t e : TypeId} (h : P.underlying t = some (.slice e)) : isSlice P t = true := by unfold isSlice; rw [h]
theorem isMap_of {P : Program} {t k e : TypeId} (h : P.underlying t = some (.map k e)) : isMap P t = true := by unfold isMap; rw [h]
theorem fieldOff_of {P : Program} {s f n : Nat} {fields : Array Field} {fd : Field} {i : TypeInfo} (hu : P.underlying s = some (.struct fields)) (hf : fields[f]? = some fd) (hi : P.info? fd.type = some i) (hz : i.size ≠ 0) (hn : fd.offset = n) : fieldOff P s f = some n := by
  unfold fieldOff; rw [hu]; dsimp only; rw [hf]; dsimp only; rw [hi]; dsimp only; rw [if_neg hz, hn]
theorem enterB_of {P : Program} {f : FuncId} {fn : Func} (hf : P.funcs[f]? = some fn) (he : Func.enters fn = true) : enterB P f = true := by unfold enterB; rw [hf]; exact he
theorem und_of {P : Program} {t : TypeId} {d : TypeDesc} (h : P.underlying t = some d) : P.underlying t = some d := by rw [h]

end
end B
end Go.Proofs.Ytnjoaffnfjlcaaa

namespace Go.Proofs.Ytnjoaffnfjlcaaa
namespace B
open Go

section
variable {P : Program} {H : AHeap}

theorem readN_arr {b : Nat} {g : Nat} {cs : List Value} {st : List Nat} {g0 : Nat} {e : TypeId} {ro : Bool} (h : H.get b = some (.arr cs st g0 e ro)) : ∀ (n o : Nat), o + n ≤ cs.length → (∀ j, o ≤ j → j < o + n → st.getD j 0 ≤ g) →
    H.readN ⟨b, o, some g⟩ n = some ((cs.drop o).take n)
  | 0, o, _, _ => by simp [AHeap.readN]
  | n + 1, o, hle, hst => by
    unfold AHeap.readN
    rw [cell_eq, h, cellO_arr]
    rw [if_pos (show st.getD o 0 ≤ (some g).getD 0 from hst o (Nat.le_refl _) (by omega)), List.getElem?_eq_getElem (by omega)]
    dsimp only
    rw [addA_mk, readN_arr h n (o + 1) (by omega) (fun j h1 h2 => hst j (by omega) (by omega))]
    dsimp only
    rw [List.drop_eq_getElem_cons (by omega : o < cs.length)]
    rfl

/-- A slice that the program itself has made, with its elements' cells. -/
inductive Own (H : AHeap) (e sz : Nat) : Value → Nat → List Value → Prop
  | nil : Own H e sz (.slice none 0 0) 0 []
  | row {i g n c : Nat} {cs : List Value} {st : List Nat} (hg : H.get i = some (.arr cs st g e false)) (h2 : n ≤ c) (h3 : n * sz ≤ cs.length) (h4 : cs.length = st.length) (h5 : ∀ j, j < n * sz → st.getD j 0 ≤ g) :
      Own H e sz (.slice (some ⟨i, 0, some g⟩) n c) n (cs.take (n * sz))

def idOf : Value → Option Nat
  | .slice (some a) _ _ => some a.block
  | _ => none

theorem Own.length {e sz : Nat} {v : Value} {n : Nat} {cells : List Value} (h : Own H e sz v n cells) : cells.length = n * sz := by
  cases h with
  | nil => simp
  | row hg h2 h3 h4 h5 => simp; omega

theorem Own.elems {e sz : Nat} {v : Value} {n : Nat} {cells : List Value} (h : Own H e sz v n cells) : AHeap.elems H sz v = some (n, cells) := by
  cases h with
  | nil => rfl
  | row hg h2 h3 h4 h5 =>
    unfold AHeap.elems
    dsimp only
    rw [readN_arr hg _ 0 (by omega) (fun j _ hj => h5 j (by omega))]
    simp

/-- It stays while its row stays. -/
theorem Own.mono {H2 : AHeap} {e sz : Nat} {v : Value} {n : Nat} {cells : List Value} (h : Own H e sz v n cells) (hm : ∀ i, idOf v = some i → H2.get i = H.get i) : Own H2 e sz v n cells := by
  cases h with
  | nil => exact .nil
  | row hg h2 h3 h4 h5 => exact .row (by rw [hm _ rfl]; exact hg) h2 h3 h4 h5

theorem Own.id_lt {e sz : Nat} {v : Value} {n : Nat} {cells : List Value} (h : Own H e sz v n cells) (hf : H.Fresh) : ∀ i, idOf v = some i → i < H.next := by
  intro i hi
  cases h with
  | nil => simp [idOf] at hi
  | row hg h2 h3 h4 h5 =>
    simp only [idOf, Option.some.injEq] at hi
    subst hi
    rcases Nat.lt_or_ge _ H.next with h | h
    · exact h
    · rw [hf _ h] at hg; simp at hg

/-- One element more: 'append(v, x)' as the code has it: the element in a row of its own first. -/
theorem Own.append1 {e sz : Nat} {v : Value} {n : Nat} {cells xs : List Value} {i : TypeInfo} {z : Value} (h : Own H e sz v n cells) (hf : H.Fresh) (hsz : i.size = sz) (hz0 : sz ≠ 0) (hz : i.zero = some z) (hzc : z.cells.size = i.size)
    (hx : xs.length = sz) (hfl : xs.all flatV = true) (hb1 : n + 1 ≤ 9223372036854775807) (hb2 : (n + 1) * i.bytes ≤ maxBytes) :
    ∃ v' H', (H.push (.arr xs (List.replicate xs.length 0) 0 e false)).append i e v (.slice (some ⟨H.next, 0, some 0⟩) 1 1) = some (v', H') ∧ Own H' e sz v' (n + 1) (cells ++ xs) ∧ H'.Fresh ∧ H.next ≤ H'.next ∧
      (∀ j, j < H.next → idOf v ≠ some j → H'.get j = H.get j) ∧ (∀ j, idOf v' = some j → H.next ≤ j ∨ idOf v = some j) := by
  subst hsz
  have hget : (H.push (.arr xs (List.replicate xs.length 0) 0 e false)).get H.next = some (.arr xs (List.replicate xs.length 0) 0 e false) := get_push_new
  have hrep : ∀ j, (List.replicate xs.length 0).getD j 0 ≤ 0 := fun j => by
    rw [List.getD_eq_getElem?_getD, List.getElem?_replicate]; split <;> simp
  have hel : AHeap.elems (H.push (.arr xs (List.replicate xs.length 0) 0 e false)) i.size (.slice (some ⟨H.next, 0, some 0⟩) 1 1) = some (1, xs) := by
    unfold AHeap.elems
    dsimp only
    rw [readN_arr hget _ 0 (by omega) (fun j _ _ => hrep j)]
    simp [← hx]
  have hf1 := (AHeap.le_push H (.arr xs (List.replicate xs.length 0) 0 e false)).fresh hf
  unfold AHeap.append
  rw [if_neg hz0, hz]
  dsimp only
  rw [if_pos hzc, hel]
  dsimp only
  rw [if_pos hfl]
  cases h with
  | nil =>
    try dsimp only
    rw [if_pos ⟨by omega, by simpa using hb2⟩]
    refine ⟨_, _, rfl, ?_, (AHeap.le_push _ _).fresh hf1, ?_, ?_, ?_⟩
    · have := Own.row (H := ((H.push (.arr xs (List.replicate xs.length 0) 0 e false)).push (.arr xs (List.replicate xs.length 0) 0 e false))) (e := e) (sz := i.size) (i := H.next + 1) (g := 0) (n := 1) (c := 1) (cs := xs) (st := List.replicate xs.length 0)
        get_push_new (Nat.le_refl _) (by omega) (by simp) (fun j _ => hrep j)
      simpa [← hx, next_push] using this
    · show H.next ≤ H.next + 1 + 1; omega
    · intro j hj _
      rw [get_push_old (by show j ≠ H.next + 1; omega), get_push_old (by omega)]
    · intro j hj
      simp only [idOf, Option.some.injEq] at hj
      have : j = H.next + 1 := hj.symm
      exact .inl (by omega)
  | @row i' g n c cs st hg h2 h3 h4 h5 =>
    have h1 : g ≤ g := Nat.le_refl _
    have hi' : i' < H.next := by
      rcases Nat.lt_or_ge i' H.next with h | h
      · exact h
      · rw [hf _ h] at hg; simp at hg
    have hg2 : (H.push (.arr xs (List.replicate xs.length 0) 0 e false)).get i' = some (.arr cs st g e false) := by rw [get_push_old (by omega)]; exact hg
    dsimp only
    rw [hg2]
    dsimp only
    rw [if_pos ⟨rfl, rfl, h1, by omega, by omega, by simpa using hb2⟩]
    rw [readN_arr hg2 _ 0 (by omega) (fun j _ hj => h5 j (by omega))]
    dsimp only
    refine ⟨_, _, rfl, ?_, (AHeap.le_set hg2).fresh hf1, ?_, ?_, ?_⟩
    · have hl1 : (cs.take (n * i.size) ++ xs).length = (n + 1) * i.size := by simp [Nat.add_mul]; omega
      have := Own.row (H := (H.push (.arr xs (List.replicate xs.length 0) 0 e false)).set i' (.arr (cs.take (n * i.size) ++ xs) (st.take (n * i.size) ++ List.replicate xs.length (g + 1)) (g + 1) e false)) (e := e) (sz := i.size) (i := i') (g := g + 1) (n := n + 1) (c := n + 1)
        get_set_same (Nat.le_refl _) (by rw [hl1]; exact Nat.le_refl _) (by simp; omega) (fun j hj => by
          rw [List.getD_eq_getElem?_getD]
          rcases Nat.lt_or_ge j (n * i.size) with hlt | hge
          · rw [List.getElem?_append_left (by simp; omega), List.getElem?_take_of_lt hlt]
            have := h5 j hlt
            rw [List.getD_eq_getElem?_getD] at this
            omega
          · rw [List.getElem?_append_right (by simp; omega), List.getElem?_replicate]
            split <;> simp)
      have e2 : ((cs.take (n * i.size) ++ xs).take ((n + 1) * i.size)) = cs.take (n * i.size) ++ xs := List.take_of_length_le (by rw [hl1]; exact Nat.le_refl _)
      rw [e2] at this
      exact this
    · exact Nat.le_succ _
    · intro j hj hne
      have : j ≠ i' := fun e => hne (by simp [idOf, e])
      rw [get_set_ne this, get_push_old (by omega)]
    · intro j hj
      simp only [idOf, Option.some.injEq] at hj ⊢
      exact .inr hj

end
end B
end Go.Proofs.Ytnjoaffnfjlcaaa

namespace Go.Proofs.Ytnjoaffnfjlcaaa
namespace B
open Go

section
variable {P : Program} {H : AHeap} {ρ : Operand → Value} {ty : TypeId}

/-- A slice type's element, with its row in the table. -/
def sliceInfo (P : Program) (t : TypeId) : Option (TypeInfo × TypeId) := match P.underlying t with
  | some (.slice e) => match P.info? e with
    | some i => some (i, e)
    | none => none
  | _ => none
theorem sliceInfo_of {t e : TypeId} {i : TypeInfo} (hu : P.underlying t = some (.slice e)) (hi : P.info? e = some i) : sliceInfo P t = some (i, e) := by unfold sliceInfo; rw [hu]; dsimp only; rw [hi]

def pairA : Option (Value × AHeap) → Option ARes
  | some (v, H') => some (.val v H')
  | none => none
theorem pairA_some {v : Value} {H' : AHeap} : pairA (some (v, H')) = some (.val v H') := rfl

theorem opA_append {s x : Operand} {t e : TypeId} {i : TypeInfo} (hs : operandOk s = true) (hx : operandOk x = true) (hi : sliceInfo P t = some (i, e)) :
    opA P H ρ (.call ⟨.builtin .append, #[s, x], #[t, t]⟩) ty = pairA (H.append i e (ρ s) (ρ x)) := by
  unfold opA evalAny
  have hok : (Op.call ⟨.builtin .append, #[s, x], #[t, t]⟩).operands.all operandOk = true := by
    simp [Op.operands, Call.operands, hs, hx]
  simp only [hok, if_true]
  unfold evalCall
  dsimp only
  unfold sliceInfo at hi
  cases hu : P.underlying t with
  | none => rw [hu] at hi; simp at hi
  | some d =>
    rw [hu] at hi
    cases d <;> first | (simp at hi; done) | skip
    rename_i e'
    dsimp only at hi ⊢
    cases hi' : P.info? e' with
    | none => rw [hi'] at hi; simp at hi
    | some i' =>
      rw [hi'] at hi
      simp only [Option.some.injEq, Prod.mk.injEq] at hi
      obtain ⟨rfl, rfl⟩ := hi
      simp only [if_true]
      cases H.append i' e' (ρ s) (ρ x) with
      | none => rfl
      | some q => rfl

def appendS (P : Program) (H : AHeap) (t : TypeId) (v w : Value) : Option ARes := match sliceInfo P t with
  | some (i, e) => pairA (H.append i e v w)
  | none => none
theorem opA_appendS {s x : Operand} {t : TypeId} (hs : operandOk s = true) (hx : operandOk x = true) (hi : (sliceInfo P t).isSome = true) :
    opA P H ρ (.call ⟨.builtin .append, #[s, x], #[t, t]⟩) ty = appendS P H t (ρ s) (ρ x) := by
  cases h : sliceInfo P t with
  | none => rw [h] at hi; simp at hi
  | some q => obtain ⟨i, e⟩ := q; rw [opA_append hs hx h]; unfold appendS; rw [h]
theorem appendS_of {t e : TypeId} {i : TypeInfo} {v w : Value} (h : sliceInfo P t = some (i, e)) : appendS P H t v w = pairA (H.append i e v w) := by unfold appendS; rw [h]

/-- One element, in a row of its own. -/
def build1S (P : Program) (H : AHeap) (t : TypeId) (v : Value) : Option ARes := match sliceInfo P t with
  | some (_, e) => some (.val (.slice (some ⟨H.next, 0, some 0⟩) 1 1) (H.push (.arr v.cells.toList (List.replicate v.cells.toList.length 0) 0 e false)))
  | none => none

theorem foldl_set_all : ∀ (l : List Value) (k : Nat) (cs : Array Value), k + l.length ≤ cs.size → ∀ j, ((l.zipIdx k).foldl (fun cs (p : Value × Nat) => cs.setIfInBounds (0 + p.2) p.1) cs)[j]? = if k ≤ j ∧ j < k + l.length then l[j - k]? else cs[j]?
  | [], k, cs, _, j => by simp; intro h1 h2; omega
  | v :: l, k, cs, h, j => by
    simp only [List.zipIdx_cons, List.foldl_cons]
    simp only [List.length_cons] at h
    rw [foldl_set_all l (k + 1) _ (by simp; omega) j]
    simp only [List.length_cons, Nat.zero_add]
    by_cases h1 : k + 1 ≤ j ∧ j < k + 1 + l.length
    · rw [if_pos h1, if_pos (by omega)]
      obtain ⟨m, rfl⟩ : ∃ m, j = k + 1 + m := ⟨j - (k + 1), by omega⟩
      rw [show k + 1 + m - (k + 1) = m by omega, show k + 1 + m - k = m + 1 by omega, List.getElem?_cons_succ]
    · rw [if_neg h1]
      by_cases h2 : j = k
      · subst h2
        rw [if_pos (by omega), Nat.sub_self]
        simp [Array.getElem?_setIfInBounds]
        omega
      · rw [if_neg (by omega), Array.getElem?_setIfInBounds_ne (by omega)]

theorem closedL_all {l : List Value} : closedL l = true ↔ ∀ v ∈ l, closedV v = true := by
  induction l with
  | nil => simp [closedL]
  | cons v l ih => simp [closedL, ih]

theorem closed_cells {z : Value} (h : closedV z = true) : ∀ v ∈ z.cells.toList, closedV v = true := by
  cases z with
  | agg x =>
    simp only [closedV] at h
    rw [closedA_toList, closedL_all] at h
    simpa [Value.cells] using h
  | _ => intro v hv; simp [Value.cells] at hv; subst hv; exact h

theorem closed_init {z : Value} (h : closedV z = true) (len size : Nat) (hs : z.cells.size ≠ 0) : closedA (initCells z len size) = true := by
  rw [closedA_toList, closedL_all]
  intro v hv
  unfold initCells at hv
  simp only [Array.toList_map, List.mem_map] at hv
  obtain ⟨j, _, rfl⟩ := hv
  have hlt : j % z.cells.size < z.cells.size := Nat.mod_lt _ (by omega)
  rw [getElem!_pos z.cells (j % z.cells.size) hlt]
  exact closed_cells h _ (by rw [Array.mem_toList_iff]; exact Array.getElem_mem hlt)

theorem opA_build1 {t : TypeId} {x : Operand} {i : TypeInfo} {e : TypeId} {z : Value} (hx : operandOk x = true) (hi : sliceInfo P t = some (i, e)) (hz : i.zero = some z) (hzc : closedV z = true) (hzs : z.cells.size = i.size) (hs0 : i.size ≠ 0) (hsm : i.size ≤ 16777216)
    (hv : (ρ x).cells.size = i.size) (hf : (ρ x).cells.toList.all flatV = true) : opA P H ρ (.buildSlice t 1 #[(0, x)]) ty = build1S P H t (ρ x) := by
  rw [ev_of (by simp) (by simp) (by simp) (by simp)]
  unfold evalOp build1S
  rw [hi]
  have hok : (Op.buildSlice t 1 #[(0, x)]).operands.all operandOk = true := by simp [Op.operands, hx]
  simp only [hok, if_true]
  unfold sliceInfo at hi
  cases hu : P.underlying t with
  | none => rw [hu] at hi; simp at hi
  | some d =>
    rw [hu] at hi
    cases d <;> first | (simp at hi; done) | skip
    rename_i e'
    dsimp only at hi ⊢
    cases hi' : P.info? e' with
    | none => rw [hi'] at hi; simp at hi
    | some i' =>
      rw [hi'] at hi
      simp only [Option.some.injEq, Prod.mk.injEq] at hi
      obtain ⟨rfl, rfl⟩ := hi
      dsimp only
      rw [hz]
      dsimp only
      have hic : (initCells z 1 i'.size).size = i'.size := by unfold initCells; simp
      have hcl : closedA (initCells z 1 i'.size) = true := closed_init hzc 1 i'.size (by omega)
      rw [if_pos ⟨by omega, by omega, hcl, by simp [hx]⟩]
      have hfill : Instr.fill (fun j => some (j * i'.size, i'.size)) (initCells z 1 i'.size) [(0, ρ x)] = some (ρ x).cells := by
        unfold Instr.fill
        dsimp only
        rw [if_neg (by simp [hv, hic])]
        unfold Instr.fill
        congr 1
        rw [← Array.foldl_toList, Array.toList_zipIdx]
        apply Array.ext_getElem?
        intro j
        have := foldl_set_all (ρ x).cells.toList 0 (initCells z 1 i'.size) (by simp [hic, hv]) j
        simp only [Nat.zero_mul]
        rw [this]
        simp only [Nat.zero_le, true_and, Nat.zero_add, Nat.sub_zero, Array.length_toList, Array.getElem?_toList]
        split
        · rfl
        · rw [Array.getElem?_eq_none (by omega), Array.getElem?_eq_none (by omega)]
      simp only [List.map_toArray, List.map_cons, List.map_nil]
      rw [hfill]
      dsimp only
      rw [if_pos ⟨hf, by omega⟩]
      simp

def build1OK (P : Program) (t : TypeId) : Bool := match sliceInfo P t with
  | some (i, _) => match i.zero with
    | some z => closedV z && z.cells.size == i.size && i.size != 0 && decide (i.size ≤ 16777216)
    | none => false
  | none => false
def elemSize (P : Program) (t : TypeId) : Nat := match sliceInfo P t with
  | some (i, _) => i.size
  | none => 0

theorem build1OK_of {t e : TypeId} {i : TypeInfo} (h : sliceInfo P t = some (i, e)) (hz : (match i.zero with | some z => closedV z && z.cells.size == i.size && i.size != 0 && decide (i.size ≤ 16777216) | none => false) = true) : build1OK P t = true := by
  unfold build1OK; rw [h]; exact hz
theorem elemSize_of {t e n : Nat} {i : TypeInfo} (h : sliceInfo P t = some (i, e)) (hn : i.size = n) : elemSize P t = n := by unfold elemSize; rw [h]; exact hn

theorem opA_build1F {t : TypeId} {x : Operand} (hx : operandOk x = true) (hok : build1OK P t = true) (hv : (ρ x).cells.size = elemSize P t) (hf : (ρ x).cells.toList.all flatV = true) :
    opA P H ρ (.buildSlice t 1 #[(0, x)]) ty = build1S P H t (ρ x) := by
  unfold build1OK at hok
  unfold elemSize at hv
  cases hi : sliceInfo P t with
  | none => rw [hi] at hok; simp at hok
  | some q =>
    obtain ⟨i, e⟩ := q
    rw [hi] at hok hv
    dsimp only at hok hv
    cases hz : i.zero with
    | none => rw [hz] at hok; simp at hok
    | some z =>
      rw [hz] at hok
      simp only [Bool.and_eq_true, beq_iff_eq, bne_iff_ne, decide_eq_true_eq] at hok
      exact opA_build1 hx hi hz hok.1.1.1 hok.1.1.2 hok.1.2 hok.2 hv hf

theorem build1S_of {t e : TypeId} {i : TypeInfo} {v : Value} (h : sliceInfo P t = some (i, e)) : build1S P H t v = some (.val (.slice (some ⟨H.next, 0, some 0⟩) 1 1) (H.push (.arr v.cells.toList (List.replicate v.cells.toList.length 0) 0 e false))) := by
  unfold build1S; rw [h]

theorem vc_int {k : IntKind} {n : Int} : Value.cells (.int k n) = #[.int k n] := by simp [Value.cells]
theorem fl_int {k : IntKind} {n : Int} : flatV (.int k n) = true := by simp [flatV]
theorem vc_bool {b : Bool} : Value.cells (.bool b) = #[.bool b] := by simp [Value.cells]
theorem fl_bool {b : Bool} : flatV (.bool b) = true := by simp [flatV]
theorem vc_string {b : ByteArray} : Value.cells (.string b) = #[.string b] := by simp [Value.cells]
theorem fl_string {b : ByteArray} : flatV (.string b) = true := by simp [flatV]
theorem vc_ptr {a : Option Addr} : Value.cells (.pointer a) = #[.pointer a] := by simp [Value.cells]
theorem fl_ptr {a : Option Addr} : flatV (.pointer a) = true := by simp [flatV]
theorem vc_map {a : Option Nat} : Value.cells (.map a) = #[.map a] := by simp [Value.cells]
theorem fl_map {a : Option Nat} : flatV (.map a) = true := by simp [flatV]
theorem vc_slice {a : Option Addr} {n c : Nat} : Value.cells (.slice a n c) = #[.slice a n c] := by simp [Value.cells]
theorem fl_slice {a : Option Addr} {n c : Nat} : flatV (.slice a n c) = true := by simp [flatV]
theorem vc_func {f : Fn} {u v : Array Value} : Value.cells (.func f u v) = #[.func f u v] := by simp [Value.cells]
theorem fl_func {f : Fn} {u v : Array Value} : flatV (.func f u v) = true := by simp [flatV]
theorem vc_nilFunc  : Value.cells (.nilFunc) = #[.nilFunc] := by simp [Value.cells]
theorem fl_nilFunc  : flatV (.nilFunc) = true := by simp [flatV]
theorem vc_nilIface  : Value.cells (.nilIface) = #[.nilIface] := by simp [Value.cells]
theorem fl_nilIface  : flatV (.nilIface) = true := by simp [flatV]
theorem vc_iface {t : TypeId} {v : Value} : Value.cells (.iface t v) = #[.iface t v] := by simp [Value.cells]
theorem fl_iface {t : TypeId} {v : Value} : flatV (.iface t v) = true := by simp [flatV]
theorem vc_agg {x : Array Value} : Value.cells (.agg x) = x := by simp [Value.cells]

theorem Own.vcells {e sz : Nat} {v : Value} {n : Nat} {cells : List Value} (h : Own H e sz v n cells) : v.cells = #[v] := by cases h <;> simp [Value.cells]
theorem Own.flat {e sz : Nat} {v : Value} {n : Nat} {cells : List Value} (h : Own H e sz v n cells) : flatV v = true := by cases h <;> simp [flatV]
theorem Own.id_ne {e sz : Nat} {v : Value} {n b : Nat} {cells cs : List Value} {t : TypeId} (h : Own H e sz v n cells) (hb : H.get b = some (.box cs t)) : idOf v ≠ some b := by
  intro hi
  cases h with
  | nil => simp [idOf] at hi
  | row hg h2 h3 h4 h5 =>
    simp only [idOf, Option.some.injEq] at hi
    subst hi
    rw [hb] at hg; simp at hg
theorem get_lt {b : Nat} {x : AObj} (hf : H.Fresh) (hb : H.get b = some x) : b < H.next := by
  rcases Nat.lt_or_ge b H.next with h | h
  · exact h
  · rw [hf _ h] at hb; simp at hb
theorem Own.lenS {P : Program} {e sz t : Nat} {v : Value} {n : Nat} {cells : List Value} (h : Own H e sz v n cells) (ht : isSlice P t = true) (H2 : AHeap) : B.lenS P H2 t v = some (.val (.int .i64 n) H2) := by
  cases h <;> exact lenS_slice ht

end
end B
end Go.Proofs.Ytnjoaffnfjlcaaa

namespace Go.Proofs.Ytnjoaffnfjlcaaa
namespace B
open Go

/-- From H to H': only what stood in F, and what is new, has turned; what it holds now stands in F'. -/
structure Upd (H : AHeap) (F : Nat → Prop) (H' : AHeap) (F' : Nat → Prop) : Prop where
  frame : ∀ j, ¬ F j → j < H.next → H'.get j = H.get j
  foot : ∀ j, F' j → F j ∨ H.next ≤ j
  fresh : H'.Fresh
  next : H.next ≤ H'.next

theorem Upd.refl {H : AHeap} {F : Nat → Prop} (hf : H.Fresh) : Upd H F H F := ⟨fun _ _ _ => rfl, fun _ h => .inl h, hf, Nat.le_refl _⟩

theorem Upd.trans {H H1 H2 : AHeap} {F F1 F2 : Nat → Prop} (h : Upd H F H1 F1) (g : Upd H1 F1 H2 F2) : Upd H F H2 F2 :=
  ⟨fun j hj hlt => by
    rw [g.frame j (fun h1 => (h.foot j h1).elim hj (fun h2 => absurd h2 (by omega))) (Nat.lt_of_lt_of_le hlt h.next)]
    exact h.frame j hj hlt,
   fun j hj => (g.foot j hj).elim (fun h1 => h.foot j h1) (fun h1 => .inr (Nat.le_trans h.next h1)), g.fresh, Nat.le_trans h.next g.next⟩

theorem Upd.mono {H H1 : AHeap} {F F1 G G1 : Nat → Prop} (h : Upd H F H1 F1) (hF : ∀ j, F j → G j) (hG : ∀ j, G1 j → F1 j ∨ G j) : Upd H G H1 G1 :=
  ⟨fun j hj => h.frame j (fun h1 => hj (hF j h1)), fun j hj => (hG j hj).elim (fun h1 => (h.foot j h1).imp (hF j) id) .inl, h.fresh, h.next⟩

theorem Upd.push {H : AHeap} {F : Nat → Prop} (hf : H.Fresh) (o : AObj) : Upd H F (H.push o) (fun j => F j ∨ j = H.next) :=
  ⟨fun j _ hlt => get_push_old (by omega), fun j hj => hj.imp id (fun e => by omega), (AHeap.le_push H o).fresh hf, Nat.le_succ _⟩

theorem Upd.set {H : AHeap} {F : Nat → Prop} (hf : H.Fresh) {i : Nat} {x : AObj} (o : AObj) (hg : H.get i = some x) (hF : F i) : Upd H F (H.set i o) F :=
  ⟨fun j hj _ => get_set_ne (fun e => hj (by rw [e]; exact hF)), fun _ h => .inl h, (AHeap.le_set hg).fresh hf, Nat.le_refl _⟩

/-- The ids of a slice. -/
def sliceFoot (v : Value) : Nat → Prop := fun j => idOf v = some j

theorem Own.append1U {H : AHeap} {e sz : Nat} {v : Value} {n : Nat} {cells xs : List Value} {i : TypeInfo} {z : Value} (h : Own H e sz v n cells) (hf : H.Fresh) (hsz : i.size = sz) (hz0 : sz ≠ 0) (hz : i.zero = some z) (hzc : z.cells.size = i.size)
    (hx : xs.length = sz) (hfl : xs.all flatV = true) (hb1 : n + 1 ≤ 9223372036854775807) (hb2 : (n + 1) * i.bytes ≤ maxBytes) :
    ∃ v' H', (H.push (.arr xs (List.replicate xs.length 0) 0 e false)).append i e v (.slice (some ⟨H.next, 0, some 0⟩) 1 1) = some (v', H') ∧ Own H' e sz v' (n + 1) (cells ++ xs) ∧ Upd H (sliceFoot v) H' (sliceFoot v') := by
  obtain ⟨v', H', h1, h2, h3, h4, h5, h6⟩ := h.append1 hf hsz hz0 hz hzc hx hfl hb1 hb2
  exact ⟨v', H', h1, h2, fun j hj hlt => h5 j hlt hj, fun j hj => (h6 j hj).symm, h3, h4⟩

/-- An element's cells read through its address. -/
theorem Own.elemN {H : AHeap} {e sz : Nat} {a : Addr} {n c : Nat} {cells : List Value} (h : Own H e sz (.slice (some a) n c) n cells) {j k m : Nat} (hj : j < n) (hkm : k + m ≤ sz) : H.readN (addA a (j * sz + k)) m = some ((cells.drop (j * sz + k)).take m) := by
  generalize hv : Value.slice (some a) n c = v at h
  cases h with
  | nil => cases hv
  | @row i g n' c' cs st hg h2 h3 h4 h5 =>
    simp only [Value.slice.injEq, Option.some.injEq] at hv
    obtain ⟨rfl, _, rfl⟩ := hv
    have hle : j * sz + sz ≤ n * sz := by rw [← Nat.succ_mul]; exact Nat.mul_le_mul_right _ hj
    rw [addA_mk, readN_arr hg m _ (by omega) (fun x _ hx => h5 x (by omega))]
    rw [List.drop_take, List.take_take]
    congr 2
    · omega
    · rw [Nat.zero_add]

end B
end Go.Proofs.Ytnjoaffnfjlcaaa

namespace Go.Proofs.Ytnjoaffnfjlcaaa
namespace B
open Go

section
variable {P : Program} {H : AHeap} {ρ : Operand → Value} {ty : TypeId}

theorem sliceInfo_inv {t e : TypeId} {i : TypeInfo} (h : sliceInfo P t = some (i, e)) : P.underlying t = some (.slice e) ∧ P.info? e = some i := by
  unfold sliceInfo at h
  split at h
  · rename_i e' hu
    split at h
    · rename_i i' hi
      simp only [Option.some.injEq, Prod.mk.injEq] at h
      obtain ⟨rfl, rfl⟩ := h
      exact ⟨hu, hi⟩
    · simp at h
  · simp at h

def indexAddrS (P : Program) (H : AHeap) (t : TypeId) (v w : Value) : Option ARes := match v, w with
  | .slice (some a) len _, .int _ n => if 0 ≤ n ∧ n < len then some (.val (.pointer (some (addA a (n.toNat * elemSize P t)))) H) else none
  | _, _ => none
theorem opA_indexAddr {t : TypeId} {x y : Operand} (hx : operandOk x = true) (hy : operandOk y = true) (hi : (sliceInfo P t).isSome = true) : opA P H ρ (.indexAddr t x y) ty = indexAddrS P H t (ρ x) (ρ y) := by
  rw [ev_of (by simp) (by simp) (by simp) (by simp)]; unfold evalOp
  simp only [Op.operands, List.all_toArray, List.all_cons, List.all_nil, hx, hy, Bool.and_true, if_true]
  cases hs : sliceInfo P t with
  | none => rw [hs] at hi; simp at hi
  | some q =>
    obtain ⟨i, e⟩ := q
    have hes : elemSize P t = i.size := by unfold elemSize; rw [hs]
    obtain ⟨hu, hi'⟩ : P.underlying t = some (.slice e) ∧ P.info? e = some i := sliceInfo_inv hs
    unfold indexAddrS
    rw [hu, hes]
    cases hρx : ρ x <;> try rfl
    rename_i a len cap
    cases a with
    | none => rfl
    | some a =>
      cases hρy : ρ y <;> try rfl
      dsimp only
      rw [hi']
theorem indexAddrS_of {t : TypeId} {a : Addr} {len cap : Nat} {k : IntKind} {n : Int} (h : 0 ≤ n ∧ n < len) : indexAddrS P H t (.slice (some a) len cap) (.int k n) = some (.val (.pointer (some (addA a (n.toNat * elemSize P t)))) H) := by
  unfold indexAddrS; simp only; rw [if_pos h]

def sliceS (P : Program) (H : AHeap) (t : TypeId) (v : Value) (lo hi : Option Value) : Option ARes := match sliceInfo P t with
  | some (i, e) => valA H (sliceOf H e i.size v lo hi)
  | none => none
theorem opA_slice {t : TypeId} {x : Operand} {lo hi : Option Operand} (hx : operandOk x = true) (hl : (lo.toArray.all operandOk) = true) (hh : (hi.toArray.all operandOk) = true) (hs : (sliceInfo P t).isSome = true) :
    opA P H ρ (.slice t x lo hi none) ty = sliceS P H t (ρ x) (lo.map ρ) (hi.map ρ) := by
  rw [ev_of (by simp) (by simp) (by simp) (by simp)]; unfold evalOp sliceS
  have hok : (Op.slice t x lo hi none).operands.all operandOk = true := by
    simp only [Op.operands, Array.all_append, hl, hh, Bool.and_true]
    simp [hx]
  simp only [hok, if_true]
  cases hs' : sliceInfo P t with
  | none => rw [hs'] at hs; simp at hs
  | some q =>
    obtain ⟨i, e⟩ := q
    obtain ⟨hu, hi'⟩ := sliceInfo_inv hs'
    rw [hu]
    dsimp only
    rw [hi']
    dsimp only
    cases sliceOf H e i.size (ρ x) (lo.map ρ) (hi.map ρ) <;> rfl

def fieldS (P : Program) (H : AHeap) (t : TypeId) (f : Nat) (v : Value) : Option ARes := match P.underlying t, v with
  | some (.struct fields), .agg cs => match fields[f]? with
    | some fd => valA H (partOf P fd.type cs.toList fd.offset)
    | none => none
  | _, _ => none
theorem opA_field {t : TypeId} {x : Operand} {f : Nat} (hx : operandOk x = true) : opA P H ρ (.field t x f) ty = fieldS P H t f (ρ x) := by
  rw [ev_of (by simp) (by simp) (by simp) (by simp)]; unfold evalOp fieldS
  simp only [Op.operands, List.all_toArray, List.all_cons, List.all_nil, hx, Bool.and_true, if_true]
  cases P.underlying t with
  | none => rfl
  | some d =>
    cases d <;> rfl

def lookS (P : Program) (H : AHeap) (t : TypeId) (m k : Value) (ok : Bool) : Option ARes := match H.look P t m k with
  | some (v, b) => some (.val (if ok then .tuple #[v, .bool b] else v) H)
  | none => none
theorem opA_lookup {t : TypeId} {m k : Operand} {ok : Bool} (hm : operandOk m = true) (hk : operandOk k = true) : opA P H ρ (.lookup t m k ok) ty = lookS P H t (ρ m) (ρ k) ok := by
  unfold opA evalAny lookS
  simp only [Op.operands, List.all_toArray, List.all_cons, List.all_nil, hm, hk, Bool.and_true, if_true]
  rfl
theorem opA_mapUpdate {t : TypeId} {m k v : Operand} (hm : operandOk m = true) (hk : operandOk k = true) (hv : operandOk v = true) : opA P H ρ (.mapUpdate t m k v) ty = skipA (H.mapPut P t (ρ m) (ρ k) (ρ v)) := by
  unfold opA evalAny
  simp only [Op.operands, List.all_toArray, List.all_cons, List.all_nil, hm, hk, hv, Bool.and_true, if_true]
  cases H.mapPut P t (ρ m) (ρ k) (ρ v) <;> rfl

def buildS (P : Program) (H : AHeap) (t : TypeId) (ps : List (Nat × Value)) : Option ARes := match zeroOf P t with
  | some _ => match P.built t ps with
    | some cs => some (.val (.agg cs) H)
    | none => none
  | none => none
theorem opA_build {t : TypeId} {ps : List (Nat × Operand)} (hp : (ps.all fun p => operandOk p.2) = true) (hz : (zeroOf P t).isSome = true) : opA P H ρ (.build t ps.toArray) ty = buildS P H t (ps.map fun p => (p.1, ρ p.2)) := by
  rw [ev_of (by simp) (by simp) (by simp) (by simp)]; unfold evalOp buildS
  have hok : (Op.build t ps.toArray).operands.all operandOk = true := by
    simp only [Op.operands, List.all_toArray]
    rw [List.all_map]
    exact hp
  simp only [hok, if_true]
  have key : ∃ i z, P.info? t = some i ∧ i.zero = some z ∧ (closedV z && z.cells.toList.all flatV) = true := by
    unfold zeroOf at hz
    split at hz
    · rename_i i hi
      split at hz
      · rename_i z hzz
        split at hz
        · rename_i hc; exact ⟨i, z, hi, hzz, hc⟩
        · simp at hz
      · simp at hz
    · simp at hz
  obtain ⟨i, z, hi, hzz, hc⟩ := key
  obtain ⟨z0, hz0⟩ := Option.isSome_iff_exists.1 hz
  rw [hz0, hi]
  dsimp only
  rw [hzz]
  dsimp only
  rw [Bool.and_eq_true] at hc
  rw [if_pos (by simp only [hc.1, Bool.true_and]; exact hp)]
  simp only [List.map_toArray]
  rfl

end
end B
end Go.Proofs.Ytnjoaffnfjlcaaa

namespace Go.Proofs.Ytnjoaffnfjlcaaa
namespace B
open Go

def isPtr (P : Program) (t : TypeId) : Bool := match P.underlying t with
  | some (.pointer _) => true
  | _ => false
theorem isPtr_of {P : Program} {t e : TypeId} (h : P.underlying t = some (.pointer e)) : isPtr P t = true := by unfold isPtr; rw [h]
theorem isPtr_inv {P : Program} {t : TypeId} (h : isPtr P t = true) : ∃ e, P.underlying t = some (.pointer e) := by
  unfold isPtr at h; split at h
  · rename_i e hu; exact ⟨e, hu⟩
  · simp at h

section
variable {P : Program} {H : AHeap} {t : TypeId} {x y : Operand} {a : Addr}
theorem bin_ptr_eql (h : isPtr P t = true) : binS P H .eql t x y (.pointer (some a)) (.pointer none) = some (.val (.bool false) H) := by
  obtain ⟨e, hu⟩ := isPtr_inv h
  exact (bin_nil (op := .eql) (v := .pointer (some a)) (w := .pointer none) (b := false) (.inr (.inl cl_ptr_some)) hu rfl).1 rfl
theorem bin_ptr_neq (h : isPtr P t = true) : binS P H .neq t x y (.pointer (some a)) (.pointer none) = some (.val (.bool true) H) := by
  obtain ⟨e, hu⟩ := isPtr_inv h
  exact (bin_nil (op := .neq) (v := .pointer (some a)) (w := .pointer none) (b := false) (.inr (.inl cl_ptr_some)) hu rfl).2 rfl
theorem pureRun_eqNilPtr {e : TypeId} (hu : P.underlying t = some (.pointer e)) : pureRun P (Op.equal t (.pointer none) (.pointer none)) = some true := by
  unfold Op.equal
  show pureRun P (Op.equalIn 10000 t (.pointer none) (.pointer none)) = _
  unfold Op.equalIn
  rw [pureRun_seq (pureRun_underlying hu)]
  rfl
theorem bin_nil_eql (h : isPtr P t = true) : binS P H .eql t x y (.pointer none) (.pointer none) = some (.val (.bool true) H) := by
  obtain ⟨e, hu⟩ := isPtr_inv h
  refine binS_of ?_
  have h1 : eqGuard .eql t x y (.pointer none) (.pointer none) = pure () := rfl
  have h2 : binOp .eql t (.pointer none) (.pointer none) = (do pure (.bool (← Op.equal t (.pointer none) (.pointer none)))) := rfl
  unfold binC
  rw [h1, pureRun_seq pureRun_pure, h2, pureRun_seq (pureRun_eqNilPtr hu)]
  simp [closedV, pureRun_pure]
theorem bin_nil_neq (h : isPtr P t = true) : binS P H .neq t x y (.pointer none) (.pointer none) = some (.val (.bool false) H) := by
  obtain ⟨e, hu⟩ := isPtr_inv h
  refine binS_of ?_
  have h1 : eqGuard .neq t x y (.pointer none) (.pointer none) = pure () := rfl
  have h2 : binOp .neq t (.pointer none) (.pointer none) = (do pure (.bool (!(← Op.equal t (.pointer none) (.pointer none))))) := rfl
  unfold binC
  rw [h1, pureRun_seq pureRun_pure, h2, pureRun_seq (pureRun_eqNilPtr hu)]
  simp [closedV, pureRun_pure]
end

theorem opA_build0 {P : Program} {H : AHeap} {ρ : Operand → Value} {ty t : TypeId} (hz : (zeroOf P t).isSome = true) : opA P H ρ (.build t #[]) ty = buildS P H t [] := opA_build (ps := []) rfl hz
theorem opA_call0 {P : Program} {H : AHeap} {ρ : Operand → Value} {ty : TypeId} {f : Operand} {tys : Array TypeId} (hf : operandOk f = true) : opA P H ρ (.call ⟨.value f, #[], tys⟩) ty = callS P H [] (ρ f) := opA_call (args := []) hf rfl

theorem theCode_plan {P : Program} {ext : CallT} {rnd : Bool} {id : Nat} {l : List Oper} {s : St} (plan : List Nat) (h : planOK' l plan = true) :
    theCode P ext rnd (.region id l.toArray true) s = dropP (evalList P (theCall P ext) true l (plan.filterMap fun j => l[j]?) s) := by
  rw [theCode_draw, ← drawRun_plan h]

end B
end Go.Proofs.Ytnjoaffnfjlcaaa

namespace Go.Proofs.Ytnjoaffnfjlcaaa
namespace B
open Go

section
variable {P : Program} {H : AHeap}

theorem Own.cut {e sz : Nat} {a : Addr} {n c m : Nat} {cells : List Value} (h : Own H e sz (.slice (some a) n c) n cells) (hm : m ≤ n) : Own H e sz (.slice (some a) m c) m (cells.take (m * sz)) := by
  generalize hv : Value.slice (some a) n c = v at h
  cases h with
  | nil => cases hv
  | @row i g n' c' cs st hg h2 h3 h4 h5 =>
    simp only [Value.slice.injEq, Option.some.injEq] at hv
    obtain ⟨rfl, _, rfl⟩ := hv
    have hle : m * sz ≤ n * sz := Nat.mul_le_mul_right _ hm
    have := Own.row (sz := sz) (c := c) (n := m) hg (by omega) (by omega) h4 (fun j hj => h5 j (by omega))
    rw [List.take_take, Nat.min_eq_left hle]
    exact this

theorem sliceOf_upto {e sz : Nat} {a : Addr} {n c m : Nat} {k : IntKind} (hm : m ≤ c) : sliceOf H e sz (.slice (some a) n c) none (some (.int k m)) = some (.slice (some a) m c) := by
  unfold sliceOf boundOf
  have h0 : addA a 0 = a := by cases a; rfl
  simp [hm, h0]

end
end B
end Go.Proofs.Ytnjoaffnfjlcaaa

namespace Go.Proofs.Ytnjoaffnfjlcaaa
namespace B
open Go

section
variable {P : Program} {H : AHeap}

/-- Where a slice's row begins, and how far it may grow. -/
def baseOf : Value → Addr
  | .slice (some a) _ _ => a
  | _ => ⟨0, 0, none⟩
def capOf : Value → Nat
  | .slice _ _ c => c
  | _ => 0

theorem Own.shape {e sz : Nat} {v : Value} {n : Nat} {cells : List Value} (h : Own H e sz v n cells) (hn : 0 < n) : v = .slice (some (baseOf v)) n (capOf v) ∧ n ≤ capOf v ∧ (baseOf v).off = 0 := by
  cases h with
  | nil => omega
  | row hg h2 h3 h4 h5 => exact ⟨rfl, h2, rfl⟩

theorem indexAddrS_own {e sz t : Nat} {v : Value} {n : Nat} {cells : List Value} {k : IntKind} {j : Int} (h : Own H e sz v n cells) (h0 : 0 ≤ j) (hj : j < n) (hes : elemSize P t = sz) (H2 : AHeap) :
    indexAddrS P H2 t v (.int k j) = some (.val (.pointer (some (addA (baseOf v) (j.toNat * sz)))) H2) := by
  obtain ⟨hv, _⟩ := h.shape (by omega)
  rw [hv, indexAddrS_of ⟨h0, hj⟩, hes]
  rfl

theorem Own.readN {e sz : Nat} {v : Value} {n o m : Nat} {cells : List Value} (h : Own H e sz v n cells) (ho : o + m ≤ n * sz) (hm : 0 < m) : H.readN (addA (baseOf v) o) m = some ((cells.drop o).take m) := by
  cases h with
  | nil => omega
  | @row i g n' c' cs st hg h2 h3 h4 h5 =>
    show H.readN (addA ⟨i, 0, some g⟩ o) m = _
    rw [addA_mk, readN_arr hg m _ (by omega) (fun x _ hx => h5 x (by omega))]
    rw [List.drop_take, List.take_take, Nat.zero_add]
    congr 2
    omega

theorem Own.cell {e sz : Nat} {v : Value} {n o : Nat} {cells : List Value} (h : Own H e sz v n cells) (ho : o < n * sz) : H.cell (addA (baseOf v) o) = cells[o]? := by
  have h1 := h.readN (o := o) (m := 1) (by omega) (by omega)
  have := readN_get h1 (j := 0) (by omega)
  rw [addA_zero] at this
  rw [this]
  rw [List.getElem?_take_of_lt (by omega), List.getElem?_drop]
  simp

theorem Own.get {e sz : Nat} {v : Value} {n : Nat} {cells : List Value} (h : Own H e sz v n cells) (hn : 0 < n) : ∃ i g cs st, v = .slice (some ⟨i, 0, some g⟩) n (capOf v) ∧ H.get i = some (.arr cs st g e false) ∧ n ≤ capOf v ∧ n * sz ≤ cs.length ∧ cs.length = st.length ∧ (∀ j, j < n * sz → st.getD j 0 ≤ g) ∧ cells = cs.take (n * sz) := by
  cases h with
  | nil => omega
  | @row i g n' c' cs st hg h2 h3 h4 h5 => exact ⟨i, g, cs, st, rfl, hg, h2, h3, h4, h5, rfl⟩

theorem Own.set1 {e sz : Nat} {v x : Value} {n o : Nat} {cells : List Value} (h : Own H e sz v n cells) (ho : o < n * sz) (hx : flatV x = true) :
    ∃ H', H.setCell (addA (baseOf v) o) x = some H' ∧ Own H' e sz v n (cells.set o x) ∧ H'.next = H.next ∧ (∀ j, idOf v ≠ some j → H'.get j = H.get j) := by
  have hn : 0 < n := by rcases Nat.eq_zero_or_pos n with e0 | e0; · subst e0; omega
                        · exact e0
  obtain ⟨i, g, cs, st, hv, hg, h2, h3, h4, h5, rfl⟩ := h.get hn
  have hb : baseOf v = ⟨i, 0, some g⟩ := by rw [hv]; rfl
  refine ⟨H.set i (.arr (cs.set o x) (st.set o g) g e false), ?_, ?_, rfl, ?_⟩
  · rw [hb, addA_mk]
    unfold AHeap.setCell
    rw [if_pos hx]
    dsimp only
    rw [hg]
    dsimp only
    rw [if_pos ⟨rfl, by omega, by omega⟩, Nat.zero_add]
  · rw [hv]
    have := Own.row (H := H.set i (.arr (cs.set o x) (st.set o g) g e false)) (e := e) (sz := sz) (i := i) (g := g) (n := n) (c := capOf v) (cs := cs.set o x) (st := st.set o g) get_set_same h2 (by simpa using h3) (by simpa using h4)
      (fun j hj => by
        rw [List.getD_eq_getElem?_getD, List.getElem?_set]
        split
        · split <;> simp
        · have := h5 j hj; rw [List.getD_eq_getElem?_getD] at this; exact this)
    rw [← List.take_set]
    exact this
  · intro j hj
    refine get_set_ne ?_
    rintro rfl
    exact hj (by rw [hv]; rfl)

/-- Cells written one behind the other. -/
def setL : List Value → Nat → List Value → List Value
  | cells, _, [] => cells
  | cells, o, x :: xs => setL (cells.set o x) (o + 1) xs

theorem Own.setN {e sz : Nat} {v : Value} {n : Nat} : ∀ {xs : List Value} {o : Nat} {cells : List Value} {H : AHeap}, Own H e sz v n cells → o + xs.length ≤ n * sz → xs.all flatV = true →
    ∃ H', H.setN (addA (baseOf v) o) xs = some H' ∧ Own H' e sz v n (setL cells o xs) ∧ H'.next = H.next ∧ (∀ j, idOf v ≠ some j → H'.get j = H.get j)
  | [], o, cells, H, h, _, _ => ⟨H, rfl, h, rfl, fun _ _ => rfl⟩
  | x :: xs, o, cells, H, h, ho, hx => by
    simp only [List.all_cons, Bool.and_eq_true] at hx
    simp only [List.length_cons] at ho
    obtain ⟨H1, h1, h2, h3, h4⟩ := h.set1 (o := o) (x := x) (by omega) hx.1
    obtain ⟨H2, g1, g2, g3, g4⟩ := Own.setN (xs := xs) (o := o + 1) h2 (by omega) hx.2
    refine ⟨H2, ?_, g2, g3.trans h3, fun j hj => (g4 j hj).trans (h4 j hj)⟩
    unfold AHeap.setN
    rw [h1]
    dsimp only
    rw [addA_add]; exact g1

theorem setL_take : ∀ (xs cells : List Value) (o m : Nat), m ≤ o → (setL cells o xs).take m = cells.take m
  | [], _, _, _, _ => rfl
  | x :: xs, cells, o, m, h => by
    unfold setL
    rw [setL_take xs _ (o + 1) m (by omega), List.take_set_of_le h]

theorem storeV_agg {t : TypeId} {a : Addr} {v : Value} (h2 : (P.info? t).isSome = true) (hv : v.cells.size = P.cellsOf t) : H.storeV P t a v = H.setN a v.cells.toList := by
  unfold AHeap.storeV
  cases hi : P.info? t with
  | none => rw [hi] at h2; simp at h2
  | some i =>
    have : P.cellsOf t = i.size := by unfold Program.cellsOf; rw [hi]; rfl
    simp only [hv, this, if_true]

/-- The last element wiped, and cut off. -/
theorem Own.cutLast {e sz : Nat} {v : Value} {n : Nat} {cells : List Value} (h : Own H e sz v (n + 1) cells) : Own H e sz (.slice (some (baseOf v)) n (capOf v)) n (cells.take (n * sz)) := by
  obtain ⟨hv, _⟩ := h.shape (by omega)
  rw [hv] at h
  exact h.cut (by omega)

theorem idOf_cut {v : Value} {n c : Nat} {e sz m : Nat} {cells : List Value} (h : Own H e sz v (m + 1) cells) : idOf (.slice (some (baseOf v)) n c) = idOf v := by
  obtain ⟨hv, _⟩ := h.shape (by omega)
  conv => rhs; rw [hv]
  rfl

theorem sliceS_upto {t e sz : Nat} {i : TypeInfo} {v : Value} {n : Nat} {cells : List Value} {k : IntKind} {m : Int} (h : Own H e sz v n cells) (hn : 0 < n) (hi : sliceInfo P t = some (i, e)) (h0 : 0 ≤ m) (hm : m ≤ n) (H2 : AHeap) :
    sliceS P H2 t v none (some (.int k m)) = some (.val (.slice (some (baseOf v)) m.toNat (capOf v)) H2) := by
  obtain ⟨hv, hc, _⟩ := h.shape hn
  unfold sliceS
  rw [hi]
  dsimp only
  obtain ⟨m', rfl⟩ : ∃ m' : Nat, m = m' := ⟨m.toNat, by omega⟩
  conv => lhs; rw [hv]
  rw [sliceOf_upto (by omega)]
  rfl

/-- Several elements more: 'append(v, x...)'. -/
theorem Own.appendN {e sz : Nat} {v x : Value} {n m : Nat} {cells xs : List Value} {i : TypeInfo} {z : Value} (h : Own H e sz v n cells) (hf : H.Fresh) (hsz : i.size = sz) (hz0 : sz ≠ 0) (hz : i.zero = some z) (hzc : z.cells.size = i.size)
    (hx : AHeap.elems H sz x = some (m, xs)) (hl : xs.length = m * sz) (hfl : xs.all flatV = true) (hb1 : n + m ≤ 9223372036854775807) (hb2 : (n + m) * i.bytes ≤ maxBytes) :
    ∃ v' H', H.append i e v x = some (v', H') ∧ Own H' e sz v' (n + m) (cells ++ xs) ∧ Upd H (sliceFoot v) H' (sliceFoot v') := by
  subst hsz
  cases m with
  | zero =>
    have hxs : xs = [] := List.eq_nil_of_length_eq_zero (by simpa using hl)
    subst hxs
    unfold AHeap.append
    rw [if_neg hz0, hz]
    dsimp only
    rw [if_pos hzc, hx]
    dsimp only
    refine ⟨v, H, ?_, by simpa using h, Upd.refl hf⟩
    cases h <;> rfl
  | succ m =>
    unfold AHeap.append
    rw [if_neg hz0, hz]
    dsimp only
    rw [if_pos hzc, hx]
    dsimp only
    rw [if_pos hfl]
    have hrep : ∀ (k g j : Nat), (List.replicate k g).getD j 0 ≤ g := fun k g j => by
      rw [List.getD_eq_getElem?_getD, List.getElem?_replicate]; split <;> simp
    cases h with
    | nil =>
      try dsimp only
      rw [if_pos ⟨by omega, by simpa using hb2⟩]
      refine ⟨_, _, rfl, ?_, fun j hj hlt => get_push_old (by omega), fun j hj => ?_, (AHeap.le_push _ _).fresh hf, Nat.le_succ _⟩
      · have := Own.row (H := H.push (.arr xs (List.replicate xs.length 0) 0 e false)) (e := e) (sz := i.size) (i := H.next) (g := 0) (n := m + 1) (c := m + 1) (cs := xs) (st := List.replicate xs.length 0)
          get_push_new (Nat.le_refl _) (by omega) (by simp) (fun j _ => hrep _ _ j)
        rw [List.take_of_length_le (by omega)] at this
        simpa using this
      · simp only [sliceFoot, idOf, Option.some.injEq] at hj
        exact .inr (by omega)
    | @row i' g n c cs st hg h2 h3 h4 h5 =>
      dsimp only
      rw [hg]
      dsimp only
      rw [if_pos ⟨rfl, rfl, Nat.le_refl _, by omega, by omega, by simpa using hb2⟩]
      rw [readN_arr hg _ 0 (by omega) (fun j _ hj => h5 j (by omega))]
      dsimp only
      refine ⟨_, _, rfl, ?_, fun j hj hlt => ?_, fun j hj => ?_, (AHeap.le_set hg).fresh hf, Nat.le_refl _⟩
      · have hl1 : (cs.take (n * i.size) ++ xs).length = (n + (m + 1)) * i.size := by simp [Nat.add_mul, hl]; omega
        have := Own.row (H := H.set i' (.arr (cs.take (n * i.size) ++ xs) (st.take (n * i.size) ++ List.replicate xs.length (g + 1)) (g + 1) e false)) (e := e) (sz := i.size) (i := i') (g := g + 1) (n := n + (m + 1)) (c := n + (m + 1)) (cs := cs.take (n * i.size) ++ xs) (st := st.take (n * i.size) ++ List.replicate xs.length (g + 1))
          get_set_same (Nat.le_refl _) (by rw [hl1]; exact Nat.le_refl _) (by simp; omega) (fun j hj => by
            rw [List.getD_eq_getElem?_getD]
            rcases Nat.lt_or_ge j (n * i.size) with hlt | hge
            · rw [List.getElem?_append_left (by simp; omega), List.getElem?_take_of_lt hlt]
              have := h5 j hlt
              rw [List.getD_eq_getElem?_getD] at this
              omega
            · rw [List.getElem?_append_right (by simp; omega), List.getElem?_replicate]
              split <;> simp)
        have e2 : ((cs.take (n * i.size) ++ xs).take ((n + (m + 1)) * i.size)) = cs.take (n * i.size) ++ xs := List.take_of_length_le (by rw [hl1]; exact Nat.le_refl _)
        rw [e2] at this
        exact this
      · have : j ≠ i' := fun e => hj (by simp [sliceFoot, idOf, e])
        exact get_set_ne this
      · simp only [sliceFoot, idOf, Option.some.injEq] at hj ⊢
        exact .inl hj

/-- A slice of no elements, made. -/
theorem Own.empty {H : AHeap} {e sz : Nat} : Own (H.push (.arr [] [] 0 e false)) e sz (.slice (some ⟨H.next, 0, some 0⟩) 0 0) 0 [] := by
  have := Own.row (H := H.push (.arr [] [] 0 e false)) (e := e) (sz := sz) (i := H.next) (g := 0) (n := 0) (c := 0) (cs := []) (st := []) get_push_new (Nat.le_refl _) (by simp) rfl (fun j hj => by omega)
  simpa using this

theorem opA_build00 {t e : TypeId} {i : TypeInfo} {z : Value} {ρ : Operand → Value} {ty : TypeId} (hi : sliceInfo P t = some (i, e)) (hz : i.zero = some z) : opA P H ρ (.buildSlice t 0 #[]) ty = some (.val (.slice (some ⟨H.next, 0, some 0⟩) 0 0) (H.push (.arr [] [] 0 e false))) := by
  rw [ev_of (by simp) (by simp) (by simp) (by simp)]
  unfold evalOp
  obtain ⟨hu, hi'⟩ := sliceInfo_inv hi
  have hok : (Op.buildSlice t 0 #[]).operands.all operandOk = true := by simp [Op.operands]
  simp only [hok, if_true]
  rw [hu]; dsimp only
  rw [hi']; dsimp only
  rw [hz]; dsimp only
  rw [if_neg (by simp), if_pos (by simp)]

/-! ### Maps by strings -/
def strE (l : List (ByteArray × Value)) : List (Value × Value) := l.map fun p => (.string p.1, p.2)
def lookB (l : List (ByteArray × Value)) (k : ByteArray) : Option Value := match l with
  | [] => none
  | p :: l => if k = p.1 then some p.2 else lookB l k

theorem beq_bytes {a b : ByteArray} : (a == b) = true ↔ a = b := by
  constructor
  · intro h
    have h2 : (a.data == b.data) = true := h
    exact ByteArray.ext (by simpa using h2)
  · rintro rfl
    show (a.data == a.data) = true
    simp

theorem findNow_str (k : ByteArray) : ∀ (l : List (ByteArray × Value)) (i : Nat), Instr.findNow .string (.string k) (mkEntries (strE l)) i = some (match lookB l k with | some v => some (i + l.findIdx (fun p => k = p.1), v) | none => none)
  | [], i => rfl
  | p :: l, i => by
    have ih := findNow_str k l (i + 1)
    simp only [strE, mkEntries, List.map_cons, Instr.findNow, Instr.sameNow] at ih ⊢
    by_cases hk : k = p.1
    · subst hk
      rw [show (p.1 == p.1) = true from beq_bytes.2 rfl]
      simp [lookB, List.findIdx_cons]
    · have hb : (k == p.1) = false := by
        cases h : k == p.1 with
        | false => rfl
        | true => exact absurd (beq_bytes.1 h) hk
      simp only [hb, lookB, if_neg hk]
      rw [ih]
      cases lookB l k with
      | none => rfl
      | some v => simp [List.findIdx_cons, hk]; omega

theorem checkKey_str {kt : TypeId} {b : Bool} {k : ByteArray} (hu : P.underlying kt = some .string) : pureRun P (Instr.checkKey b 10000 kt (.string k)) = some () := by
  unfold Instr.checkKey
  rw [pureRun_seq (pureRun_underlying hu)]
  rfl

theorem findKey_str {kt : TypeId} {k : ByteArray} {l : List (ByteArray × Value)} (hu : P.underlying kt = some .string) :
    pureRun P (Instr.findKey kt (.string k) (mkEntries (strE l))) = some (match lookB l k with | some v => some (l.findIdx (fun p => k = p.1), v) | none => none) := by
  unfold Instr.findKey
  rw [pureRun_seq (pureRun_underlying hu), findNow_str]
  simp only [Nat.zero_add]
  rfl

theorem fit_str {kt : TypeId} {k : ByteArray} {es : List (Value × Value)} (hk : P.underlying kt = some .string) : (closedV (.string k) && keyFit P kt (.string k) es) = true := by
  rw [cl_string, Bool.true_and]
  unfold keyFit isStrT
  rw [hk]
  simp [isStrV]
/-- What a map of such a type holds of no key. -/
def zeroV (P : Program) (t : TypeId) : Option Value := match P.info? t with
  | some i => match i.zero with
    | some z => if closedV z then some z else none
    | none => none
  | none => none

theorem lookS_str {t kt et : TypeId} {r : Nat} {k : ByteArray} {l : List (ByteArray × Value)} {z : Value} {ok : Bool} (hu : P.underlying t = some (.map kt et)) (hk : P.underlying kt = some .string) (hz : zeroV P et = some z) (hr : H.get r = some (.map (strE l))) :
    lookS P H t (.map (some r)) (.string k) ok = some (.val (if ok then .tuple #[(lookB l k).getD z, .bool (lookB l k).isSome] else (lookB l k).getD z) H) := by
  unfold lookS AHeap.look AHeap.entries
  rw [hu]
  dsimp only
  rw [hr]
  dsimp only
  rw [if_pos (fit_str hk), checkKey_str hk, findKey_str hk]
  cases hl : lookB l k with
  | some v => rfl
  | none =>
    dsimp only
    unfold zeroV at hz
    split at hz
    case h_2 => simp at hz
    rename_i i hi
    split at hz
    case h_2 => simp at hz
    rename_i z' hz'
    split at hz
    case isFalse => simp at hz
    rename_i hc
    simp only [Option.some.injEq] at hz
    subst hz
    rw [hi]; dsimp only; rw [hz']; dsimp only; rw [if_pos hc]
    rfl

theorem lookS_str2 {t kt et : TypeId} {r : Nat} {k : ByteArray} {l : List (ByteArray × Value)} {z : Value} (hu : P.underlying t = some (.map kt et)) (hk : P.underlying kt = some .string) (hz : zeroV P et = some z) (hr : H.get r = some (.map (strE l))) :
    lookS P H t (.map (some r)) (.string k) true = some (.val (.tuple #[(lookB l k).getD z, .bool (lookB l k).isSome]) H) := by rw [lookS_str hu hk hz hr, if_pos rfl]
theorem lookS_str1 {t kt et : TypeId} {r : Nat} {k : ByteArray} {l : List (ByteArray × Value)} {z : Value} (hu : P.underlying t = some (.map kt et)) (hk : P.underlying kt = some .string) (hz : zeroV P et = some z) (hr : H.get r = some (.map (strE l))) :
    lookS P H t (.map (some r)) (.string k) false = some (.val ((lookB l k).getD z) H) := by rw [lookS_str hu hk hz hr, if_neg (by simp)]

theorem mapPut_str {t kt et : TypeId} {r : Nat} {k : ByteArray} {v : Value} {l : List (ByteArray × Value)} (hu : P.underlying t = some (.map kt et)) (hk : P.underlying kt = some .string) (hr : H.get r = some (.map (strE l))) (hn : lookB l k = none) :
    H.mapPut P t (.map (some r)) (.string k) v = some (H.set r (.map (strE (l ++ [(k, v)])))) := by
  unfold AHeap.mapPut
  rw [hu]
  dsimp only
  rw [hr]
  dsimp only
  rw [if_pos (fit_str hk), checkKey_str hk, findKey_str hk, hn]
  simp [strE]

end
end B
end Go.Proofs.Ytnjoaffnfjlcaaa

namespace Go.Proofs.Ytnjoaffnfjlcaaa
namespace B
open Go

theorem AHeap.ext' {H H' : AHeap} (h1 : H.next = H'.next) (h2 : ∀ j, H.get j = H'.get j) : H = H' := by
  cases H; cases H'
  simp only at h1 h2
  subst h1
  congr
  exact funext h2
theorem AHeap.set_set {H : AHeap} {i : Nat} {o o' : AObj} : (H.set i o).set i o' = H.set i o' := AHeap.ext' rfl fun j => by
  by_cases h : j = i <;> simp [AHeap.set, h]
theorem AHeap.set_self {H : AHeap} {i : Nat} {o : AObj} (h : H.get i = some o) : H.set i o = H := AHeap.ext' rfl fun j => by
  by_cases hj : j = i
  · subst hj; simp [AHeap.set, h]
  · simp [AHeap.set, hj]
theorem AHeap.set_comm {H : AHeap} {i j : Nat} {o o' : AObj} (h : i ≠ j) : (H.set i o).set j o' = (H.set j o').set i o := AHeap.ext' rfl fun k => by
  by_cases h1 : k = i
  · subst h1; simp [AHeap.set, h]
  · simp [AHeap.set, h1]
theorem AHeap.set_next {H : AHeap} {i : Nat} {o : AObj} : (H.set i o).next = H.next := rfl
theorem AHeap.push_next {H : AHeap} {o : AObj} : (H.push o).next = H.next + 1 := rfl

section
variable {P : Program} {ext : CallT} {rnd : Bool}

theorem theCode_loop_inv {c : Code} (I : Nat → St → Prop) (Q : AExit → St → Prop)
    (hstep : ∀ k s, I k s → (∃ s', theCode P ext rnd c s = some (.normal, s') ∧ ∃ k', k' < k ∧ I k' s') ∨ (∃ x s', theCode P ext rnd c s = some (x, s') ∧ x ≠ .normal ∧ Q x s')) :
    ∀ k s, I k s → ∃ x s', theCode P ext rnd (.loop c) s = some (x, s') ∧ x ≠ .normal ∧ Q x s' := by
  intro k
  induction k using Nat.strongRecOn with
  | _ k ih =>
    intro s hI
    rw [theCode_loop]
    rcases hstep k s hI with ⟨s', h1, k', hk, hI'⟩ | ⟨x, s', h1, hx, hq⟩
    · rw [h1, thenA_normal]; exact ih k' hk s' hI'
    · refine ⟨x, s', ?_, hx, hq⟩
      rw [h1]
      cases x <;> first | exact absurd rfl hx | rfl

/-- A loop met in a goal. -/
theorem loop_goal {c : Code} {F : Option (AExit × St) → Prop} (I : Nat → St → Prop) (Q : AExit → St → Prop) {s : St}
    (k : Nat) (h0 : I k s)
    (hstep : ∀ k s, I k s → (∃ s', theCode P ext rnd c s = some (.normal, s') ∧ ∃ k', k' < k ∧ I k' s') ∨ (∃ x s', theCode P ext rnd c s = some (x, s') ∧ x ≠ .normal ∧ Q x s'))
    (hF : ∀ x s', x ≠ .normal → Q x s' → F (some (x, s'))) : F (theCode P ext rnd (.loop c) s) := by
  obtain ⟨x, s', h, hx, hq⟩ := theCode_loop_inv I Q hstep k s h0
  rw [h]; exact hF x s' hx hq

theorem theCall_goal {F : Option (AEnd × AHeap) → Prop} {f : FuncId} {fn : Func} {c : Code} {rs : List ResultVar} {n : Nat} {args : List Value} {H : AHeap} (hx : ext f args H = none) (hf : P.funcs[f]? = some fn) (hb : fn.body = some c)
    (hr : fn.results.toList = rs) (hn : fn.ntmps = n) (hl : args.length ≤ n) (h : ∀ tm : List Value, tm.length = n → (∀ i, tm.getD i undef = args.getD i undef) → F (leaveR P rs (theCode P ext false c ⟨tm, [], H⟩))) :
    F (theCall P ext f args H) := by
  have hl' : (args ++ List.replicate (n - args.length) undef).length = n := by simp; omega
  have hi : ∀ i, (args ++ List.replicate (n - args.length) undef).getD i undef = args.getD i undef := fun i => by
    rw [List.getD_eq_getElem?_getD, List.getD_eq_getElem?_getD]
    rcases Nat.lt_or_ge i args.length with hi | hi
    · rw [List.getElem?_append_left hi]
    · rw [List.getElem?_append_right hi, List.getElem?_eq_none hi, List.getElem?_replicate]
      split <;> rfl
  have := h _ hl' hi
  rw [theCall_run hx hf hb hr hn hl fun tm h1 h2 => ?_]
  · exact this
  · have e : tm = args ++ List.replicate (n - args.length) undef := by
      apply List.ext_getElem?
      intro i
      have h3 := h2 i
      have h4 := hi i
      rw [← h4, List.getD_eq_getElem?_getD, List.getD_eq_getElem?_getD] at h3
      rcases Nat.lt_or_ge i n with h5 | h5
      · rw [List.getElem?_eq_getElem (by omega), List.getElem?_eq_getElem (by omega)] at h3 ⊢
        simpa using h3
      · rw [List.getElem?_eq_none (by omega), List.getElem?_eq_none (by omega)]
    rw [e]

/-! ### A range over a function -/
noncomputable def rangeS (P : Program) (ext : CallT) (s : St) (ps : Array Tmp) (as body : Code) : Value → Option (AExit × St)
  | .func (.func f) first cap => if enterB P f then rangeEnd s.H.next s (theCall P ext f (first.toList ++ [.func (.yield s.H.next) #[] #[]] ++ cap.toList) (s.H.push (.loop ⟨.ready, none, s.tmps, ps, as, body⟩))) else none
  | _ => none

theorem theCode_rangeS {g : Operand} {ps : Array Tmp} {as body : Code} {s : St} (hg : operandOk g = true) : theCode P ext false (.rangeFunc g ps as body) s = rangeS P ext s ps as body (aev s.tmps g) := by
  rw [theCode_range]
  unfold rangeCallA rangeS
  rw [if_pos hg]
  cases aev s.tmps g <;> try rfl
  rename_i fv first cap
  cases fv <;> try rfl
  rename_i f
  dsimp only
  unfold enterB
  cases P.funcs[f]? with
  | none => rfl
  | some fn =>
    dsimp only
    split <;> rename_i h
    · split at h
      · rename_i he
        simp only [Option.some.injEq, Prod.mk.injEq] at h
        obtain ⟨rfl, rfl, rfl⟩ := h
        rw [if_pos he]
      · simp at h
    · split at h
      · simp at h
      · rename_i he; rw [if_neg he]

theorem rangeS_func {s : St} {ps : Array Tmp} {as body : Code} {f : FuncId} {first cap : List Value} (h : enterB P f = true) : rangeS P ext s ps as body (.func (.func f) first.toArray cap.toArray) =
    rangeEnd s.H.next s (theCall P ext f (first ++ [.func (.yield s.H.next) #[] #[]] ++ cap) (s.H.push (.loop ⟨.ready, none, s.tmps, ps, as, body⟩))) := by
  unfold rangeS; dsimp only; rw [if_pos h]

theorem rangeS_cap {s : St} {ps : Array Tmp} {as body : Code} {f : FuncId} {cap : List Value} (h : enterB P f = true) : rangeS P ext s ps as body (.func (.func f) #[] cap.toArray) =
    rangeEnd s.H.next s (theCall P ext f (.func (.yield s.H.next) #[] #[] :: cap) (s.H.push (.loop ⟨.ready, none, s.tmps, ps, as, body⟩))) := by
  have := rangeS_func (P := P) (ext := ext) (s := s) (ps := ps) (as := as) (body := body) (first := []) (cap := cap) h
  simpa using this
theorem callS_cap {H : AHeap} {args : List Value} {g : FuncId} {cap : List Value} (h : enterB P g = true) : callS P H args (.func (.func g) #[] cap.toArray) = some (.enter g (args ++ cap) H) := by
  unfold callS; simp [h]

theorem rangeEnd_of {K : Nat} {s : St} {v : Value} {H' : AHeap} {r : ALoop} {x : AExit} (h : H'.get K = some (.loop r)) (hs : r.state ≠ .busy) (hx : exitOf r.pending = some x) :
    rangeEnd K s (some (.ret v, H')) = some (x, ⟨s.tmps, s.dfs, H'.set K (.loop { r with state := .exhausted })⟩) := by
  unfold rangeEnd
  dsimp only
  rw [h]
  dsimp only
  rw [if_neg hs, hx]

theorem roundA_normal {K : Nat} {tm : List Value} {dfs : List ADef} {H : AHeap} {r1 : ALoop} {k : St → Option (AExit × St)} (h : H.get K = some (.loop r1)) (hs : r1.state = .ready) :
    roundA K (some (.normal, ⟨tm, dfs, H⟩)) k = roundB K (k ⟨tm, dfs, H.set K (.loop { r1 with state := .busy })⟩) := by
  unfold roundA
  dsimp only
  rw [h]
  dsimp only
  rw [if_pos hs]
theorem roundB_normal {K : Nat} {tm : List Value} {dfs : List ADef} {H : AHeap} {r2 : ALoop} (h : H.get K = some (.loop r2)) :
    roundB K (some (.normal, ⟨tm, dfs, H⟩)) = some (.ret (.bool true), H.set K (.loop { r2 with state := .ready, pending := none })) := by
  unfold roundB jumpOf; dsimp only; rw [h]; rfl
theorem roundB_ret {K : Nat} {tm : List Value} {dfs : List ADef} {H : AHeap} {r2 : ALoop} (h : H.get K = some (.loop r2)) :
    roundB K (some (.ret, ⟨tm, dfs, H⟩)) = some (.ret (.bool false), H.set K (.loop { r2 with state := .done, pending := some .ret })) := by
  unfold roundB jumpOf; dsimp only; rw [h]; rfl
theorem roundB_exit {K id : Nat} {tm : List Value} {dfs : List ADef} {H : AHeap} {r2 : ALoop} (h : H.get K = some (.loop r2)) :
    roundB K (some (.exit id, ⟨tm, dfs, H⟩)) = some (.ret (.bool false), H.set K (.loop { r2 with state := .done, pending := some (.exit id) })) := by
  unfold roundB jumpOf; dsimp only; rw [h]; rfl

theorem setAll_nil {as tmps : List Value} : setAll [] as tmps = tmps := rfl
theorem setAll_cons {p : Tmp} {ps : List Tmp} {a : Value} {as tmps : List Value} : setAll (p :: ps) (a :: as) tmps = setAll ps as (tmps.set p a) := rfl

theorem opA_makeFunc0 {H : AHeap} {ρ : Operand → Value} {ty : TypeId} {f : FuncId} {v : List Operand} (hv : v.all operandOk = true) : opA P H ρ (.makeFunc (.func f) #[] v.toArray) ty = some (.val (.func (.func f) #[] (v.map ρ).toArray) H) := by
  rw [opA_makeFunc (by simp) (by simpa using hv)]
  simp
theorem opA_makeFunc00 {H : AHeap} {ρ : Operand → Value} {ty : TypeId} {f : FuncId} : opA P H ρ (.makeFunc (.func f) #[] #[]) ty = some (.val (.func (.func f) #[] #[]) H) := by
  rw [opA_makeFunc (by simp) (by simp)]
  simp

/-! ### Results out of cells -/
def cellRes (P : Program) (H : AHeap) (t : TypeId) : Value → Option Value
  | .pointer (some a) => H.loadV P t a
  | _ => none
theorem cellRes_ptr {H : AHeap} {t : TypeId} {a : Addr} : cellRes P H t (.pointer (some a)) = H.loadV P t a := rfl
theorem resA_cell {H : AHeap} {tm : List Value} {a t : Nat} {rs : List ResultVar} : resultsA P H tm (.cell a t :: rs) = (cellRes P H t (tm.getD a undef)).bind fun v => (resultsA P H tm rs).map fun vs => v :: vs := by
  conv => lhs; unfold resultsA
  simp only [resultA, cellRes]
  cases tm.getD a undef <;> try rfl
  rename_i p
  cases p with
  | none => rfl
  | some ad =>
    dsimp only
    cases H.loadV P t ad with
    | none => rfl
    | some v => cases resultsA P H tm rs <;> rfl

/-- Nothing that stood has turned. -/
structure Grown (H H' : AHeap) : Prop where
  get : ∀ j, j < H.next → H'.get j = H.get j
  next : H.next ≤ H'.next
  fresh : H'.Fresh

theorem Grown.refl {H : AHeap} (h : H.Fresh) : Grown H H := ⟨fun _ _ => rfl, Nat.le_refl _, h⟩
theorem Grown.trans {H H1 H2 : AHeap} (h : Grown H H1) (g : Grown H1 H2) : Grown H H2 := ⟨fun j hj => (g.get j (Nat.lt_of_lt_of_le hj h.next)).trans (h.get j hj), Nat.le_trans h.next g.next, g.fresh⟩
theorem Grown.push {H : AHeap} (h : H.Fresh) (o : AObj) : Grown H (H.push o) := ⟨fun j hj => get_push_old (by omega), Nat.le_succ _, (AHeap.le_push H o).fresh h⟩
theorem Grown.push2 {H H1 : AHeap} (h : Grown H H1) (o : AObj) : Grown H (H1.push o) := h.trans (Grown.push h.fresh o)
/-- What is new may turn. -/
theorem Grown.set2 {H H1 : AHeap} (h : Grown H H1) {i : Nat} {x : AObj} (o : AObj) (hx : H1.get i = some x) (hi : H.next ≤ i) : Grown H (H1.set i o) :=
  ⟨fun j hj => by rw [get_set_ne (by omega)]; exact h.get j hj, h.next, (AHeap.le_set hx).fresh h.fresh⟩
theorem Grown.has {H H1 : AHeap} (h : Grown H H1) (hf : H.Fresh) {i : Nat} {x : AObj} (hx : H.get i = some x) : H1.get i = some x := by rw [h.get i (get_lt hf hx)]; exact hx
theorem Grown.own {H H1 : AHeap} (h : Grown H H1) (hf : H.Fresh) {e sz : Nat} {v : Value} {n : Nat} {cells : List Value} (ho : Own H e sz v n cells) : Own H1 e sz v n cells := ho.mono fun i hi => h.get i (ho.id_lt hf i hi)
theorem Grown.upd {H H1 : AHeap} (h : Grown H H1) (F : Nat → Prop) : Upd H F H1 F := ⟨fun j _ hj => h.get j hj, fun _ hj => .inl hj, h.fresh, h.next⟩

/-- The last index below n of which p is true. -/
def lastI (p : Nat → Bool) : Nat → Option Nat
  | 0 => none
  | n + 1 => if p n then some n else lastI p n

theorem lastI_succ {p : Nat → Bool} {n : Nat} : lastI p (n + 1) = if p n then some n else lastI p n := rfl

theorem lastI_some {p : Nat → Bool} : ∀ {n i : Nat}, lastI p n = some i → i < n ∧ p i = true ∧ ∀ j, i < j → j < n → p j = false
  | 0, i, h => by simp [lastI] at h
  | n + 1, i, h => by
    unfold lastI at h
    split at h
    · rename_i hp
      simp only [Option.some.injEq] at h
      subst h
      exact ⟨Nat.lt_succ_self _, hp, fun j h1 h2 => by omega⟩
    · rename_i hp
      obtain ⟨h1, h2, h3⟩ := lastI_some h
      refine ⟨by omega, h2, fun j h4 h5 => ?_⟩
      rcases Nat.lt_or_ge j n with h6 | h6
      · exact h3 j h4 h6
      · obtain rfl : j = n := by omega
        simpa using hp
theorem lastI_none {p : Nat → Bool} : ∀ {n : Nat}, lastI p n = none → ∀ j, j < n → p j = false
  | 0, _, j, hj => by omega
  | n + 1, h, j, hj => by
    unfold lastI at h
    split at h
    · simp at h
    · rename_i hp
      rcases Nat.lt_or_ge j n with h6 | h6
      · exact lastI_none h j h6
      · obtain rfl : j = n := by omega
        simpa using hp

end
end B
end Go.Proofs.Ytnjoaffnfjlcaaa

namespace Go.Proofs.Ytnjoaffnfjlcaaa
namespace B
open Go

section
variable {P : Program} {ext : CallT} {rnd : Bool}

def roundM (K : Nat) (tm : List Value) (dfs : List ADef) (H : AHeap) (k : St → Option (AExit × St)) : Option AObj → Option (AEnd × AHeap)
  | some (.loop ⟨.ready, pe, tm0, ps, as, bd⟩) => roundB K (k ⟨tm, dfs, H.set K (.loop ⟨.busy, pe, tm0, ps, as, bd⟩)⟩)
  | _ => none
theorem roundA_M {K : Nat} {tm : List Value} {dfs : List ADef} {H : AHeap} {k : St → Option (AExit × St)} : roundA K (some (.normal, ⟨tm, dfs, H⟩)) k = roundM K tm dfs H k (H.get K) := by
  unfold roundA roundM
  dsimp only
  cases H.get K with
  | none => rfl
  | some o =>
    cases o <;> try rfl
    rename_i r
    obtain ⟨st, pe, tm0, ps, as, bd⟩ := r
    cases st <;> rfl
theorem roundM_ready {K : Nat} {tm : List Value} {dfs : List ADef} {H : AHeap} {k : St → Option (AExit × St)} {pe : Option Code} {tm0 : List Value} {ps : Array Tmp} {as bd : Code} :
    roundM K tm dfs H k (some (.loop ⟨.ready, pe, tm0, ps, as, bd⟩)) = roundB K (k ⟨tm, dfs, H.set K (.loop ⟨.busy, pe, tm0, ps, as, bd⟩)⟩) := rfl

def roundN (K : Nat) (H : AHeap) (j : Option Code) : Option AObj → Option (AEnd × AHeap)
  | some (.loop ⟨_, _, tm0, ps, as, bd⟩) => some (.ret (.bool j.isNone), H.set K (.loop ⟨if j.isNone then .ready else .done, j, tm0, ps, as, bd⟩))
  | _ => none
theorem roundB_N {K : Nat} {tm : List Value} {dfs : List ADef} {H : AHeap} : roundB K (some (.normal, ⟨tm, dfs, H⟩)) = roundN K H none (H.get K) := by
  unfold roundB jumpOf roundN; dsimp only
  cases H.get K with
  | none => rfl
  | some o => cases o <;> rfl
theorem roundB_R {K : Nat} {tm : List Value} {dfs : List ADef} {H : AHeap} : roundB K (some (.ret, ⟨tm, dfs, H⟩)) = roundN K H (some .ret) (H.get K) := by
  unfold roundB jumpOf roundN; dsimp only
  cases H.get K with
  | none => rfl
  | some o => cases o <;> rfl
theorem roundB_E {K id : Nat} {tm : List Value} {dfs : List ADef} {H : AHeap} : roundB K (some (.exit id, ⟨tm, dfs, H⟩)) = roundN K H (some (.exit id)) (H.get K) := by
  unfold roundB jumpOf roundN; dsimp only
  cases H.get K with
  | none => rfl
  | some o => cases o <;> rfl
theorem roundN_none {K : Nat} {H : AHeap} {st : LoopState} {pe : Option Code} {tm0 : List Value} {ps : Array Tmp} {as bd : Code} :
    roundN K H none (some (.loop ⟨st, pe, tm0, ps, as, bd⟩)) = some (.ret (.bool true), H.set K (.loop ⟨.ready, none, tm0, ps, as, bd⟩)) := rfl
theorem roundN_some {K : Nat} {H : AHeap} {c : Code} {st : LoopState} {pe : Option Code} {tm0 : List Value} {ps : Array Tmp} {as bd : Code} :
    roundN K H (some c) (some (.loop ⟨st, pe, tm0, ps, as, bd⟩)) = some (.ret (.bool false), H.set K (.loop ⟨.done, some c, tm0, ps, as, bd⟩)) := rfl

def rangeM (K : Nat) (s : St) (H' : AHeap) : Option AObj → Option (AExit × St)
  | some (.loop ⟨.busy, _, _, _, _, _⟩) => none
  | some (.loop ⟨_, none, tm0, ps, as, bd⟩) => some (.normal, ⟨s.tmps, s.dfs, H'.set K (.loop ⟨.exhausted, none, tm0, ps, as, bd⟩)⟩)
  | some (.loop ⟨_, some .ret, tm0, ps, as, bd⟩) => some (.ret, ⟨s.tmps, s.dfs, H'.set K (.loop ⟨.exhausted, some .ret, tm0, ps, as, bd⟩)⟩)
  | some (.loop ⟨_, some (.exit i), tm0, ps, as, bd⟩) => some (.exit i, ⟨s.tmps, s.dfs, H'.set K (.loop ⟨.exhausted, some (.exit i), tm0, ps, as, bd⟩)⟩)
  | _ => none
theorem rangeEnd_M {K : Nat} {s : St} {v : Value} {H' : AHeap} : rangeEnd K s (some (.ret v, H')) = rangeM K s H' (H'.get K) := by
  unfold rangeEnd rangeM
  dsimp only
  cases H'.get K with
  | none => rfl
  | some o =>
    cases o <;> try rfl
    rename_i r
    obtain ⟨st, pe, tm0, ps, as, bd⟩ := r
    cases st <;> (cases pe with
      | none => rfl
      | some c => cases c <;> rfl)
theorem rangeM_ready {K : Nat} {s : St} {H' : AHeap} {tm0 : List Value} {ps : Array Tmp} {as bd : Code} : rangeM K s H' (some (.loop ⟨.ready, none, tm0, ps, as, bd⟩)) = some (.normal, ⟨s.tmps, s.dfs, H'.set K (.loop ⟨.exhausted, none, tm0, ps, as, bd⟩)⟩) := rfl
theorem rangeM_ret {K : Nat} {s : St} {H' : AHeap} {tm0 : List Value} {ps : Array Tmp} {as bd : Code} : rangeM K s H' (some (.loop ⟨.done, some .ret, tm0, ps, as, bd⟩)) = some (.ret, ⟨s.tmps, s.dfs, H'.set K (.loop ⟨.exhausted, some .ret, tm0, ps, as, bd⟩)⟩) := rfl

/-! ### Whole boxes -/
theorem setN_box {b : Nat} {e : TypeId} : ∀ (xs : List Value) (o : Nat) (cs : List Value) (H : AHeap), H.get b = some (.box cs e) → o + xs.length ≤ cs.length → xs.all flatV = true → H.setN ⟨b, o, none⟩ xs = some (H.set b (.box (setL cs o xs) e))
  | [], o, cs, H, hg, _, _ => by rw [show setL cs o [] = cs from rfl, AHeap.set_self hg]; rfl
  | x :: xs, o, cs, H, hg, hl, hf => by
    simp only [List.all_cons, Bool.and_eq_true] at hf
    simp only [List.length_cons] at hl
    unfold AHeap.setN
    rw [setCell_eq hf.1, hg, Option.getD_none, setCellO_box rfl (by omega)]
    dsimp only
    rw [addA_mk, setN_box xs (o + 1) (cs.set o x) _ get_set_same (by simpa using by omega) hf.2, AHeap.set_set]
    rfl

theorem setL_all : ∀ (xs cs : List Value) (o : Nat), o + xs.length = cs.length → setL cs o xs = cs.take o ++ xs
  | [], cs, o, h => by
    rw [List.append_nil, List.take_of_length_le (by simp at h; omega)]; rfl
  | x :: xs, cs, o, h => by
    simp only [List.length_cons] at h
    unfold setL
    rw [setL_all xs _ (o + 1) (by simp; omega)]
    have : (cs.set o x).take (o + 1) = cs.take o ++ [x] := by
      rw [List.take_succ_eq_append_getElem (by simp; omega)]
      simp [List.take_set_of_le]
    rw [this, List.append_assoc]
    rfl

theorem storeV_box {H : AHeap} {b : Nat} {t : TypeId} {v : Value} {cs : List Value} {e : TypeId} (hi : (P.info? t).isSome = true) (hg : H.get b = some (.box cs e)) (hc : P.cellsOf t = cs.length) (hv : v.cells.size = cs.length) (hf : v.cells.toList.all flatV = true) :
    H.storeV P t ⟨b, 0, none⟩ v = some (H.set b (.box v.cells.toList e)) := by
  rw [storeV_agg hi (by rw [hv, hc]), setN_box _ _ _ _ hg (by simp [hv]) hf, setL_all _ _ _ (by simp [hv])]
  rfl

theorem loadV_box {H : AHeap} {b : Nat} {t : TypeId} {cs : List Value} {e : TypeId} (ht : aggT P t = some true) (hi : (P.info? t).isSome = true) (hg : H.get b = some (.box cs e)) (hc : P.cellsOf t = cs.length) : H.loadV P t ⟨b, 0, none⟩ = some (.agg cs.toArray) := by
  rw [loadV_agg ht hi, readN_boxO (by rw [hg]; simp [boxCells, hc]), hg]
  simp [boxCells, hc]

theorem opA_sliceHi {H : AHeap} {ρ : Operand → Value} {ty t : TypeId} {x y : Operand} (hx : operandOk x = true) (hy : operandOk y = true) (hs : (sliceInfo P t).isSome = true) :
    opA P H ρ (.slice t x none (some y) none) ty = sliceS P H t (ρ x) none (some (ρ y)) := by rw [opA_slice hx (by simp) (by simp [hy]) hs]; rfl
theorem opA_sliceLo {H : AHeap} {ρ : Operand → Value} {ty t : TypeId} {x y : Operand} (hx : operandOk x = true) (hy : operandOk y = true) (hs : (sliceInfo P t).isSome = true) :
    opA P H ρ (.slice t x (some y) none none) ty = sliceS P H t (ρ x) (some (ρ y)) none := by rw [opA_slice hx (by simp [hy]) (by simp) hs]; rfl
theorem opA_sliceLH {H : AHeap} {ρ : Operand → Value} {ty t : TypeId} {x y z : Operand} (hx : operandOk x = true) (hy : operandOk y = true) (hz : operandOk z = true) (hs : (sliceInfo P t).isSome = true) :
    opA P H ρ (.slice t x (some y) (some z) none) ty = sliceS P H t (ρ x) (some (ρ y)) (some (ρ z)) := by rw [opA_slice hx (by simp [hy]) (by simp [hz]) hs]; rfl

theorem Grown.back {H5 H1 G : AHeap} {K : Nat} {x y o : AObj} (h : Grown H5 H1) (hx : H1.get K = some x) (g : Grown (H1.set K o) G) (hy : H5.get K = some y) (hK : K < H5.next) : Grown H5 (G.set K y) := by
  have hK1 : K < (H1.set K o).next := Nat.lt_of_lt_of_le hK h.next
  have hG : G.get K = some o := by rw [g.get K hK1]; exact get_set_same
  refine ⟨fun j hj => ?_, Nat.le_trans h.next g.next, (AHeap.le_set hG).fresh g.fresh⟩
  by_cases e : j = K
  · subst e; rw [get_set_same, hy]
  · rw [get_set_ne e, g.get j (Nat.lt_of_lt_of_le hj h.next), get_set_ne e]
    exact h.get j hj

end
end B
end Go.Proofs.Ytnjoaffnfjlcaaa

namespace Go.Proofs.Ytnjoaffnfjlcaaa
namespace B
open Go

theorem isSlice_inv {P : Program} {t : TypeId} (h : isSlice P t = true) : ∃ e, P.underlying t = some (.slice e) := by
  unfold isSlice at h; split at h
  · rename_i e hu; exact ⟨e, hu⟩
  · simp at h

section
variable {P : Program} {H : AHeap} {t : TypeId} {x y : Operand}

theorem bin_slice_eql {a : Addr} {n c : Nat} (h : isSlice P t = true) : binS P H .eql t x y (.slice (some a) n c) (.slice none 0 0) = some (.val (.bool false) H) := by
  obtain ⟨e, hu⟩ := isSlice_inv h
  exact (bin_nil (op := .eql) (v := .slice (some a) n c) (w := .slice none 0 0) (b := false) (.inr (.inl (by simp [closedV]))) hu rfl).1 rfl
theorem bin_slice_neq {a : Addr} {n c : Nat} (h : isSlice P t = true) : binS P H .neq t x y (.slice (some a) n c) (.slice none 0 0) = some (.val (.bool true) H) := by
  obtain ⟨e, hu⟩ := isSlice_inv h
  exact (bin_nil (op := .neq) (v := .slice (some a) n c) (w := .slice none 0 0) (b := false) (.inr (.inl (by simp [closedV]))) hu rfl).2 rfl
theorem pureRun_eqNilSlice {e : TypeId} (hu : P.underlying t = some (.slice e)) : pureRun P (Op.equal t (.slice none 0 0) (.slice none 0 0)) = some true := by
  unfold Op.equal
  show pureRun P (Op.equalIn 10000 t (.slice none 0 0) (.slice none 0 0)) = _
  unfold Op.equalIn
  rw [pureRun_seq (pureRun_underlying hu)]
  rfl
theorem bin_snil_eql (h : isSlice P t = true) : binS P H .eql t x y (.slice none 0 0) (.slice none 0 0) = some (.val (.bool true) H) := by
  obtain ⟨e, hu⟩ := isSlice_inv h
  refine binS_of ?_
  have h1 : eqGuard .eql t x y (.slice none 0 0) (.slice none 0 0) = pure () := rfl
  have h2 : binOp .eql t (.slice none 0 0) (.slice none 0 0) = (do pure (.bool (← Op.equal t (.slice none 0 0) (.slice none 0 0)))) := rfl
  unfold binC
  rw [h1, pureRun_seq pureRun_pure, h2, pureRun_seq (pureRun_eqNilSlice hu)]
  simp [closedV, pureRun_pure]
theorem bin_snil_neq (h : isSlice P t = true) : binS P H .neq t x y (.slice none 0 0) (.slice none 0 0) = some (.val (.bool false) H) := by
  obtain ⟨e, hu⟩ := isSlice_inv h
  refine binS_of ?_
  have h1 : eqGuard .neq t x y (.slice none 0 0) (.slice none 0 0) = pure () := rfl
  have h2 : binOp .neq t (.slice none 0 0) (.slice none 0 0) = (do pure (.bool (!(← Op.equal t (.slice none 0 0) (.slice none 0 0))))) := rfl
  unfold binC
  rw [h1, pureRun_seq pureRun_pure, h2, pureRun_seq (pureRun_eqNilSlice hu)]
  simp [closedV, pureRun_pure]

end

/-! ### Slots as a list that is written out -/
theorem theCall_lit {P : Program} {ext : CallT} {f : FuncId} {fn : Func} {c : Code} {rs : List ResultVar} {args : List Value} (tm : List Value) {H : AHeap} {r : Option (AEnd × AHeap)} (hx : ext f args H = none) (hf : P.funcs[f]? = some fn) (hb : fn.body = some c)
    (hr : fn.results.toList = rs) (ht : args ++ List.replicate (fn.ntmps - args.length) undef = tm) (h : leaveR P rs (theCode P ext false c ⟨tm, [], H⟩) = r) : theCall P ext f args H = r := by
  rw [theCall_body hx hf hb, leaveA_R, hr]
  unfold enterA
  rw [ht]; exact h
theorem yieldS_cons {v : Value} {tm : List Value} {d : Nat} : yieldS (v :: tm) (some (d + 1)) = yieldS tm (some d) := rfl
theorem yieldS_head {v : Value} {tm : List Value} : yieldS (v :: tm) (some 0) = boolOf v := rfl

theorem evalList_capp {P : Program} {call : CallT} {rnd : Bool} {all l l2 : List Oper} {o : Oper} {s : St} : evalList P call rnd all (List.append (o :: l) l2) s = evalList P call rnd all (o :: List.append l l2) s := rfl
theorem evalList_napp {P : Program} {call : CallT} {rnd : Bool} {all l2 : List Oper} {s : St} : evalList P call rnd all (List.append [] l2) s = evalList P call rnd all l2 s := rfl
theorem slotAt_capp {l l2 : List Oper} {o : Oper} {j : Nat} : slotAt (List.append (o :: l) l2) j = slotAt (o :: List.append l l2) j := rfl
theorem slotAt_napp {l2 : List Oper} {j : Nat} : slotAt (List.append [] l2) j = slotAt l2 j := rfl

end B
end Go.Proofs.Ytnjoaffnfjlcaaa

namespace Go.Proofs.Ytnjoaffnfjlcaaa
namespace B
open Go

/-- The bodies of the loops of a code, in the text's order. -/
def loopsC : Code → List Code
  | .seq a b => loopsC a ++ loopsC b
  | .cond _ a b => loopsC a ++ loopsC b
  | .block _ a => loopsC a
  | .loop a => a :: loopsC a
  | _ => []

def loopsF (fn : Func) : List Code := match fn.body with
  | some c => loopsC c
  | none => []

/-- The statements of a code, one behind the other. -/
def seqsC : Code → List Code
  | .seq a b => seqsC a ++ seqsC b
  | c => [c]

def seqsF (fn : Func) : List Code := match fn.body with
  | some c => seqsC c
  | none => []

noncomputable def theList (P : Program) (ext : CallT) (rnd : Bool) : List Code → St → Option (AExit × St)
  | [], s => some (.normal, s)
  | c :: l, s => thenA (theCode P ext rnd c s) fun s1 => theList P ext rnd l s1

section
variable {P : Program} {ext : CallT} {rnd : Bool}
theorem thenA_assoc {r : Option (AExit × St)} {f g : St → Option (AExit × St)} : thenA (thenA r f) g = thenA r fun s => thenA (f s) g := by
  cases r with
  | none => rfl
  | some p =>
    obtain ⟨x, s⟩ := p
    cases x <;> rfl

theorem theList_nil {s : St} : theList P ext rnd [] s = some (.normal, s) := rfl
theorem theList_cons {c : Code} {l : List Code} {s : St} : theList P ext rnd (c :: l) s = thenA (theCode P ext rnd c s) fun s1 => theList P ext rnd l s1 := rfl
theorem theList_append {l1 l2 : List Code} : ∀ {s : St}, theList P ext rnd (l1 ++ l2) s = thenA (theList P ext rnd l1 s) fun s1 => theList P ext rnd l2 s1 := by
  induction l1 with
  | nil => intro s; rfl
  | cons c l ih =>
    intro s
    rw [List.cons_append, theList_cons, theList_cons, thenA_assoc]
    congr 1
    funext s1
    exact ih

theorem thenA_some_normal {r : Option (AExit × St)} : (thenA r fun s1 => some (.normal, s1)) = r := by
  cases r with
  | none => rfl
  | some p =>
    obtain ⟨x, s⟩ := p
    cases x <;> rfl

theorem theCode_seqs : ∀ {c : Code} {s : St}, theCode P ext rnd c s = theList P ext rnd (seqsC c) s := by
  intro c
  induction c with
  | seq a b iha ihb =>
    intro s
    rw [theCode_seq, seqsC, theList_append, iha]
    congr 1
    funext s1
    exact ihb
  | _ =>
    intro s
    have : ∀ {c : Code}, theCode P ext rnd c s = theList P ext rnd [c] s := fun {c} => by rw [theList_cons]; exact thenA_some_normal.symm
    exact this

theorem theList_drop {l : List Code} {n : Nat} {s : St} : theList P ext rnd l s = thenA (theList P ext rnd (l.take n) s) fun s1 => theList P ext rnd (l.drop n) s1 := by
  rw [← theList_append, List.take_append_drop]

theorem theList_at {l : List Code} {i : Nat} {c : Code} {s : St} (h : l[i]? = some c) : theList P ext rnd (l.drop i) s = thenA (theCode P ext rnd c s) fun s1 => theList P ext rnd (l.drop (i + 1)) s1 := by
  obtain ⟨hi, he⟩ := List.getElem?_eq_some_iff.1 h
  rw [List.drop_eq_getElem_cons hi, he, theList_cons]

/-- A function met in a goal, its body as statements. -/
theorem theCall_list {F : Option (AEnd × AHeap) → Prop} {f : FuncId} {fn : Func} {rs : List ResultVar} {n : Nat} {args : List Value} {H : AHeap} (hx : ext f args H = none) (hf : P.funcs[f]? = some fn) (hb : fn.body.isSome = true)
    (hr : fn.results.toList = rs) (hn : fn.ntmps = n) (hl : args.length ≤ n) (h : ∀ tm : List Value, tm.length = n → (∀ i, tm.getD i undef = args.getD i undef) → F (leaveR P rs (theList P ext false (seqsF fn) ⟨tm, [], H⟩))) :
    F (theCall P ext f args H) := by
  cases hbb : fn.body with
  | none => rw [hbb] at hb; cases hb
  | some c =>
    refine theCall_goal hx hf hbb hr hn hl fun tm h1 h2 => ?_
    have := h tm h1 h2
    unfold seqsF at this
    rw [hbb] at this
    rw [theCode_seqs]
    exact this
end

section
variable {P : Program} {ext : CallT} {rnd : Bool}
/-- A loop met in a goal, walked elsewhere. -/
theorem loop_use {c : Code} {F : Option (AExit × St) → Prop} {I : Nat → St → Prop} {Q : AExit → St → Prop} {s : St}
    (hl : ∀ k s, I k s → ∃ x s', theCode P ext rnd (.loop c) s = some (x, s') ∧ x ≠ .normal ∧ Q x s') (k : Nat) (h0 : I k s)
    (hF : ∀ x s', x ≠ .normal → Q x s' → F (some (x, s'))) : F (theCode P ext rnd (.loop c) s) := by
  obtain ⟨x, s', h, hx, hq⟩ := hl k s h0
  rw [h]; exact hF x s' hx hq
end

end B
end Go.Proofs.Ytnjoaffnfjlcaaa

namespace Go.Proofs.Ytnjoaffnfjlcaaa
namespace B
open Go

/-- Every world's run of the code comes to an end of which Q holds. -/
def AWP (P : Program) (c : Code) (s : St) (Q : AExit → St → Prop) : Prop :=
  ∀ (n : Nat) (N0 : Fz) (β : Emb) (a : Act) (w : World), SRel P N0 β s a w → N0.b ≤ w.heap.size → c.wpIn (WF none) n P (fun e a' w' => ∃ x s', Q x s' ∧ OutC P N0 β w x s' e a' w') a w

/-- The same of statements, one behind the other. -/
def AWPL (P : Program) : List Code → St → (AExit → St → Prop) → Prop
  | [], s, Q => Q .normal s
  | c :: l, s, Q => AWP P c s fun x s' => (x = .normal ∧ AWPL P l s' Q) ∨ (x ≠ .normal ∧ Q x s')

section
variable {P : Program} {ext : CallT}

theorem AWP.mono {c : Code} {s : St} {R Q : AExit → St → Prop} (h : AWP P c s R) (hq : ∀ x s', R x s' → Q x s') : AWP P c s Q :=
  fun n N0 β a w hs hb => wpIn_mono (h n N0 β a w hs hb) fun _ _ _ ⟨x, s', h1, h2⟩ => ⟨x, s', hq x s' h1, h2⟩

theorem AWP.of_code (hext : CallOK P ext) (hm : P.follows .mixedOrders = true) {c : Code} {s : St} {x : AExit} {s' : St} {Q : AExit → St → Prop} (h : theCode P ext false c s = some (x, s')) (hq : Q x s') : AWP P c s Q := by
  intro n N0 β a w hs hb
  obtain ⟨k, hk⟩ := theCode_some.1 h
  exact ((code_sound (evalFn_ok hext hm k) hm k).1 c) none n s x s' N0 β a w hk hs hb _ fun e a' w' ho => ⟨x, s', hq, ho⟩

theorem AWP.seq {a b : Code} {s : St} {R Q : AExit → St → Prop} (h : AWP P a s R) (h1 : ∀ s', R .normal s' → AWP P b s' Q) (h2 : ∀ x s', x ≠ .normal → R x s' → Q x s') : AWP P (.seq a b) s Q := by
  intro n N0 β ac w hs hb
  refine wpIn_seq (wpIn_mono (h n N0 β ac w hs hb) ?_)
  rintro e a' w' ⟨x, s', hr, ho⟩
  by_cases hx : x = .normal
  · subst hx
    obtain ⟨rfl, N1, γ, g1, g2, le, hs1, hf, hb1⟩ := ho.normal hb
    refine wpIn_mono (h1 s' hr n N1 γ a' w' hs1 hb1) ?_
    rintro e2 a2 w2 ⟨x2, s2, hq, ho2⟩
    exact ⟨x2, s2, hq, ho2.trans g1 g2 le hf⟩
  · exact then_of (ho.not_normal hx) ⟨x, s', h2 x s' hx hr, ho⟩

theorem AWP.seq_run (hext : CallOK P ext) (hm : P.follows .mixedOrders = true) {a b : Code} {s s1 : St} {Q : AExit → St → Prop} (h : theCode P ext false a s = some (.normal, s1)) (h1 : AWP P b s1 Q) : AWP P (.seq a b) s Q :=
  AWP.seq (R := fun x s' => x = .normal ∧ s' = s1) (AWP.of_code hext hm h ⟨rfl, rfl⟩) (fun s' hs => by obtain ⟨_, rfl⟩ := hs; exact h1) (fun x s' hx hs => absurd hs.1 hx)

theorem AWP.block {id : Nat} {c : Code} {s : St} {R1 Q : AExit → St → Prop} (h : AWP P c s R1) (h1 : ∀ s', R1 (.exit id) s' → Q .normal s') (h2 : ∀ x s', x ≠ .exit id → R1 x s' → Q x s') : AWP P (.block id c) s Q := by
  intro n N0 β ac w hs hb
  refine wpIn_block (wpIn_mono (h n N0 β ac w hs hb) ?_)
  rintro e a' w' ⟨x, s', hr, ho⟩
  by_cases hx : x = .exit id
  · subst hx
    obtain ⟨N1, γ, g1, g2, le, hs1, hf, hxr⟩ := ho
    cases e <;> first | exact hxr.elim | skip
    rename_i j
    obtain rfl : id = j := hxr
    simp only [Exit.inBlock, if_true]
    refine ⟨.normal, s', h1 s' hr, N1, γ, g1, g2, le, ⟨?_, hs1.dfs, hs1.heap⟩, hf, trivial⟩
    rcases hs1.tmps with h | ⟨_, v, hv⟩
    · exact .inl h
    · cases hv
  · have hq : ∃ x s', Q x s' ∧ OutC P N0 β w x s' e a' w' := ⟨x, s', h2 x s' hx hr, ho⟩
    cases e with
    | exit j =>
      have hj : j ≠ id := by
        rintro rfl
        obtain ⟨N1, γ, g1, g2, le, hs1, hf, hxr⟩ := ho
        cases x <;> first | exact hxr.elim | skip
        rename_i i
        obtain rfl : i = j := hxr
        exact hx rfl
      simp only [Exit.inBlock, if_neg hj]
      exact hq
    | _ => exact hq

theorem AWP.loop {c : Code} {Q : AExit → St → Prop} (I : Nat → St → Prop) (step : ∀ k s, I k s → AWP P c s fun x s' => (x = .normal ∧ ∃ k', k' < k ∧ I k' s') ∨ (x ≠ .normal ∧ Q x s')) : ∀ (k : Nat) (s : St), I k s → AWP P (.loop c) s Q := by
  intro k s hI n N0 β ac w hs hb
  have main : ∀ (k : Nat) (s : St) (N0 : Fz) (β : Emb) (ac : Act) (w : World), I k s → SRel P N0 β s ac w → N0.b ≤ w.heap.size → Code.roundsIn (WF none) n P c (fun e a' w' => ∃ x s', Q x s' ∧ OutC P N0 β w x s' e a' w') (k + 1) ac w := by
    intro k
    induction k using Nat.strongRecOn with
    | _ k ih =>
      intro s N0 β ac w hI hs hb
      rw [roundsIn_succ]
      refine wpIn_mono (step k s hI n N0 β ac w hs hb) ?_
      rintro e a' w' ⟨x, s', (⟨rfl, k', hk, hI'⟩ | ⟨hx, hq⟩), ho⟩
      · obtain ⟨rfl, N1, γ, g1, g2, le, hs1, hf, hb1⟩ := ho.normal hb
        have h1 := ih k' hk s' N1 γ a' w' hI' hs1 hb1
        have up : ∀ (m : Nat) (Q1 Q2 : Exit → Act → World → Prop) (ac : Act) (w : World), (∀ e a w, Q1 e a w → Q2 e a w) → ∀ m', m ≤ m' → Code.roundsIn (WF none) n P c Q1 m ac w → Code.roundsIn (WF none) n P c Q2 m' ac w := by
          intro m
          induction m with
          | zero => intro Q1 Q2 ac w _ m' _ h; exact h.elim
          | succ m ihm =>
            intro Q1 Q2 ac w hq m' hm h
            obtain ⟨m'', rfl⟩ : ∃ m'', m' = m'' + 1 := ⟨m' - 1, by omega⟩
            rw [roundsIn_succ] at h ⊢
            refine wpIn_mono h ?_
            intro e a w he
            cases e <;> first | exact ihm _ _ _ _ hq m'' (by omega) he | exact hq _ _ _ he
        refine up (k' + 1) _ _ _ _ ?_ k (by omega) h1
        rintro e2 a2 w2 ⟨x2, s2, hq, ho2⟩
        exact ⟨x2, s2, hq, ho2.trans g1 g2 le hf⟩
      · exact then_of (ho.not_normal hx) ⟨x, s', hq, ho⟩
  exact wpIn_loop_rounds (k + 1) (main k s N0 β ac w hI hs hb)

theorem AWPL.cons {c : Code} {l : List Code} {s : St} {Q : AExit → St → Prop} (h : AWP P c s fun x s' => (x = .normal ∧ AWPL P l s' Q) ∨ (x ≠ .normal ∧ Q x s')) : AWPL P (c :: l) s Q := h

theorem AWPL.append : ∀ {l1 l2 : List Code} {s : St} {Q : AExit → St → Prop}, AWPL P l1 s (fun x s' => (x = .normal ∧ AWPL P l2 s' Q) ∨ (x ≠ .normal ∧ Q x s')) → AWPL P (l1 ++ l2) s Q
  | [], l2, s, Q, h => by
    rcases h with ⟨_, h⟩ | ⟨h, _⟩
    · exact h
    · exact absurd rfl h
  | c :: l1, l2, s, Q, h => by
    refine AWP.mono h fun x s' hx => ?_
    rcases hx with ⟨rfl, hx⟩ | ⟨hx, h1 | h1⟩
    · exact .inl ⟨rfl, AWPL.append hx⟩
    · exact absurd h1.1 hx
    · exact .inr ⟨hx, h1.2⟩

theorem AWPL.mono : ∀ {l : List Code} {s : St} {R Q : AExit → St → Prop}, AWPL P l s R → (∀ x s', R x s' → Q x s') → AWPL P l s Q
  | [], _, _, _, h, hq => hq _ _ h
  | c :: l, _, _, _, h, hq => AWP.mono h fun x s' hx => by
    rcases hx with ⟨rfl, hx⟩ | ⟨hx, h1⟩
    · exact .inl ⟨rfl, AWPL.mono hx hq⟩
    · exact .inr ⟨hx, hq _ _ h1⟩

theorem AWPL.of_code (hext : CallOK P ext) (hm : P.follows .mixedOrders = true) : ∀ {l : List Code} {s : St} {x : AExit} {s' : St} {Q : AExit → St → Prop}, theList P ext false l s = some (x, s') → Q x s' → AWPL P l s Q
  | [], s, x, s', Q, h, hq => by
    rw [theList_nil] at h
    obtain ⟨rfl, rfl⟩ := (by simpa using h : AExit.normal = x ∧ s = s')
    exact hq
  | c :: l, s, x, s', Q, h, hq => by
    rw [theList_cons] at h
    rcases thenA_some.1 h with ⟨s1, h1, h2⟩ | ⟨h1, h2⟩
    · exact AWP.of_code hext hm h1 (.inl ⟨rfl, AWPL.of_code hext hm h2 hq⟩)
    · exact AWP.of_code hext hm h1 (.inr ⟨h2, hq⟩)

theorem AWPL.run (hext : CallOK P ext) (hm : P.follows .mixedOrders = true) {l1 l2 : List Code} {s s1 : St} {Q : AExit → St → Prop} (h2 : AWPL P l2 s1 Q) (h1 : theList P ext false l1 s = some (.normal, s1)) : AWPL P (l1 ++ l2) s Q :=
  AWPL.append (AWPL.of_code hext hm h1 (.inl ⟨rfl, h2⟩))

theorem AWPL.run_end (hext : CallOK P ext) (hm : P.follows .mixedOrders = true) {l : List Code} {s : St} {x : AExit} {s' : St} {Q : AExit → St → Prop} (h1 : theList P ext false l s = some (x, s')) (hq : Q x s') : AWPL P l s Q :=
  AWPL.of_code hext hm h1 hq

theorem AWP.of_list : ∀ {c : Code} {s : St} {Q : AExit → St → Prop}, AWPL P (seqsC c) s Q → AWP P c s Q := by
  intro c
  induction c with
  | seq a b iha ihb =>
    intro s Q h
    rw [seqsC] at h
    have h' : AWPL P (seqsC a) s (fun x s' => (x = .normal ∧ AWPL P (seqsC b) s' Q) ∨ (x ≠ .normal ∧ Q x s')) := by
      clear iha ihb
      generalize seqsC a = l at h ⊢
      induction l generalizing s with
      | nil => exact .inl ⟨rfl, h⟩
      | cons c l ih =>
        refine AWP.mono h fun x s' hx => ?_
        rcases hx with ⟨rfl, hx⟩ | ⟨hx, h1⟩
        · exact .inl ⟨rfl, ih hx⟩
        · exact .inr ⟨hx, .inr ⟨hx, h1⟩⟩
    refine AWP.seq (iha h') (fun s' hs => ?_) (fun x s' hx hs => ?_)
    · rcases hs with ⟨_, hs⟩ | ⟨hs, _⟩
      · exact ihb hs
      · exact absurd rfl hs
    · rcases hs with ⟨hs, _⟩ | ⟨_, hs⟩
      · exact absurd hs hx
      · exact hs
  | _ =>
    intro s Q h
    refine AWP.mono (show AWP P _ s _ from h) fun x s' hx => ?_
    rcases hx with ⟨rfl, hx⟩ | ⟨_, hx⟩
    · exact hx
    · exact hx

/-- What a table of calls must keep to, at one entry. -/
def extOK (P : Program) (f : FuncId) (args : List Value) (H : AHeap) (r : AEnd × AHeap) : Prop :=
  AHeap.le H r.2 ∧ ∀ (N0 : Fz) (β : Emb) (w : World) (nx : Next), HRel P N0 β H w → Comes P β w f args nx → ∀ (ro : Option Nat) (n : Nat), NextIn (WF ro) n P nx w (CallRel P N0 β w r.1 r.2)

theorem AWP.call {f : FuncId} {fn : Func} {c : Code} {args : List Value} {H H' : AHeap} {v : Value} (hf : P.funcs[f]? = some fn) (hb : fn.body = some c) (hle : AHeap.le H H')
    (h : AWP P c (enterA fn args H) fun x s => (x = .normal ∨ x = .ret) ∧ s.dfs = [] ∧ s.H = H' ∧ ∃ vs, resultsA P H' s.tmps fn.results.toList = some vs ∧ packA vs = v) : extOK P f args H (.ret v, H') := by
  refine ⟨hle, fun N0 β w nx hh hc ro n => ?_⟩
  cases hc with
  | round he _ _ _ _ =>
    rw [he, Array.getElem?_eq_none (by omega)] at hf; simp at hf
  | @fn fn2 args' hf' ha =>
    have main : CallsIn (WF none) n P f args' w (CallRel P N0 β w (.ret v) H') := by
      refine callsIn_of_wp_marks hf hb trivial ?_
      let N0' : Fz := ⟨N0.low, w.heap.size⟩
      have hh' : HRel P N0' β H w := hh.weaken fun b hb => hb
      refine wpIn_mono (h n N0' β _ w ⟨enterA_rel ha H, .nil, hh'⟩ (Nat.le_refl _)) ?_
      rintro e' a' w' ⟨x, s', ⟨hxx, hd, hH, vs, hvs, hv⟩, N1, γ, g1, g2, le, hs, hfr, hx⟩
      subst hH
      have hfr0 : Fr N0 w w' := hfr.weaken (N1 := N0') fun b hb => hb
      have hlt : ∀ b, N0.low b → b < N1.b := fun b hb => by rw [g1]; exact hh.base b hb
      have hh1 : HRel P N0 γ s'.H w' := hs.heap.weaken fun b hb => g2 b hb
      have hdd : DRels P N1 γ w' [] a'.defers := by rw [← hd]; exact hs.dfs
      have htm : VRels γ s'.tmps a'.tmps.toList := by
        rcases hs.tmps with h | ⟨_, v, hv⟩
        · exact h
        · rcases hxx with h | h <;> (rw [h] at hv; cases hv)
      have fin : LeavesInM (WF none) n P fn a'.tmps (CallRel P N0 β w (.ret v) s'.H) a'.defers .returning w' := by
        refine leaves_marks (by simp) hlt _ _ hdd hh1 fun w'' hh2 hf2 => ?_
        obtain ⟨v', h1, h2⟩ := results_run hh2 htm hvs
        exact ⟨v', h1, γ, le, hh2, by rw [← hv]; exact h2, hfr0.trans hf2⟩
      rcases hxx with rfl | rfl
      · cases e' <;> first | exact hx.elim | skip
        exact fin
      · cases e' <;> first | exact hx.elim | skip
        exact fin
    cases ro <;> exact main

/-- A table of calls out of what one function's answers are known to be. -/
theorem ext_ok {f0 : FuncId} {g : List Value → AHeap → Option (AEnd × AHeap)} (h : ∀ args H r, g args H = some r → extOK P f0 args H r) : CallOK P (fun f args H => if f = f0 then g args H else none) := by
  intro f args H e H' he
  dsimp only at he
  split at he
  · rename_i hf
    subst hf
    exact h _ _ _ he
  · simp at he

end

end B
end Go.Proofs.Ytnjoaffnfjlcaaa

namespace Go.Proofs.Ytnjoaffnfjlcaaa
namespace B
open Go
open Go.ChangeMaps (setBlock)

section
variable {P : Program} {N0 : Fz} {β : Emb} {H : AHeap} {w : World}

theorem HRel.keepI (h : HRel P N0 β H w) {w' : World} (hs : w.heap.size ≤ w'.heap.size) (hk : ∀ (b : Nat) (o : Obj), w.heap[b]? = some o → (∀ m s q l, o ≠ .mapIter m s q l) → w'.heap[b]? = some o) : HRel P N0 β H w' := by
  constructor
  · intro i k b o r h1 h2
    obtain ⟨c, fz, hok⟩ := h.row _ _ _ _ _ h1 h2
    exact ⟨c, fz, { blk := hk _ _ hok.blk (fun _ _ _ _ => by simp), size := hok.size, elem := hok.elem, robes := hok.robes, cell := hok.cell, own := hok.own, gen := hok.gen }⟩
  · intro i b es h1 h2
    obtain ⟨a, ces, cl, c, d⟩ := h.map _ _ _ h1 h2
    exact ⟨a, ces, cl, hk _ _ c (fun _ _ _ _ => by simp), d⟩
  · exact h.dom
  · exact h.domM
  · exact h.fresh
  · exact h.stle
  · exact h.inj
  · exact h.injM
  · intro b hb; have := h.base b hb; omega
  · exact h.nx
  · exact h.liveR
  · exact h.liveM
  · exact h.live
  · intro i b h1
    obtain ⟨q, q', h2, h3, h4, h5⟩ := h.lp _ _ h1
    exact ⟨q, q', h2, h3, hk _ _ h4 (fun _ _ _ _ => by simp), h5⟩
  · exact h.injL

theorem heap_setBlock {r b : Nat} {o : Obj} : (setBlock w r o).heap[b]? = if b = r then (if b < w.heap.size then some o else none) else w.heap[b]? := by
  unfold setBlock
  simp only [Array.getElem?_setIfInBounds]
  by_cases hb : b = r
  · subst hb; simp
  · simp [hb, Ne.symm hb]

theorem size_setBlock {r : Nat} {o : Obj} : (setBlock w r o).heap.size = w.heap.size := by unfold setBlock; simp

theorem HRel.putIter (h : HRel P N0 β H w) {r : Nat} {m : Option Nat} {s : Nat} {q : Array Nat} {l : Nat} (hr : w.heap[r]? = some (.mapIter m s q l)) (o : Obj) : HRel P N0 β H (setBlock w r o) :=
  h.keepI (by rw [size_setBlock]; exact Nat.le_refl _) fun b o' hb hne => by
    have : b ≠ r := by rintro rfl; rw [hr] at hb; exact hne _ _ _ _ (by simpa using hb.symm)
    rw [heap_setBlock, if_neg this]; exact hb

theorem HRel.drewI (h : HRel P N0 β H w) : HRel P N0 β H w.drew := h.keepI (Nat.le_refl _) fun _ _ hb _ => hb

theorem HRel.freezeI (h : HRel P N0 β H w) {r : Nat} {m : Option Nat} {s : Nat} {q : Array Nat} {l : Nat} (hr : w.heap[r]? = some (.mapIter m s q l)) (n : Nat) : HRel P ⟨fun b => N0.low b ∨ b = r, n⟩ β H w := by
  constructor
  · intro i k b o rr h1 h2
    obtain ⟨c, fz, hok⟩ := h.row _ _ _ _ _ h1 h2
    refine ⟨c, fz, { blk := hok.blk, size := hok.size, elem := hok.elem, robes := hok.robes, cell := hok.cell, own := fun e => ⟨(hok.own e).1, ?_, (hok.own e).2.2⟩, gen := hok.gen }⟩
    rintro (hb | rfl)
    · exact (hok.own e).2.1 hb
    · have := hok.blk; rw [hr] at this; simp at this
  · intro i b es h1 h2
    obtain ⟨a, ces, cl, c, d⟩ := h.map _ _ _ h1 h2
    refine ⟨?_, ces, cl, c, d⟩
    rintro (hb | rfl)
    · exact a hb
    · rw [hr] at c; simp at c
  · exact h.dom
  · exact h.domM
  · exact h.fresh
  · exact h.stle
  · exact h.inj
  · exact h.injM
  · rintro b (hb | rfl)
    · exact h.base b hb
    · exact (Array.getElem?_eq_some_iff.1 hr).1
  · exact h.nx
  · exact h.liveR
  · exact h.liveM
  · exact h.live
  · intro i b h1
    obtain ⟨q, q', h2, h3, h4, h5⟩ := h.lp _ _ h1
    refine ⟨q, q', h2, ?_, h4, h5⟩
    rintro (hb | rfl)
    · exact h3 hb
    · rw [hr] at h4; simp at h4
  · exact h.injL

/-- The entries of a map in another order. -/
theorem HRel.reorder (h : HRel P N0 β H w) {x : Nat} {es es' : List (Value × Value)} (hp : es'.Perm es) (hs : strKeys es = true) (hn : (es.map (·.1)).Nodup) (hx : H.get x = some (.map es')) : HRel P N0 β (H.set x (.map es)) w := by
  have hget : ∀ j, j ≠ x → (H.set x (.map es)).get j = H.get j := fun j hj => by simp [AHeap.set, hj]
  have hview : ∀ j, (H.set x (.map es)).view j = H.view j := fun j => by
    by_cases hj : j = x
    · subst hj
      simp [AHeap.view, AHeap.set, hx, AObj.view]
    · unfold AHeap.view; rw [hget j hj]
  constructor
  · intro i k b o r h1 h2
    rw [hview] at h2
    exact h.row _ _ _ _ _ h1 h2
  · intro i b es2 h1 h2
    by_cases hi : i = x
    · subst hi
      have : es = es2 := by simpa [AHeap.set] using h2
      subst this
      obtain ⟨a, ces, cl, c, ⟨⟨es0, d1, d2⟩, d3, d4⟩⟩ := h.map _ _ _ h1 hx
      refine ⟨a, ces, cl, c, ⟨⟨es0, d1, .inr ⟨?_, hs, hn⟩⟩, d3, d4⟩⟩
      rcases d2 with rfl | ⟨d2, _, _⟩
      · exact hp
      · exact d2.trans hp
    · rw [hget _ hi] at h2
      exact h.map _ _ _ h1 h2
  · intro i k p h1; rw [hview]; exact h.dom _ _ _ h1
  · intro i b h1
    by_cases hi : i = x
    · subst hi; exact ⟨es, by simp [AHeap.set]⟩
    · rw [hget _ hi]; exact h.domM _ _ h1
  · intro i hi
    have hi' : H.next ≤ i := hi
    have := h.lt_of_get hx
    rw [hget _ (by omega)]; exact h.fresh _ hi'
  · intro i r h1; rw [hview] at h1; exact h.stle _ _ h1
  · intro i k b o i' k' o' r r' h1 h2 h3 h4
    rw [hview] at h3 h4
    exact h.inj _ _ _ _ _ _ _ _ _ h1 h2 h3 h4
  · exact h.injM
  · exact h.base
  · exact h.nx
  · exact h.liveR
  · exact h.liveM
  · exact h.live
  · intro i b h1
    obtain ⟨q, q', h2, h3, h4, h5⟩ := h.lp _ _ h1
    have hi : i ≠ x := by rintro rfl; rw [hx] at h2; simp at h2
    exact ⟨q, q', by rw [hget _ hi]; exact h2, h3, h4, h5⟩
  · exact h.injL

/-- A string's entry put anew. -/
theorem mapPut_new {t kt et : TypeId} {r : Nat} {k : ByteArray} {v : Value} {es : List (Value × Value)} (hu : P.underlying t = some (.map kt et)) (hk : P.underlying kt = some .string) (hr : H.get r = some (.map es)) (hs : strKeys es = true) (hn : ∀ p ∈ es, p.1 ≠ .string k) :
    H.mapPut P t (.map (some r)) (.string k) v = some (H.set r (.map (es ++ [(.string k, v)]))) := by
  have hkt : isStrT P kt = true := by unfold isStrT; rw [hk]
  have hf : findS k es 0 = none := by
    cases h : findS k es 0 with
    | none => rfl
    | some q =>
      obtain ⟨j, u⟩ := q
      obtain ⟨_, h2⟩ := findS_some h
      exact absurd rfl (hn _ (List.mem_of_getElem? h2))
  unfold AHeap.mapPut
  rw [hu]
  dsimp only
  rw [hr]
  dsimp only
  rw [if_pos (fit_str hk), checkKey_str hk, findKey_S hkt hs, hf]

/-! ### One operation, by hand -/
variable {ops : Array Oper} {a : Act} {i : Nat} {rest : List Nat} {Q : Exit → Act → World → Prop} {n : Nat} {o : Oper} {w' : World}

theorem ops_val (ho : ops[i]? = some o) (hg : o.guard = none) (hd : ∀ c, o.op ≠ .defer c) {v : Value} (hr : (execOp a.eval o).run P w = .ok (.value v) w') (h : wpOpsIn (WF none) n P ops Q rest (a.put o.dst v) w') : wpOpsIn (WF none) n P ops Q (i :: rest) a w := by
  unfold wpOpsIn
  rw [ho]
  dsimp only
  have hw : Region.wanted o (yielded ops a.tmps) = true := by unfold Region.wanted; rw [hg]
  rw [if_pos hw]
  refine ⟨wf_about, ?_⟩
  have : (o.semAt (WF none).round a.eval) = execOp a.eval o := rfl
  rw [this, hr]
  exact h

theorem ops_skip (ho : ops[i]? = some o) (hg : o.guard = none) (hd : ∀ c, o.op ≠ .defer c) (hr : (execOp a.eval o).run P w = .ok .skip w') (h : wpOpsIn (WF none) n P ops Q rest (a.put o.dst undef) w') : wpOpsIn (WF none) n P ops Q (i :: rest) a w := by
  unfold wpOpsIn
  rw [ho]
  dsimp only
  have hw : Region.wanted o (yielded ops a.tmps) = true := by unfold Region.wanted; rw [hg]
  rw [if_pos hw]
  refine ⟨wf_about, ?_⟩
  have : (o.semAt (WF none).round a.eval) = execOp a.eval o := rfl
  rw [this, hr]
  exact h

theorem DRels.low {N1 : Fz} (hl : ∀ b, N0.low b → N1.low b) (hb : N1.b = N0.b) {l1 : List ADef} {l2 : List Deferred} (h : DRels P N0 β w l1 l2) : DRels P N1 β w l1 l2 := by
  induction h with
  | nil => exact .nil
  | cons h _ ih => exact .cons h ih
  | mark h1 h2 h3 h4 _ ih => exact .mark (hl _ h1) (by rw [hb]; exact h2) h3 h4 ih

end

end B
end Go.Proofs.Ytnjoaffnfjlcaaa

namespace Go.Proofs.Ytnjoaffnfjlcaaa
namespace B
open Go

section
variable {P : Program} {call : CallT}

/-- What is asked of the region's text and of a plan. -/
def planStatic (l : List Oper) (plan : List Nat) : Bool := (planOf l == plan) && edgesOK l && okStatic l (befOf l) plan

theorem drawRun_reads {l : List Oper} {s : St} {T : List Tr} {He : AHeap} {x : AExit} {s' : St} {plan : List Nat} (hp : planStatic l plan = true) (h : runPlan P call l s.dfs plan s.tmps s.H = some (T, He, x, s')) (hr : readsOK P (befOf l) T He) :
    drawRun P call l s = some (x, s') := by
  unfold planStatic at hp
  rw [Bool.and_eq_true, Bool.and_eq_true] at hp
  obtain ⟨⟨h1, h2⟩, h3⟩ := hp
  have h1' : planOf l = plan := by simpa using h1
  unfold drawRun
  rw [h1', h]
  dsimp only
  rw [if_pos ⟨h2, h3, .inr hr⟩]

theorem runPlan_val {ops : List Oper} {dfs : List ADef} {j : Nat} {rest : List Nat} {tm tm2 : List Value} {H H' : AHeap} {o : Oper} {v : Value} {T : List Tr} {r : AHeap × AExit × St} (ho : ops[j]? = some o) (hg : o.guard = none)
    (hv : opA P H (aev tm) o.op o.type = some (.val v H')) (ht : putT o.dst v tm = tm2) (h : runPlan P call ops dfs rest tm2 H' = some (T, r)) : runPlan P call ops dfs (j :: rest) tm H = some (⟨j, o, tm, H, v, H', true⟩ :: T, r) := by
  subst ht
  unfold runPlan
  rw [ho]
  dsimp only
  have hw : wantedA ops tm o = true := by unfold wantedA; rw [hg]
  rw [if_pos hw, evalAny_op, hv]
  dsimp only
  rw [h]
  rfl

theorem runPlan_call {ops : List Oper} {dfs : List ADef} {j : Nat} {rest : List Nat} {tm tm2 : List Value} {H H1 H' : AHeap} {o : Oper} {v : Value} {f : FuncId} {args : List Value} {T : List Tr} {r : AHeap × AExit × St} (ho : ops[j]? = some o) (hg : o.guard = none)
    (hv : opA P H (aev tm) o.op o.type = some (.enter f args H1)) (hc : call f args H1 = some (.ret v, H')) (ht : putT o.dst v tm = tm2) (h : runPlan P call ops dfs rest tm2 H' = some (T, r)) : runPlan P call ops dfs (j :: rest) tm H = some (⟨j, o, tm, H, v, H', true⟩ :: T, r) := by
  subst ht
  unfold runPlan
  rw [ho]
  dsimp only
  have hw : wantedA ops tm o = true := by unfold wantedA; rw [hg]
  rw [if_pos hw, evalAny_op, hv]
  dsimp only
  rw [hc]
  dsimp only
  rw [h]
  rfl

theorem runPlan_nil {ops : List Oper} {dfs : List ADef} {tm : List Value} {H : AHeap} : runPlan P call ops dfs [] tm H = some ([], H, .normal, ⟨tm, dfs, H⟩) := rfl

/-! ### What was read stays -/
theorem reads_nil {B : List Nat} {He : AHeap} : readsOK P B [] He := trivial
theorem reads_cons {B : List Nat} {He : AHeap} {t : Tr} {ts : List Tr} (h1 : t.w = true → isEff t.o = false → stableFrom P B t ts He) (h2 : readsOK P B ts He) : readsOK P B (t :: ts) He := ⟨h1, h2⟩

theorem reads_pure {B : List Nat} {He : AHeap} {t : Tr} {ts : List Tr} (hk : okind t.o.op = .pure) (h2 : readsOK P B ts He) : readsOK P B (t :: ts) He := ⟨fun _ _ => stable_pure hk ts He, h2⟩
theorem reads_eff {B : List Nat} {He : AHeap} {t : Tr} {ts : List Tr} (hk : isEff t.o = true) (h2 : readsOK P B ts He) : readsOK P B (t :: ts) He := ⟨fun _ h => (by rw [hk] at h; cases h), h2⟩
theorem reads_ok {B : List Nat} {He : AHeap} {t : Tr} {ts : List Tr} (h1 : stableFrom P B t ts He) (h2 : readsOK P B ts He) : readsOK P B (t :: ts) He := ⟨fun _ _ => h1, h2⟩
theorem stable_nil {B : List Nat} {He : AHeap} {t : Tr} (h : same P t He) : stableFrom P B t [] He := h
theorem stable_skip {B : List Nat} {He : AHeap} {t u : Tr} {us : List Tr} (h : isEff u.o = false) (h2 : stableFrom P B t us He) : stableFrom P B t (u :: us) He := by
  unfold stableFrom
  rw [h]
  exact h2
theorem stable_eff {B : List Nat} {He : AHeap} {t u : Tr} {us : List Tr} (h : isEff u.o = true) (h1 : same P t u.H) (h2 : bit B u.j t.j = true ∨ stableFrom P B t us He) : stableFrom P B t (u :: us) He := by
  unfold stableFrom
  rw [h]
  exact ⟨h1, h2⟩
theorem same_read {t : Tr} {H : AHeap} (hk : okind t.o.op = .read) (h : opA P H (aev t.tm) t.o.op t.o.type = some (.val t.v H)) : same P t H := by
  unfold same
  rw [hk]
  dsimp only
  rw [evalAny_op]; exact h
theorem same_alloc {t : Tr} {H : AHeap} (hk : okind t.o.op = .alloc) (h : H.get t.H.next = t.H'.get t.H.next) : same P t H := by
  unfold same
  rw [hk]
  exact h

/-! ### Forward: the plan's run, with what was read and must stay -/
def PlanR (P : Program) (call : CallT) (l : List Oper) (dfs : List ADef) (B : List Nat) (R : List Tr) (plan : List Nat) (tm : List Value) (H : AHeap) (x : AExit) (s' : St) : Prop :=
  ∃ T He, runPlan P call l dfs plan tm H = some (T, He, x, s') ∧ readsOK P B T He ∧ ∀ t ∈ R, stableFrom P B t T He

variable {l : List Oper} {dfs : List ADef} {B : List Nat} {R R' : List Tr} {j : Nat} {rest : List Nat} {tm : List Value} {H H' : AHeap} {x : AExit} {s' : St} {dst : Option Nat} {op : Op} {ty : TypeId} {ps : String} {af : Array Edge} {v : Value}

theorem planR_nil (h : ∀ t ∈ R, same P t H) : PlanR P call l dfs B R [] tm H .normal ⟨tm, dfs, H⟩ := ⟨[], H, rfl, trivial, fun t ht => h t ht⟩

theorem okind_eff_pure {o : Oper} (h : okind o.op = .pure) : isEff o = false := by unfold isEff; rw [h]; rfl

theorem planR_pure (ho : l[j]? = some ⟨dst, op, ty, ps, af, none⟩) (hk : okind op = .pure) (hv : opA P H (aev tm) op ty = some (.val v H)) (h : PlanR P call l dfs B R rest (putT dst v tm) H x s') : PlanR P call l dfs B R (j :: rest) tm H x s' := by
  obtain ⟨T, He, h1, h2, h3⟩ := h
  exact ⟨_, He, runPlan_val ho rfl hv rfl h1, reads_pure hk h2, fun t ht => stable_skip (okind_eff_pure hk) (h3 t ht)⟩

/-- What is read or made. -/
theorem planR_keep (ho : l[j]? = some ⟨dst, op, ty, ps, af, none⟩) (hk : okind op = .read ∨ okind op = .alloc) (hv : opA P H (aev tm) op ty = some (.val v H')) (h : PlanR P call l dfs B (⟨j, ⟨dst, op, ty, ps, af, none⟩, tm, H, v, H', true⟩ :: R) rest (putT dst v tm) H' x s') : PlanR P call l dfs B R (j :: rest) tm H x s' := by
  obtain ⟨T, He, h1, h2, h3⟩ := h
  have he : isEff ⟨dst, op, ty, ps, af, none⟩ = false := by unfold isEff; rcases hk with hk | hk <;> (rw [hk]; rfl)
  exact ⟨_, He, runPlan_val ho rfl hv rfl h1, reads_ok (h3 _ (List.mem_cons_self ..)) h2, fun t ht => stable_skip he (h3 t (List.mem_cons_of_mem _ ht))⟩

theorem planR_call (ho : l[j]? = some ⟨dst, op, ty, ps, af, none⟩) (hk : okind op = .effect) {f : FuncId} {args : List Value} {H1 : AHeap} (hv : opA P H (aev tm) op ty = some (.enter f args H1)) (hc : call f args H1 = some (.ret v, H'))
    (hR : ∀ t ∈ R, same P t H ∧ (bit B j t.j = true ∨ t ∈ R')) (h : PlanR P call l dfs B R' rest (putT dst v tm) H' x s') : PlanR P call l dfs B R (j :: rest) tm H x s' := by
  obtain ⟨T, He, h1, h2, h3⟩ := h
  have he : isEff ⟨dst, op, ty, ps, af, none⟩ = true := by unfold isEff; rw [hk]; rfl
  exact ⟨_, He, runPlan_call ho rfl hv hc rfl h1, reads_eff he h2, fun t ht => stable_eff he (hR t ht).1 ((hR t ht).2.imp id (h3 t))⟩

theorem planR_eff (ho : l[j]? = some ⟨dst, op, ty, ps, af, none⟩) (hk : okind op = .effect) (hv : opA P H (aev tm) op ty = some (.val v H'))
    (hR : ∀ t ∈ R, same P t H ∧ (bit B j t.j = true ∨ t ∈ R')) (h : PlanR P call l dfs B R' rest (putT dst v tm) H' x s') : PlanR P call l dfs B R (j :: rest) tm H x s' := by
  obtain ⟨T, He, h1, h2, h3⟩ := h
  have he : isEff ⟨dst, op, ty, ps, af, none⟩ = true := by unfold isEff; rw [hk]; rfl
  exact ⟨_, He, runPlan_val ho rfl hv rfl h1, reads_eff he h2, fun t ht => stable_eff he (hR t ht).1 ((hR t ht).2.imp id (h3 t))⟩

theorem drawRun_R {s : St} {plan : List Nat} (hp : planStatic l plan = true) (h : PlanR P call l s.dfs (befOf l) [] plan s.tmps s.H x s') : drawRun P call l s = some (x, s') := by
  obtain ⟨T, He, h1, h2, _⟩ := h
  exact drawRun_reads hp h1 h2

/-- A drawn region met in a goal. -/
theorem draw_use {F : Option (AExit × St) → Prop} {l : List Oper} {s s' : St} {plan : List Nat} {x : AExit} (hp : planStatic l plan = true) (h : PlanR P call l s.dfs (befOf l) [] plan s.tmps s.H x s') (hF : F (some (x, s'))) : F (drawRun P call l s) := by
  rw [drawRun_R hp h]; exact hF

end

end B
end Go.Proofs.Ytnjoaffnfjlcaaa

namespace Go.Proofs.Ytnjoaffnfjlcaaa
namespace B
open Go
open Go.ChangeMaps (setBlock)

theorem put_size {a : Act} {d : Nat} {v : Value} : (a.put (some d) v).tmps.size = a.tmps.size := by simp [Act.put]
theorem put_same {a : Act} {d : Nat} {v : Value} (h : d < a.tmps.size) : (a.put (some d) v).eval (.tmp d) = v := by
  simp [Act.put, Act.eval, Array.getD_eq_getD_getElem?, Array.getElem?_setIfInBounds, h]
theorem put_ne {a : Act} {d k : Nat} {v : Value} (h : d ≠ k) : (a.put (some d) v).eval (.tmp k) = a.eval (.tmp k) := by
  simp [Act.put, Act.eval, Array.getD_eq_getD_getElem?, Array.getElem?_setIfInBounds_ne h]
theorem put_dfs {a : Act} {d : Option Nat} {v : Value} : (a.put d v).defers = a.defers := put_defers a d v
theorem put_rel {β : Emb} {tm : List Value} {a : Act} (h : VRels β tm a.tmps.toList) (d : Nat) {v v' : Value} (hv : VRel β v v') : VRels β (tm.set d v) (a.put (some d) v').tmps.toList := putT_rel h (some d) hv

section
variable {P : Program} {w : World} {ρ : Operand → Value} {d : Option Nat} {ty : TypeId} {ps : String} {af : Array Edge} {g : Option (Nat × Bool)}
theorem run_mv {x : Operand} : (execOp ρ ⟨d, .move x, ty, ps, af, g⟩).run P w = .ok (.value (ρ x)) w := by
  show (pure (Next.value (ρ x)) : Sem Next).run P w = _
  simp
theorem run_as {x : Operand} : (execOp ρ ⟨d, .assign x, ty, ps, af, g⟩).run P w = .ok (.value (ρ x)) w := by
  show (pure (Next.value (ρ x)) : Sem Next).run P w = _
  simp
theorem run_ex {x : Operand} {ix : Nat} {vs : Array Value} {v : Value} (h : ρ x = .tuple vs) (hv : vs[ix]? = some v) : (execOp ρ ⟨d, .extract x ix, ty, ps, af, g⟩).run P w = .ok (.value v) w := by
  show (do pure (Next.value (← Instr.extract (ρ x) ix)) : Sem Next).run P w = _
  rw [h]
  simp [Instr.extract, hv]
theorem run_val {s : Sem Value} {v : Value} {w' : World} (h : s.run P w = .ok v w') : (do pure (Next.value (← s)) : Sem Next).run P w = .ok (.value v) w' := by
  simp only [Sem.run_bind, h, Result.andThen_ok, Sem.run_pure]
theorem run_unit {s : Sem Unit} {w' : World} (h : s.run P w = .ok () w') : (do s; pure Next.skip : Sem Next).run P w = .ok .skip w' := by
  simp only [Sem.run_bind, h, Result.andThen_ok, Sem.run_pure]
end

/-- The same slots, but for some. -/
structure Agree (ds : List Nat) (tm tm' : List Value) : Prop where
  len : tm'.length = tm.length
  at' : ∀ k, ds.contains k = false → tm'.getD k undef = tm.getD k undef

theorem Agree.refl {ds : List Nat} {tm : List Value} : Agree ds tm tm := ⟨rfl, fun _ _ => rfl⟩
theorem Agree.set {ds : List Nat} {tm tm' : List Value} (h : Agree ds tm tm') {d : Nat} {v : Value} (hd : ds.contains d = true) : Agree ds tm (tm'.set d v) := by
  refine ⟨by rw [List.length_set]; exact h.len, fun k hk => ?_⟩
  rw [rd_ne (by rintro rfl; rw [hd] at hk; cases hk)]
  exact h.at' k hk

/-- Entries of both, side by side. -/
theorem ERels.zip {β : Emb} {es : List (Value × Value)} {ces : List MapEntry} (h : ERels β es ces) : ∃ Z : List ((Value × Value) × MapEntry), Z.map (·.1) = es ∧ Z.map (·.2) = ces ∧ ∀ z ∈ Z, closedV z.1.1 = true ∧ z.2.key = z.1.1 ∧ VRel β z.1.2 z.2.val := by
  induction h with
  | nil => exact ⟨[], rfl, rfl, by simp⟩
  | @cons k v e l l' hk he hv _ ih =>
    obtain ⟨Z, h1, h2, h3⟩ := ih
    refine ⟨((k, v), e) :: Z, by simp [h1], by simp [h2], ?_⟩
    intro z hz
    rcases List.mem_cons.1 hz with rfl | hz
    · exact ⟨hk, he, hv⟩
    · exact h3 z hz

section
variable {P : Program} {t kt et : TypeId} {i9 i10 i11 i12 : Nat} {y0 y1 y2 y3 y4 y5 y6 y7 y8 y9 y10 y11 y12 : TypeId} {p0 p1 p2 p3 p4 p5 p6 p7 p8 p9 p10 p11 p12 : String} {f0 f1 f2 f3 f4 f5 f6 f7 f8 f9 f10 f11 f12 : Array Edge}

theorem DRels.keepD {w w' : World} {N0 : Fz} {β : Emb} {l1 : List ADef} {l2 : List Deferred} (h : DRels P N0 β w l1 l2) (hk : ∀ b : Nat, w.heap[b]? = some (Obj.deferred (some [])) → w'.heap[b]? = some (Obj.deferred (some []))) : DRels P N0 β w' l1 l2 := by
  induction h with
  | nil => exact .nil
  | cons h _ ih => exact .cons h ih
  | mark h1 h2 h3 h4 _ ih => exact .mark h1 h2 (hk _ h3) h4 ih

/-- A round. -/
def copyRound (t : TypeId) (i10 i11 i12 : Nat) (y2 y3 y4 y5 y6 y7 y8 y9 y10 y11 y12 : TypeId) (p2 p3 p4 p5 p6 p7 p8 p9 p10 p11 p12 : String) (f2 f3 f4 f5 f6 f7 f8 f9 f10 f11 f12 : Array Edge) : Code :=
  .seq (.region i10 #[⟨some 45, .next (.tmp 44) false, y2, p2, f2, none⟩, ⟨some 46, .extract (.tmp 45) 0, y3, p3, f3, none⟩] false)
    (.seq (.cond (.tmp 46) .skip (.exit 2)) (.block 3 (.seq
      (.region i11 #[⟨some 47, .entry (.tmp 44), y4, p4, f4, none⟩, ⟨some 48, .extract (.tmp 47) 0, y5, p5, f5, none⟩, ⟨some 49, .extract (.tmp 47) 1, y6, p6, f6, none⟩, ⟨some 7, .assign (.tmp 48), y7, p7, f7, none⟩, ⟨some 8, .assign (.tmp 49), y8, p8, f8, none⟩] false)
      (.region i12 #[⟨some 50, .move (.tmp 6), y9, p9, f9, none⟩, ⟨some 51, .move (.tmp 7), y10, p10, f10, none⟩, ⟨some 52, .move (.tmp 8), y11, p11, f11, none⟩, ⟨none, .mapUpdate t (.tmp 50) (.tmp 51) (.tmp 52), y12, p12, f12, none⟩] false))))

def copyD : List Nat := [43, 44, 45, 46, 47, 48, 49, 50, 51, 52, 7, 8]

structure CopyI (P : Program) (N0 : Fz) (β : Emb) (w0 : World) (H : AHeap) (tm : List Value) (m x r bm bx : Nat) (ces : Array MapEntry) (clock : Nat) (vz : List ((Value × Value) × MapEntry)) (tmA : List Value) (aA : Act) (wA : World) (γ : Emb) (seen : Array Nat) (c0 : Nat) : Prop where
  le : Emb.le β γ
  tmps : VRels γ tmA aA.tmps.toList
  ag : Agree copyD tm tmA
  it : aA.eval (.tmp 44) = .pointer (some ⟨r, 0, none⟩)
  dfs : DRels P ⟨fun b => N0.low b ∨ b = r, N0.b⟩ γ wA [] aA.defers
  heap : HRel P ⟨fun b => N0.low b ∨ b = r, N0.b⟩ γ (H.set x (.map (vz.map (·.1)))) wA
  fr : Fr N0 w0 wA
  hr : wA.heap[r]? = some (.mapIter (some bm) clock seen c0)
  hb : wA.heap[bm]? = some (.map ces clock)
  hs : seen.toList = vz.map (·.2.born)
  hc : clock ≤ c0

set_option maxHeartbeats 4000000 in
theorem copy_rounds {N0 : Fz} {β : Emb} {w0 : World} {H : AHeap} {tm : List Value} {m x r bm bx : Nat} {ces : Array MapEntry} {clock n : Nat} {es : List (Value × Value)} {Z : List ((Value × Value) × MapEntry)} {Qf : Exit → Act → World → Prop}
    (hu : P.underlying t = some (.map kt et)) (hk : P.underlying kt = some .string) (hl : 53 ≤ tm.length) (h6 : tm.getD 6 undef = .map (some x)) (hbm : β.map m = some bm) (hbx : β.map x = some bx) (hmx : m ≠ x) (hxx : (H.get x).isSome = true) (hlow : ∀ b, N0.low b → b ≠ r) (hbr : bm ≠ r) (hbxr : bx ≠ r) (hbb : bm ≠ bx)
    (hZ1 : (Z.map (·.1)).Perm es) (hZ2 : Z.map (·.2) = ces.toList) (hZ3 : ∀ z ∈ Z, closedV z.1.1 = true ∧ z.2.key = z.1.1 ∧ VRel β z.1.2 z.2.val) (hs : strKeys es = true) (hn : (es.map (·.1)).Nodup) (hnd : (ces.toList.map (·.born)).Nodup) (hlt : ∀ e ∈ ces.toList, e.born < clock)
    (hQ : ∀ (γ : Emb) (tmA : List Value) (aA : Act) (wA : World), Emb.le β γ → Agree copyD tm tmA → SRel P ⟨fun b => N0.low b ∨ b = r, N0.b⟩ γ ⟨tmA, [], H.set x (.map es)⟩ aA wA → Fr N0 w0 wA → Qf .normal aA wA) :
    ∀ (k : Nat) (vz rest : List ((Value × Value) × MapEntry)) (tmA : List Value) (aA : Act) (wA : World) (γ : Emb) (seen : Array Nat) (c0 : Nat), rest.length = k → (vz ++ rest).Perm Z → CopyI P N0 β w0 H tm m x r bm bx ces clock vz tmA aA wA γ seen c0 →
      Code.roundsIn (WF none) n P (copyRound t i10 i11 i12 y2 y3 y4 y5 y6 y7 y8 y9 y10 y11 y12 p2 p3 p4 p5 p6 p7 p8 p9 p10 p11 p12 f2 f3 f4 f5 f6 f7 f8 f9 f10 f11 f12) (Exit.inBlock 2 Qf) (k + 1) aA wA := by
  intro k
  induction k using Nat.strongRecOn with
  | _ k ih =>
  intro vz rest tmA aA wA γ seen c0 hk0 hperm hI
  rw [roundsIn_succ]
  have hsz : aA.tmps.size = tm.length := by
    have h1 := VRels.length hI.tmps
    rw [Array.length_toList] at h1
    rw [h1, hI.ag.len]
  have hborn : ((vz ++ rest).map (·.2.born)).Nodup := by
    have h1 : ((vz ++ rest).map (·.2.born)).Perm (Z.map (·.2.born)) := hperm.map _
    refine h1.nodup_iff.2 ?_
    have h2 : Z.map (·.2.born) = ces.toList.map (·.born) := by rw [← hZ2, List.map_map]; rfl
    rw [h2]; exact hnd
  have hkeys : ((vz ++ rest).map (·.1.1)).Nodup := by
    have h1 : ((vz ++ rest).map (·.1.1)).Perm (Z.map (·.1.1)) := hperm.map _
    refine h1.nodup_iff.2 ?_
    have h2 : (Z.map (·.1.1)).Perm (es.map (·.1)) := by
      have := hZ1.map (·.1)
      rwa [List.map_map] at this
    exact h2.nodup_iff.2 hn
  rw [List.map_append, List.nodup_append] at hborn hkeys
  obtain ⟨K, hK⟩ : ∃ K, K = Code.roundsIn (WF none) n P (copyRound t i10 i11 i12 y2 y3 y4 y5 y6 y7 y8 y9 y10 y11 y12 p2 p3 p4 p5 p6 p7 p8 p9 p10 p11 p12 f2 f3 f4 f5 f6 f7 f8 f9 f10 f11 f12) (Exit.inBlock 2 Qf) k := ⟨_, rfl⟩
  rw [← hK]
  unfold copyRound
  refine wpIn_seq (wpIn_region ?_)
  show wpOpsIn (WF none) n P _ _ [0, 1] _ _
  rcases run_next_at (P := P) wA y2 r bm clock c0 seen ces clock hI.hr hI.hb hlt hI.hc with ⟨h0, hrun⟩ | ⟨e, he, w1, hw1, hrun⟩
  · -- nothing is left
    refine ops_val (o := ⟨some 45, .next (.tmp 44) false, y2, p2, f2, none⟩) rfl rfl (fun c h => by cases h) (v := .tuple #[.bool false]) (w' := wA) ?_ ?_
    · show (do pure (Next.value (← Instr.next (aA.eval (.tmp 44)) false y2)) : Sem Next).run P wA = _
      rw [hI.it]; exact run_val hrun
    refine ops_val (o := ⟨some 46, .extract (.tmp 45) 0, y3, p3, f3, none⟩) rfl rfl (fun c h => by cases h) (v := .bool false) (w' := wA) (run_ex (put_same (by omega)) rfl) ?_
    refine wpIn_seq (wpIn_cond_false (put_same (by rw [put_size]; omega)) (wpIn_exit ?_))
    show Exit.inBlock 2 Qf (.exit 2) _ _
    simp only [Exit.inBlock, if_true]
    have hrest : rest = [] := by
      cases rest with
      | nil => rfl
      | cons z rest =>
        exfalso
        have hzZ : z ∈ Z := hperm.mem_iff.1 (by simp)
        have hzc : z.2 ∈ ces.toList := by rw [← hZ2]; exact List.mem_map_of_mem hzZ
        have h2 : (leftOf ces seen) = #[] := Array.eq_empty_of_size_eq_zero h0
        unfold leftOf at h2
        rw [Array.filter_eq_empty_iff] at h2
        have h3 := h2 z.2 (by simpa using hzc)
        have h4 : z.2.born ∈ seen := by simpa using h3
        have h5 : z.2.born ∈ vz.map (·.2.born) := by rw [← hI.hs]; simpa using h4
        exact hborn.2.2 _ h5 _ (by simp) rfl
    subst hrest
    rw [List.append_nil] at hperm
    refine hQ γ ((tmA.set 45 (.tuple #[.bool false])).set 46 (.bool false)) _ wA hI.le ((hI.ag.set rfl).set rfl) ⟨put_rel (put_rel hI.tmps 45 (.closed rfl)) 46 (.closed rfl), by rw [put_dfs, put_dfs]; exact hI.dfs, ?_⟩ hI.fr
    have h6 := hI.heap.reorder (es := es) ((hperm.map _).trans hZ1) hs hn get_set_same
    rw [AHeap.set_set] at h6
    exact h6
  · -- one more
    have he' : e ∈ ces.toList ∧ e.born ∉ seen := by
      unfold leftOf at he
      simp only [Array.toList_filter, List.mem_filter] at he
      exact ⟨he.1, by simpa using he.2⟩
    obtain ⟨hec, hes⟩ := he'
    obtain ⟨z, hzZ, hze⟩ : ∃ z ∈ Z, z.2 = e := by
      rw [← hZ2] at hec
      obtain ⟨z, h1, h2⟩ := List.mem_map.1 hec
      exact ⟨z, h1, h2⟩
    obtain ⟨hz1, hz2, hz3⟩ := hZ3 z hzZ
    have hznv : z ∉ vz := fun h => hes (by
      have : z.2.born ∈ seen.toList := by rw [hI.hs]; exact List.mem_map_of_mem (f := (·.2.born)) h
      rw [hze] at this
      simpa using this)
    have hzr : z ∈ rest := by
      have := hperm.mem_iff.2 hzZ
      rcases List.mem_append.1 this with h | h
      · exact absurd h hznv
      · exact h
    obtain ⟨r1, r2, rfl⟩ := List.append_of_mem hzr
    obtain ⟨k', rfl⟩ : ∃ k', k = k' + 1 := ⟨r1.length + r2.length, by rw [← hk0]; simp; omega⟩
    obtain ⟨s, hks⟩ : ∃ s, z.1.1 = .string s := by
      have h1 : z.1 ∈ es := hZ1.mem_iff.1 (List.mem_map_of_mem hzZ)
      unfold strKeys at hs
      have h2 := (List.all_eq_true.1 hs) _ h1
      revert h2
      cases z.1.1 <;> simp [isStrV]
    have hnew : ∀ p ∈ vz.map (·.1), p.1 ≠ .string s := by
      intro p hp hps
      obtain ⟨z', h1, rfl⟩ := List.mem_map.1 hp
      exact hkeys.2.2 _ (List.mem_map_of_mem (f := fun y : (Value × Value) × MapEntry => y.1.1) h1) z.1.1 (List.mem_map_of_mem (f := fun y : (Value × Value) × MapEntry => y.1.1) (by simp : z ∈ r1 ++ z :: r2)) (hps.trans hks.symm)
    have hvs : strKeys (vz.map (·.1)) = true := by
      unfold strKeys at hs ⊢
      rw [List.all_eq_true] at hs ⊢
      intro p hp
      obtain ⟨z', h1, rfl⟩ := List.mem_map.1 hp
      exact hs _ (hZ1.mem_iff.1 (List.mem_map_of_mem (f := (·.1)) (hperm.mem_iff.1 (List.mem_append_left _ h1))))
    -- the world behind the step
    have hw1h : w1.heap = wA.heap := by rcases hw1 with rfl | rfl <;> rfl
    have hrl : r < wA.heap.size := (Array.getElem?_eq_some_iff.1 hI.hr).1
    have hh1 : HRel P ⟨fun b => N0.low b ∨ b = r, N0.b⟩ γ (H.set x (.map (vz.map (·.1)))) w1 := by
      rcases hw1 with rfl | rfl
      · exact hI.heap
      · exact hI.heap.drewI
    have hh2 := hh1.putIter (by rw [hw1h]; exact hI.hr) (.mapIter (some bm) clock (seen.push e.born) clock)
    have hr2 : (setBlock w1 r (.mapIter (some bm) clock (seen.push e.born) clock)).heap[r]? = some (.mapIter (some bm) clock (seen.push e.born) clock) := by
      rw [heap_setBlock, if_pos rfl, if_pos (by rw [hw1h]; exact hrl)]
    have ho2 : ∀ b, b ≠ r → (setBlock w1 r (.mapIter (some bm) clock (seen.push e.born) clock)).heap[b]? = wA.heap[b]? := fun b hb => by
      rw [heap_setBlock, if_neg hb, hw1h]
    have hfr2 : Fr N0 wA (setBlock w1 r (.mapIter (some bm) clock (seen.push e.born) clock)) := by
      refine ⟨by rw [size_setBlock, hw1h]; exact Nat.le_refl _, fun b hb => ho2 b (hlow b hb), ?_, ?_⟩
      · rcases hw1 with rfl | rfl <;> rfl
      · rcases hw1 with rfl | rfl <;> rfl
    have hd2 : DRels P ⟨fun b => N0.low b ∨ b = r, N0.b⟩ γ (setBlock w1 r (.mapIter (some bm) clock (seen.push e.born) clock)) [] aA.defers := by
      refine hI.dfs.keepD fun b hb => ?_
      rw [ho2 b (by rintro rfl; rw [hI.hr] at hb; cases hb)]; exact hb
    have hb2 : (setBlock w1 r (.mapIter (some bm) clock (seen.push e.born) clock)).heap[bm]? = some (.map ces clock) := by rw [ho2 bm hbr]; exact hI.hb
    generalize setBlock w1 r (.mapIter (some bm) clock (seen.push e.born) clock) = w2 at hrun hh2 hr2 ho2 hfr2 hd2 hb2
    refine ops_val (o := ⟨some 45, .next (.tmp 44) false, y2, p2, f2, none⟩) rfl rfl (fun c h => by cases h) (v := .tuple #[.bool true, e.key, e.val]) (w' := w2) ?_ ?_
    · show (do pure (Next.value (← Instr.next (aA.eval (.tmp 44)) false y2)) : Sem Next).run P wA = _
      rw [hI.it]; exact run_val hrun
    refine ops_val (o := ⟨some 46, .extract (.tmp 45) 0, y3, p3, f3, none⟩) rfl rfl (fun c h => by cases h) (v := .bool true) (w' := w2) (run_ex (put_same (by omega)) rfl) ?_
    refine wpIn_seq (wpIn_cond_true (put_same (by rw [put_size]; omega)) (wpIn_skip ?_))
    refine wpIn_block (wpIn_seq (wpIn_region ?_))
    show wpOpsIn (WF none) n P _ _ [0, 1, 2, 3, 4] _ _
    refine ops_val (o := ⟨some 47, .entry (.tmp 44), y4, p4, f4, none⟩) rfl rfl (fun c h => by cases h) (v := .tuple #[e.key, e.val]) (w' := w2) ?_ ?_
    · show (do pure (Next.value (← Instr.entry (Act.eval _ (.tmp 44)))) : Sem Next).run P w2 = _
      rw [put_ne (by decide), put_ne (by decide), hI.it]
      exact run_val (run_entry_at w2 r bm clock seen ces clock e hr2 hb2 hec hnd)
    refine ops_val (o := ⟨some 48, .extract (.tmp 47) 0, y5, p5, f5, none⟩) rfl rfl (fun c h => by cases h) (v := e.key) (w' := w2) (run_ex (put_same (by simp only [put_size]; omega)) rfl) ?_
    refine ops_val (o := ⟨some 49, .extract (.tmp 47) 1, y6, p6, f6, none⟩) rfl rfl (fun c h => by cases h) (v := e.val) (w' := w2) (run_ex ((put_ne (by decide)).trans (put_same (by simp only [put_size]; omega))) rfl) ?_
    refine ops_val (o := ⟨some 7, .assign (.tmp 48), y7, p7, f7, none⟩) rfl rfl (fun c h => by cases h) (v := e.key) (w' := w2) ?_ ?_
    · rw [run_as, put_ne (by decide), put_same (by simp only [put_size]; omega)]
    refine ops_val (o := ⟨some 8, .assign (.tmp 49), y8, p8, f8, none⟩) rfl rfl (fun c h => by cases h) (v := e.val) (w' := w2) ?_ ?_
    · rw [run_as, put_ne (by decide), put_same (by simp only [put_size]; omega)]
    refine wpIn_region ?_
    show wpOpsIn (WF none) n P _ _ [0, 1, 2, 3] _ _
    have hx6 : aA.eval (.tmp 6) = .map (some bx) := by
      have h1 := aev_rel hI.tmps (x := .tmp 6) rfl
      have h2 : aev tmA (.tmp 6) = .map (some x) := by
        show tmA.getD 6 undef = _
        rw [hI.ag.at' 6 rfl, h6]
      rw [h2] at h1
      obtain ⟨b', h3, h4⟩ := h1.inv_map
      rw [hI.le.map _ _ hbx] at h4
      obtain rfl := (by simpa using h4 : bx = b')
      exact h3
    refine ops_val (o := ⟨some 50, .move (.tmp 6), y9, p9, f9, none⟩) rfl rfl (fun c h => by cases h) (v := .map (some bx)) (w' := w2) ?_ ?_
    · rw [run_mv, put_ne (by decide), put_ne (by decide), put_ne (by decide), put_ne (by decide), put_ne (by decide), put_ne (by decide), put_ne (by decide), hx6]
    refine ops_val (o := ⟨some 51, .move (.tmp 7), y10, p10, f10, none⟩) rfl rfl (fun c h => by cases h) (v := e.key) (w' := w2) ?_ ?_
    · rw [run_mv, put_ne (by decide), put_ne (by decide), put_same (by simp only [put_size]; omega)]
    refine ops_val (o := ⟨some 52, .move (.tmp 8), y11, p11, f11, none⟩) rfl rfl (fun c h => by cases h) (v := e.val) (w' := w2) ?_ ?_
    · rw [run_mv, put_ne (by decide), put_ne (by decide), put_same (by simp only [put_size]; omega)]
    have hkv : e.key = .string s := by rw [← hze, hz2, hks]
    have hvv : VRel γ z.1.2 e.val := by rw [← hze]; exact hz3.mono hI.le
    have hput := mapPut_new (v := z.1.2) (H := H.set x (.map (vz.map (·.1)))) hu hk get_set_same hvs hnew
    obtain ⟨w3, q1, q2, q3, q4⟩ := hh2.mapPut_run2 hput (.map (hI.le.map _ _ hbx)) (k' := .string s) (.closed rfl) hvv
    have hky : VRel γ z.1.1 e.key := by rw [hks, hkv]; exact .closed rfl
    have hmx' : VRel γ (.map (some x)) (.map (some bx)) := .map (hI.le.map _ _ hbx)
    have e50 : Act.eval ((((((((((aA.put (some 45) (.tuple #[.bool true, e.key, e.val])).put (some 46) (.bool true)).put (some 47) (.tuple #[e.key, e.val])).put (some 48) e.key).put (some 49) e.val).put (some 7) e.key).put (some 8) e.val).put (some 50) (.map (some bx))).put (some 51) e.key).put (some 52) e.val) (.tmp 50) = .map (some bx) := by
      rw [put_ne (by decide), put_ne (by decide), put_same (by simp only [put_size]; omega)]
    have e51 : Act.eval ((((((((((aA.put (some 45) (.tuple #[.bool true, e.key, e.val])).put (some 46) (.bool true)).put (some 47) (.tuple #[e.key, e.val])).put (some 48) e.key).put (some 49) e.val).put (some 7) e.key).put (some 8) e.val).put (some 50) (.map (some bx))).put (some 51) e.key).put (some 52) e.val) (.tmp 51) = .string s := by
      rw [put_ne (by decide), put_same (by simp only [put_size]; omega), hkv]
    have e52 : Act.eval ((((((((((aA.put (some 45) (.tuple #[.bool true, e.key, e.val])).put (some 46) (.bool true)).put (some 47) (.tuple #[e.key, e.val])).put (some 48) e.key).put (some 49) e.val).put (some 7) e.key).put (some 8) e.val).put (some 50) (.map (some bx))).put (some 51) e.key).put (some 52) e.val) (.tmp 52) = e.val := by
      rw [put_same (by simp only [put_size]; omega)]
    have e44 : Act.eval ((((((((((aA.put (some 45) (.tuple #[.bool true, e.key, e.val])).put (some 46) (.bool true)).put (some 47) (.tuple #[e.key, e.val])).put (some 48) e.key).put (some 49) e.val).put (some 7) e.key).put (some 8) e.val).put (some 50) (.map (some bx))).put (some 51) e.key).put (some 52) e.val) (.tmp 44) = .pointer (some ⟨r, 0, none⟩) := by
      rw [put_ne (by decide), put_ne (by decide), put_ne (by decide), put_ne (by decide), put_ne (by decide), put_ne (by decide), put_ne (by decide), put_ne (by decide), put_ne (by decide), put_ne (by decide)]
      exact hI.it
    have hT : VRels γ ((((((((((tmA.set 45 (.tuple #[.bool true, z.1.1, z.1.2])).set 46 (.bool true)).set 47 (.tuple #[z.1.1, z.1.2])).set 48 z.1.1).set 49 z.1.2).set 7 z.1.1).set 8 z.1.2).set 50 (.map (some x))).set 51 z.1.1).set 52 z.1.2) (Act.tmps ((((((((((aA.put (some 45) (.tuple #[.bool true, e.key, e.val])).put (some 46) (.bool true)).put (some 47) (.tuple #[e.key, e.val])).put (some 48) e.key).put (some 49) e.val).put (some 7) e.key).put (some 8) e.val).put (some 50) (.map (some bx))).put (some 51) e.key).put (some 52) e.val)).toList :=
      put_rel (put_rel (put_rel (put_rel (put_rel (put_rel (put_rel (put_rel (put_rel (put_rel hI.tmps 45 (.tuple (.cons (.closed rfl) (.cons hky (.cons hvv .nil))))) 46 (.closed rfl)) 47 (.tuple (.cons hky (.cons hvv .nil)))) 48 hky) 49 hvv) 7 hky) 8 hvv) 50 hmx') 51 hky) 52 hvv
    have hAg : Agree copyD tm ((((((((((tmA.set 45 (.tuple #[.bool true, z.1.1, z.1.2])).set 46 (.bool true)).set 47 (.tuple #[z.1.1, z.1.2])).set 48 z.1.1).set 49 z.1.2).set 7 z.1.1).set 8 z.1.2).set 50 (.map (some x))).set 51 z.1.1).set 52 z.1.2) := (((((((((hI.ag.set rfl).set rfl).set rfl).set rfl).set rfl).set rfl).set rfl).set rfl).set rfl).set rfl
    have hdF : Act.defers ((((((((((aA.put (some 45) (.tuple #[.bool true, e.key, e.val])).put (some 46) (.bool true)).put (some 47) (.tuple #[e.key, e.val])).put (some 48) e.key).put (some 49) e.val).put (some 7) e.key).put (some 8) e.val).put (some 50) (.map (some bx))).put (some 51) e.key).put (some 52) e.val) = aA.defers := by simp only [put_dfs]
    generalize ((((((((((aA.put (some 45) (.tuple #[.bool true, e.key, e.val])).put (some 46) (.bool true)).put (some 47) (.tuple #[e.key, e.val])).put (some 48) e.key).put (some 49) e.val).put (some 7) e.key).put (some 8) e.val).put (some 50) (.map (some bx))).put (some 51) e.key).put (some 52) e.val) = aF at hT e44 e50 e51 e52 hdF ⊢
    generalize ((((((((((tmA.set 45 (.tuple #[.bool true, z.1.1, z.1.2])).set 46 (.bool true)).set 47 (.tuple #[z.1.1, z.1.2])).set 48 z.1.1).set 49 z.1.2).set 7 z.1.1).set 8 z.1.2).set 50 (.map (some x))).set 51 z.1.1).set 52 z.1.2) = tmF at hT hAg
    refine ops_skip (o := ⟨none, .mapUpdate t (.tmp 50) (.tmp 51) (.tmp 52), y12, p12, f12, none⟩) rfl rfl (fun c h => by cases h) (w' := w3) ?_ ?_
    · show (do Instr.mapUpdate t (Act.eval _ (.tmp 50)) (Act.eval _ (.tmp 51)) (Act.eval _ (.tmp 52)); pure Next.skip : Sem Next).run P w2 = _
      rw [e50, e51, e52]
      exact run_unit q1
    show K aF w3
    rw [hK]
    refine ih k' (Nat.lt_succ_self _) (vz ++ [z]) (r1 ++ r2) tmF aF w3 γ (seen.push e.born) clock ?_ ?_ ?_
    · simp at hk0 ⊢; omega
    · refine List.Perm.trans ?_ hperm
      rw [List.append_assoc]
      exact (List.perm_middle (a := z) (l₁ := r1) (l₂ := r2)).symm.append_left vz
    · refine ⟨hI.le, ?_, ?_, ?_, ?_, ?_, ?_, ?_, ?_, ?_, Nat.le_refl _⟩
      · exact hT
      · exact hAg
      · exact e44
      · rw [hdF]
        refine hd2.keepD fun b hb => ?_
        rw [q4 x bx rfl (hI.le.map _ _ hbx) b (by
          rintro rfl
          obtain ⟨_, ces', cl', h1, _⟩ := hh2.map _ _ _ (hI.le.map _ _ hbx) get_set_same
          rw [hb] at h1; cases h1)]
        exact hb
      · rw [AHeap.set_set] at q2
        rw [List.map_append, List.map_cons, List.map_nil]
        have : z.1 = (.string s, z.1.2) := by rw [← hks]
        rw [this]
        exact q2
      · exact (hI.fr.trans hfr2).trans (q3.weaken fun b h => .inl h)
      · rw [q3.low r (.inr rfl)]; exact hr2
      · rw [q4 x bx rfl (hI.le.map _ _ hbx) bm hbb]; exact hb2
      · rw [Array.toList_push, hI.hs, List.map_append, ← hze]; rfl

set_option maxHeartbeats 1000000 in
theorem copyMap {H : AHeap} {tm : List Value} {m x : Nat} {es : List (Value × Value)} (hu : P.underlying t = some (.map kt et)) (hk : P.underlying kt = some .string) (hl : 53 ≤ tm.length) (h5 : tm.getD 5 undef = .map (some m)) (h6 : tm.getD 6 undef = .map (some x)) (hmx : m ≠ x)
    (hgm : H.get m = some (.map es)) (hgx : H.get x = some (.map [])) (hs : strKeys es = true) (hn : (es.map (·.1)).Nodup) :
    AWP P (.seq (.region i9 #[⟨some 43, .move (.tmp 5), y0, p0, f0, none⟩, ⟨some 44, .range t (.tmp 43), y1, p1, f1, none⟩] false) (.block 2 (.loop (copyRound t i10 i11 i12 y2 y3 y4 y5 y6 y7 y8 y9 y10 y11 y12 p2 p3 p4 p5 p6 p7 p8 p9 p10 p11 p12 f2 f3 f4 f5 f6 f7 f8 f9 f10 f11 f12))))
      ⟨tm, [], H⟩ fun e s' => e = .normal ∧ s'.dfs = [] ∧ Agree copyD tm s'.tmps ∧ s'.H = H.set x (.map es) := by
  intro n N0 β a w hsr hb
  have hsz : a.tmps.size = tm.length := by
    have h1 := VRels.length hsr.tmps
    rw [Array.length_toList] at h1
    exact h1
  have map_at : ∀ (k i : Nat), tm.getD k undef = .map (some i) → ∃ b, a.eval (.tmp k) = .map (some b) ∧ β.map i = some b := by
    intro k i hki
    have h1 := aev_rel hsr.tmps (x := .tmp k) rfl
    have h2 : aev tm (.tmp k) = .map (some i) := hki
    rw [h2] at h1
    exact h1.inv_map
  obtain ⟨bm, hem, hbm⟩ := map_at 5 m h5
  obtain ⟨bx, hex, hbx⟩ := map_at 6 x h6
  obtain ⟨hlm, ces, clock, hwm, ⟨es0, hE, hperm⟩, hnd, hlt⟩ := hsr.heap.map _ _ _ hbm hgm
  obtain ⟨Z, hZ1, hZ2, hZ3⟩ := hE.zip
  have hbml := hsr.heap.mapblk_lt hbm
  have hbxl := hsr.heap.mapblk_lt hbx
  refine wpIn_seq (wpIn_region ?_)
  show wpOpsIn (WF none) n P _ _ [0, 1] _ _
  refine ops_val (o := ⟨some 43, .move (.tmp 5), y0, p0, f0, none⟩) rfl rfl (fun c h => by cases h) (v := .map (some bm)) (w' := w) (by rw [run_mv, hem]) ?_
  refine ops_val (o := ⟨some 44, .range t (.tmp 43), y1, p1, f1, none⟩) rfl rfl (fun c h => by cases h) (v := .pointer (some ⟨w.heap.size, 0, none⟩)) (w' := w.alloc (.mapIter (some bm) clock #[] clock)) ?_ ?_
  · show (do pure (Next.value (← Instr.range t (Act.eval _ (.tmp 43)))) : Sem Next).run P w = _
    rw [put_same (by omega)]
    exact run_val (run_range_map w t kt et bm ces clock hu hwm)
  have hT : VRels β ((tm.set 43 (.map (some m))).set 44 (.chan (some 0))) (Act.tmps ((a.put (some 43) (.map (some bm))).put (some 44) (.pointer (some ⟨w.heap.size, 0, none⟩)))).toList := put_rel (put_rel hsr.tmps 43 (.map hbm)) 44 .dead
  have hA : Agree copyD tm ((tm.set 43 (.map (some m))).set 44 (.chan (some 0))) := (Agree.refl.set rfl).set rfl
  have e44 : Act.eval ((a.put (some 43) (.map (some bm))).put (some 44) (.pointer (some ⟨w.heap.size, 0, none⟩))) (.tmp 44) = .pointer (some ⟨w.heap.size, 0, none⟩) := put_same (by rw [put_size]; omega)
  have hdF : Act.defers ((a.put (some 43) (.map (some bm))).put (some 44) (.pointer (some ⟨w.heap.size, 0, none⟩))) = a.defers := by simp only [put_dfs]
  generalize ((a.put (some 43) (.map (some bm))).put (some 44) (.pointer (some ⟨w.heap.size, 0, none⟩))) = aF at hT e44 hdF ⊢
  have hlow : ∀ b, N0.low b → b ≠ w.heap.size := fun b hb' => by have := hsr.heap.base b hb'; omega
  have hold : ∀ b, b < w.heap.size → (w.alloc (.mapIter (some bm) clock #[] clock)).heap[b]? = w.heap[b]? := fun b hb' => heap_alloc_old _ _ hb'
  have hnew : (w.alloc (.mapIter (some bm) clock #[] clock)).heap[w.heap.size]? = some (.mapIter (some bm) clock #[] clock) := heap_alloc_new _ _
  have hfr : Fr N0 w (w.alloc (.mapIter (some bm) clock #[] clock)) := ⟨by rw [World.size_alloc]; omega, fun b hb' => hold b (hsr.heap.base b hb'), rfl, rfl⟩
  refine wpIn_block (wpIn_loop_rounds (Z.length + 1) (copy_rounds (β := β) (w0 := w) (H := H) (tm := tm) (m := m) (x := x) (r := w.heap.size) (bm := bm) (bx := bx) (ces := ces) (clock := clock) (es := es) (Z := Z) hu hk hl h6 hbm hbx hmx (by rw [hgx]; rfl) hlow (by omega) (by omega) (fun e => hmx (hsr.heap.injM _ _ _ hbm (e ▸ hbx))) ?_ hZ2 hZ3 hs hn hnd hlt ?_ Z.length [] Z _ aF _ β #[] clock rfl (List.Perm.refl _) ⟨Emb.le.refl _, hT, hA, e44, ?_, ?_, hfr, hnew, by rw [hold bm hbml]; exact hwm, rfl, Nat.le_refl _⟩))
  · rcases hperm with rfl | ⟨h1, _, _⟩
    · rw [hZ1]
    · rw [hZ1]; exact h1
  · intro γ tmA aA wA le ag hs' hf'
    exact ⟨.normal, ⟨tmA, [], H.set x (.map es)⟩, ⟨rfl, rfl, ag, rfl⟩, ⟨fun b => N0.low b ∨ b = w.heap.size, N0.b⟩, γ, rfl, fun b hb' => Or.inl hb', le, hs'.x _, hf', trivial⟩
  · rw [hdF]
    exact DRels.low (N1 := ⟨fun b => N0.low b ∨ b = w.heap.size, N0.b⟩) (fun b hb' => Or.inl hb') rfl (hsr.dfs.mono (Emb.le.refl _) hfr)
  · have h1 := (hsr.heap.allocOther (.mapIter (some bm) clock #[] clock)).freezeI hnew N0.b
    rw [List.map_nil, AHeap.set_self hgx]
    exact h1

end

end B
end Go.Proofs.Ytnjoaffnfjlcaaa

namespace Go.Proofs.Ytnjoaffnfjlcaaa
namespace B
open Go

theorem foldl_put_list (off : Nat) : ∀ (l : List Value) (j : Nat) (cs : Array Value), off + j + l.length ≤ cs.size →
    ((l.zipIdx j).foldl (fun cs (p : Value × Nat) => cs.setIfInBounds (off + p.2) p.1) cs).toList = cs.toList.take (off + j) ++ l ++ cs.toList.drop (off + j + l.length)
  | [], j, cs, _ => by simp
  | x :: l, j, cs, h => by
    simp only [List.length_cons] at h
    rw [List.zipIdx_cons, List.foldl_cons]
    dsimp only
    rw [foldl_put_list off l (j + 1) _ (by rw [Array.size_setIfInBounds]; omega), Array.toList_setIfInBounds]
    have hlt : off + j < cs.toList.length := by rw [Array.length_toList]; omega
    have hs : cs.toList.set (off + j) x = cs.toList.take (off + j) ++ x :: cs.toList.drop (off + j + 1) := List.set_eq_take_append_cons_drop.trans (if_pos hlt)
    have ht : (cs.toList.take (off + j)).length = off + j := by rw [List.length_take]; omega
    rw [hs]
    have e1 : (cs.toList.take (off + j) ++ x :: cs.toList.drop (off + j + 1)).take (off + (j + 1)) = cs.toList.take (off + j) ++ [x] := by
      rw [List.take_append, ht, show off + (j + 1) - (off + j) = 1 by omega, List.take_of_length_le (by omega)]
      simp
    have e2 : (cs.toList.take (off + j) ++ x :: cs.toList.drop (off + j + 1)).drop (off + (j + 1) + l.length) = cs.toList.drop (off + j + (l.length + 1)) := by
      rw [List.drop_append, ht, List.drop_eq_nil_of_le (by omega), List.nil_append, show off + (j + 1) + l.length - (off + j) = l.length + 1 by omega, List.drop_succ_cons, List.drop_drop]
      congr 1; omega
    rw [e1, e2]
    simp

theorem fill_from (sz : Nat) : ∀ (vs : List Value) (k : Nat) (cs : Array Value), cs.size = (k + vs.length) * sz → (∀ v ∈ vs, v.cells.size = sz) →
    ∃ out, Instr.fill (fun j => some (j * sz, sz)) cs ((vs.zipIdx k).map fun p => (p.2, p.1)) = some out ∧ out.toList = cs.toList.take (k * sz) ++ vs.flatMap fun v => v.cells.toList
  | [], k, cs, h, _ => ⟨cs, rfl, by
      simp only [List.flatMap_nil, List.append_nil]
      rw [List.take_of_length_le]
      rw [Array.length_toList, h]; simp⟩
  | v :: vs, k, cs, h, hv => by
    have h1 := hv v (List.mem_cons_self ..)
    have hsz : k * sz + sz ≤ cs.size := by
      rw [h, List.length_cons, Nat.add_mul, Nat.add_mul]; omega
    rw [List.zipIdx_cons, List.map_cons]
    unfold Instr.fill
    dsimp only
    rw [if_neg (by simp [h1]; omega)]
    have hf := foldl_put_list (k * sz) v.cells.toList 0 cs (by rw [Array.length_toList, h1]; omega)
    rw [← Array.toList_zipIdx, Array.foldl_toList] at hf
    simp only [Nat.add_zero] at hf
    generalize (Array.foldl (fun cs p => cs.setIfInBounds (k * sz + p.2) p.1) cs v.cells.zipIdx) = cs1 at hf
    have hlen : cs1.size = cs.size := by
      have := congrArg List.length hf
      simp only [Array.length_toList, List.length_append, List.length_take, List.length_drop] at this
      rw [h1] at this
      omega
    obtain ⟨out, e1, e2⟩ := fill_from sz vs (k + 1) cs1 (by rw [hlen, h, List.length_cons]; congr 1; omega) fun x hx => hv x (List.mem_cons_of_mem _ hx)
    refine ⟨out, e1, ?_⟩
    rw [e2, hf, List.flatMap_cons, ← List.append_assoc]
    congr 1
    refine List.take_left' ?_
    rw [List.length_append, List.length_take, Array.length_toList, Array.length_toList, h1, Nat.add_mul]
    omega

section
variable {P : Program} {H : AHeap} {ρ : Operand → Value} {ty : TypeId}

/-- A slice written out, its elements' values given. -/
def buildL (P : Program) (H : AHeap) (t : TypeId) (n : Nat) (parts : List (Nat × Value)) : Option ARes := match sliceInfo P t with
  | some (i, e) => match i.zero with
    | some z => if n * i.size ≤ 16777216 ∧ n * i.size ≠ 0 ∧ closedA (initCells z n i.size) = true then
        match Instr.fill (fun j => some (j * i.size, i.size)) (initCells z n i.size) parts with
        | some cs => if cs.toList.all flatV ∧ cs.size = n * i.size then some (.val (.slice (some ⟨H.next, 0, some 0⟩) n n) (H.push (.arr cs.toList (List.replicate cs.size 0) 0 e false))) else none
        | none => none
      else none
    | none => none
  | none => none

theorem opA_buildL {t : TypeId} {n : Nat} {ps : List (Nat × Operand)} {r : ARes} (hp : (ps.all fun p => operandOk p.2) = true) (h : buildL P H t n (ps.map fun p => (p.1, ρ p.2)) = some r) : opA P H ρ (.buildSlice t n ps.toArray) ty = some r := by
  rw [ev_of (by simp) (by simp) (by simp) (by simp)]
  unfold evalOp
  have hok : (Op.buildSlice t n ps.toArray).operands.all operandOk = true := by
    simp only [Op.operands]
    rw [List.all_toArray, List.all_map]
    exact hp
  simp only [hok, if_true]
  unfold buildL sliceInfo at h
  cases hu : P.underlying t with
  | none => rw [hu] at h; simp at h
  | some d =>
    rw [hu] at h
    cases d <;> first | (simp at h; done) | skip
    rename_i e
    dsimp only at h ⊢
    cases hi : P.info? e with
    | none => rw [hi] at h; simp at h
    | some i =>
      rw [hi] at h
      dsimp only at h ⊢
      cases hz : i.zero with
      | none => rw [hz] at h; simp at h
      | some z =>
        rw [hz] at h
        dsimp only at h ⊢
        split at h
        case isFalse => simp at h
        rename_i hc
        rw [if_pos ⟨hc.1, hc.2.1, hc.2.2, by simpa using hp⟩]
        have he : (ps.toArray.map fun (p : Nat × Operand) => (p.1, ρ p.2)).toList = ps.map fun p => (p.1, ρ p.2) := by simp
        rw [show (Array.map (fun x => match x with | (i, x) => (i, ρ x)) ps.toArray).toList = ps.map fun p => (p.1, ρ p.2) from he]
        split at h
        case h_2 => simp at h
        rename_i cs hcs
        rw [hcs]
        exact h

theorem opA_buildLe {t : TypeId} {n : Nat} {ps : List (Nat × Operand)} (hp : (ps.all fun p => operandOk p.2) = true) (hn : n ≠ 0) : opA P H ρ (.buildSlice t n ps.toArray) ty = buildL P H t n (ps.map fun p => (p.1, ρ p.2)) := by
  cases hb : buildL P H t n (ps.map fun p => (p.1, ρ p.2)) with
  | some r => exact opA_buildL hp hb
  | none =>
    rw [ev_of (by simp) (by simp) (by simp) (by simp)]
    unfold evalOp
    have hok : (Op.buildSlice t n ps.toArray).operands.all operandOk = true := by
      simp only [Op.operands]
      rw [List.all_toArray, List.all_map]
      exact hp
    simp only [hok, if_true]
    unfold buildL sliceInfo at hb
    cases hu : P.underlying t with
    | none => rfl
    | some d =>
      rw [hu] at hb
      cases d <;> try rfl
      rename_i e
      dsimp only at hb ⊢
      cases hi : P.info? e with
      | none => rfl
      | some i =>
        rw [hi] at hb
        dsimp only at hb ⊢
        cases hz : i.zero with
        | none => rfl
        | some z =>
          rw [hz] at hb
          dsimp only at hb ⊢
          by_cases hc : n * i.size ≤ 16777216 ∧ n * i.size ≠ 0 ∧ closedA (initCells z n i.size) = true
          · rw [if_pos hc] at hb
            rw [if_pos ⟨hc.1, hc.2.1, hc.2.2, by simpa using hp⟩]
            have he : (ps.toArray.map fun (p : Nat × Operand) => (p.1, ρ p.2)).toList = ps.map fun p => (p.1, ρ p.2) := by simp
            rw [show (Array.map (fun x => match x with | (i, x) => (i, ρ x)) ps.toArray).toList = ps.map fun p => (p.1, ρ p.2) from he]
            exact hb
          · rw [if_neg (fun h => hc ⟨h.1, h.2.1, h.2.2.1⟩), if_neg (fun h => hn h.1)]

theorem buildL_all {t e : TypeId} {i : TypeInfo} {z : Value} {vs : List Value} (hi : sliceInfo P t = some (i, e)) (hz : i.zero = some z) (hzc : closedV z = true) (hzs : z.cells.size = i.size) (hs0 : i.size ≠ 0) (hsm : vs.length * i.size ≤ 16777216) (hv0 : vs ≠ [])
    (hv : ∀ v ∈ vs, v.cells.size = i.size) (hf : (vs.flatMap fun v => v.cells.toList).all flatV = true) :
    buildL P H t vs.length (vs.zipIdx.map fun p => (p.2, p.1)) = some (.val (.slice (some ⟨H.next, 0, some 0⟩) vs.length vs.length) (H.push (.arr (vs.flatMap fun v => v.cells.toList) (List.replicate (vs.length * i.size) 0) 0 e false))) := by
  unfold buildL
  rw [hi]
  dsimp only
  rw [hz]
  dsimp only
  have hl : 0 < vs.length := List.length_pos_iff.2 hv0
  rw [if_pos ⟨hsm, Nat.mul_ne_zero (by omega) hs0, closed_init hzc _ _ (by omega)⟩]
  have hic : (initCells z vs.length i.size).size = (0 + vs.length) * i.size := by unfold initCells; simp
  obtain ⟨out, e1, e2⟩ := fill_from i.size vs 0 _ hic hv
  rw [e1]
  dsimp only
  rw [Nat.zero_mul, List.take_zero, List.nil_append] at e2
  have hos : out.size = vs.length * i.size := by
    rw [← Array.length_toList, e2]
    clear e1 e2 hic hf hl hv0 hsm
    induction vs with
    | nil => simp
    | cons v vs ih =>
      rw [List.flatMap_cons, List.length_append, ih fun x hx => hv x (List.mem_cons_of_mem _ hx), Array.length_toList, hv v (List.mem_cons_self ..), List.length_cons, Nat.add_mul]
      omega
  rw [if_pos ⟨by rw [e2]; exact hf, hos⟩, e2, hos]

theorem opA_min {x y : Operand} {t t' : TypeId} {k : IntKind} {a b : Int} (hx : operandOk x = true) (hy : operandOk y = true) (ha : ρ x = .int k a) (hb : ρ y = .int k b) : opA P H ρ (.call ⟨.builtin .min, #[x, y], #[t, t']⟩) ty = some (.val (.int k (if b < a then b else a)) H) := by
  unfold opA evalAny
  have hok : (Op.call ⟨.builtin .min, #[x, y], #[t, t']⟩).operands.all operandOk = true := by
    simp [Op.operands, Call.operands, hx, hy]
  simp only [hok, if_true]
  unfold evalCall
  dsimp only
  have h2 : closedRun P ρ ⟨none, .call ⟨.builtin .min, #[x, y], #[t, t']⟩, ty, "", #[], none⟩ = some (.int k (if b < a then b else a)) := by
    unfold closedRun
    have hop : (Op.call ⟨.builtin .min, #[x, y], #[t, t']⟩).operands = #[x, y] := by simp [Op.operands, Call.operands]
    simp only [hop]
    have hcl : (#[x, y] : Array Operand).all (fun z => closedV (ρ z)) = true := by simp [ha, hb, closedV]
    rw [if_pos hcl]
    have this : pureRun P (Builtin.min_ #[t, t'] ty #[.int k a, .int k b]) = some (.int k (if b < a then b else a)) := rfl
    have he : pureRun P (execOp ρ ⟨none, .call ⟨.builtin .min, #[x, y], #[t, t']⟩, ty, "", #[], none⟩) = some (.value (.int k (if b < a then b else a))) := by
      unfold execOp
      simp only [resolve, invoke, builtin, ha, hb, List.map_toArray, List.map_cons, List.map_nil, pure_bind]
      rw [pureRun_seq this]
      rfl
    rw [he]
    rfl
  rw [h2]

def minS (P : Program) (H : AHeap) (v w : Value) : Option ARes := if closedV v && closedV w then match pureRun P (Builtin.min2 v w) with
  | some r => if closedV r then some (.val r H) else none
  | none => none
  else none
theorem minS_int {k k' : IntKind} {a b : Int} : minS P H (.int k a) (.int k' b) = some (.val (.int k (if b < a then b else a)) H) := rfl
theorem opA_minE {x y : Operand} {t t' : TypeId} (hx : operandOk x = true) (hy : operandOk y = true) : opA P H ρ (.call ⟨.builtin .min, #[x, y], #[t, t']⟩) ty = minS P H (ρ x) (ρ y) := by
  unfold opA evalAny
  have hok : (Op.call ⟨.builtin .min, #[x, y], #[t, t']⟩).operands.all operandOk = true := by
    simp [Op.operands, Call.operands, hx, hy]
  simp only [hok, if_true]
  unfold evalCall
  dsimp only
  unfold closedRun minS
  have hop : (Op.call ⟨.builtin .min, #[x, y], #[t, t']⟩).operands = #[x, y] := by simp [Op.operands, Call.operands]
  simp only [hop]
  have hcl : (#[x, y] : Array Operand).all (fun z => closedV (ρ z)) = (closedV (ρ x) && closedV (ρ y)) := by simp
  rw [hcl]
  by_cases hc : (closedV (ρ x) && closedV (ρ y)) = true
  · rw [if_pos hc, if_pos hc]
    have he : pureRun P (execOp ρ ⟨none, .call ⟨.builtin .min, #[x, y], #[t, t']⟩, ty, "", #[], none⟩) = (pureRun P (Builtin.min2 (ρ x) (ρ y))).map .value := by
      unfold execOp
      simp only [resolve, invoke, builtin, List.map_toArray, List.map_cons, List.map_nil, pure_bind]
      have e : Builtin.min_ #[t, t'] ty #[ρ x, ρ y] = (Builtin.min2 (ρ x) (ρ y) >>= fun v => pure v) := rfl
      rw [e]
      have e2 : ∀ s : Sem Value, pureRun P ((s >>= fun v => pure v) >>= fun v => pure (Next.value v)) = (pureRun P s).map .value := by
        intro s
        cases hs : pureRun P s with
        | some v => rw [pureRun_seq (pureRun_seq (f := fun v => pure v) hs)]; rfl
        | none =>
          cases hr : pureRun P ((s >>= fun v => pure v) >>= fun v => pure (Next.value v)) with
          | none => rfl
          | some r =>
            obtain ⟨a, h1, _⟩ := pureRun_bind hr
            obtain ⟨a', h2, _⟩ := pureRun_bind h1
            rw [hs] at h2; cases h2
      exact e2 _
    rw [he]
    cases pureRun P (Builtin.min2 (ρ x) (ρ y)) with
    | none => rfl
    | some r =>
      simp only [Option.map_some]
      split <;> rename_i h <;> split at h <;> simp_all
  · rw [if_neg hc, if_neg hc]
end

end B
end Go.Proofs.Ytnjoaffnfjlcaaa
