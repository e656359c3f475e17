/-
  The abstract machine's equations, operation by operation: what 'simp' goes by.
-/
import Derived.Test.YtnjoaffnfjlcaaaB23
namespace Go.Proofs.Ytnjoaffnfjlcaaa
namespace B
open Go

section
variable {P : Program} {call : CallT}

/-- An operation's answer: neither its slot nor its place nor its edges matter. -/
noncomputable def opA (P : Program) (H : AHeap) (ρ : Operand → Value) (op : Op) (ty : TypeId) : Option ARes := evalAny P H ρ ⟨none, op, ty, "", #[], none⟩

theorem evalAny_op (H : AHeap) (ρ : Operand → Value) (o : Oper) : evalAny P H ρ o = opA P H ρ o.op o.type := by
  unfold opA
  have hx : ∀ ρ', execOp ρ' o = execOp ρ' ⟨none, o.op, o.type, "", #[], none⟩ := fun ρ' => by unfold execOp; rfl
  have hc : closedRun P ρ o = closedRun P ρ ⟨none, o.op, o.type, "", #[], none⟩ := by unfold closedRun; rw [hx]
  have hop : evalOp P H ρ o = evalOp P H ρ ⟨none, o.op, o.type, "", #[], none⟩ := by
    unfold evalOp; rw [hc]
  have hcall : ∀ c, evalCall P H ρ o c = evalCall P H ρ ⟨none, o.op, o.type, "", #[], none⟩ c := by
    intro c; unfold evalCall; rw [hc]
  unfold evalAny
  simp only [hop, hcall]

def isDefer : Op → Bool
  | .defer _ => true
  | _ => false

/-- What is done with an operation's answer. -/
def contA (call : CallT) (dst : Option Nat) (k : St → Option (AExit × St)) (s : St) : Option ARes → Option (AExit × St)
  | some (.val v H) => k ⟨putT dst v s.tmps, s.dfs, H⟩
  | some (.skip H) => k ⟨putT dst undef s.tmps, s.dfs, H⟩
  | some (.enter f args H) => match call f args H with
    | some (.ret v, H') => k ⟨putT dst v s.tmps, s.dfs, H'⟩
    | some (.panic v, H') => some (.panic v, ⟨s.tmps, s.dfs, H'⟩)
    | none => none
  | some (.panic v H) => some (.panic v, ⟨s.tmps, s.dfs, H⟩)
  | _ => none

/-- What is done with a call's answer. -/
def callA (dst : Option Nat) (k : St → Option (AExit × St)) (tmps : List Value) (dfs : List ADef) : Option (AEnd × AHeap) → Option (AExit × St)
  | some (.ret v, H') => k ⟨putT dst v tmps, dfs, H'⟩
  | some (.panic v, H') => some (.panic v, ⟨tmps, dfs, H'⟩)
  | none => none

/-- A region in the text's order, operation for operation. -/
noncomputable def evalList (P : Program) (call : CallT) (rnd : Bool) (all : List Oper) : List Oper → St → Option (AExit × St)
  | [], s => some (.normal, s)
  | o :: rest, s =>
    if wantedA all s.tmps o then
      if isDefer o.op then match o.op with
        | .defer c => if rnd = false ∧ o.op.operands.all operandOk = true then match deferOf P (aev s.tmps) c with
            | some d => evalList P call rnd all rest ⟨putT o.dst undef s.tmps, d :: s.dfs, s.H⟩
            | none => none
          else none
        | _ => none
      else contA call o.dst (evalList P call rnd all rest) s (opA P s.H (aev s.tmps) o.op o.type)
    else evalList P call rnd all rest ⟨putT o.dst undef s.tmps, s.dfs, s.H⟩

theorem evalIdx_from {rnd : Bool} {ops : List Oper} : ∀ (n k : Nat) (s : St), k + n = ops.length → evalIdx P call rnd ops (List.range' k n) s = evalList P call rnd ops (ops.drop k) s
  | 0, k, s, h => by
    rw [List.drop_eq_nil_of_le (by omega)]
    rfl
  | n + 1, k, s, h => by
    have hk : k < ops.length := by omega
    rw [List.range'_succ, List.drop_eq_getElem_cons hk]
    have ih := fun s => evalIdx_from (rnd := rnd) (ops := ops) n (k + 1) s (by omega)
    unfold evalIdx evalList
    rw [List.getElem?_eq_getElem hk]
    dsimp only
    split
    · cases hd : isDefer ops[k].op with
      | true =>
        simp only [if_true]
        cases hop : ops[k].op <;> rw [hop] at hd <;> simp [isDefer] at hd
        rename_i c
        simp only []
        split
        · cases hdd : deferOf P (aev s.tmps) c with
          | none => rfl
          | some d => exact ih _
        · rfl
      | false =>
        simp only [Bool.false_eq_true, if_false]
        have hnd : ∀ c, ops[k].op ≠ .defer c := by intro c hc; rw [hc] at hd; simp [isDefer] at hd
        rw [← evalAny_op]
        split
        · rename_i c hc; exact absurd hc (hnd c)
        · cases hev : evalAny P s.H (aev s.tmps) ops[k] with
          | none => rfl
          | some r =>
            cases r <;> simp only [contA] <;> first | exact ih _ | rfl | skip
            rename_i f args H
            cases call f args H with
            | none => rfl
            | some q =>
              obtain ⟨e, H'⟩ := q
              cases e
              · exact ih _
              · rfl
    · exact ih _

theorem theCode_list {ext : CallT} {rnd : Bool} {id : Nat} {l : List Oper} {s : St} : theCode P ext rnd (.region id l.toArray false) s = evalList P (theCall P ext) rnd l l s := by
  rw [theCode_region]
  have := evalIdx_from (P := P) (call := theCall P ext) (rnd := rnd) (ops := l) l.length 0 s (by omega)
  rw [List.drop_zero] at this
  rw [← this, List.range_eq_range']
  simp

theorem evalList_nil {rnd : Bool} {all : List Oper} {s : St} : evalList P call rnd all [] s = some (.normal, s) := rfl

/-- Without a guard. -/
theorem evalList_plain {rnd : Bool} {all rest : List Oper} {dst : Option Tmp} {op : Op} {ty : TypeId} {pos : String} {af : Array Edge} {s : St} (hd : isDefer op = false) :
    evalList P call rnd all (⟨dst, op, ty, pos, af, none⟩ :: rest) s = contA call dst (evalList P call rnd all rest) s (opA P s.H (aev s.tmps) op ty) := by
  conv => lhs; unfold evalList
  simp [wantedA, hd]

theorem evalList_guard {rnd : Bool} {all rest : List Oper} {dst : Option Tmp} {op : Op} {ty : TypeId} {pos : String} {af : Array Edge} {j : Nat} {want : Bool} {s : St} (hd : isDefer op = false) :
    evalList P call rnd all (⟨dst, op, ty, pos, af, some (j, want)⟩ :: rest) s =
      if yieldA all s.tmps j = some want then contA call dst (evalList P call rnd all rest) s (opA P s.H (aev s.tmps) op ty) else evalList P call rnd all rest ⟨putT dst undef s.tmps, s.dfs, s.H⟩ := by
  conv => lhs; unfold evalList
  simp [wantedA, hd]

theorem contA_val {dst : Option Nat} {k : St → Option (AExit × St)} {s : St} {v : Value} {H : AHeap} : contA call dst k s (some (.val v H)) = k ⟨putT dst v s.tmps, s.dfs, H⟩ := rfl
theorem contA_skip {dst : Option Nat} {k : St → Option (AExit × St)} {s : St} {H : AHeap} : contA call dst k s (some (.skip H)) = k ⟨putT dst undef s.tmps, s.dfs, H⟩ := rfl
theorem contA_panic {dst : Option Nat} {k : St → Option (AExit × St)} {s : St} {v : Value} {H : AHeap} : contA call dst k s (some (.panic v H)) = some (.panic v, ⟨s.tmps, s.dfs, H⟩) := rfl
theorem contA_enter {dst : Option Nat} {k : St → Option (AExit × St)} {s : St} {f : FuncId} {args : List Value} {H : AHeap} : contA call dst k s (some (.enter f args H)) = callA dst k s.tmps s.dfs (call f args H) := by
  unfold contA callA; rfl
theorem contA_ite {dst : Option Nat} {k : St → Option (AExit × St)} {s : St} {c : Prop} [Decidable c] {x y : Option ARes} : contA call dst k s (if c then x else y) = if c then contA call dst k s x else contA call dst k s y := by split <;> rfl
theorem callA_ret {dst : Option Nat} {k : St → Option (AExit × St)} {tm : List Value} {dfs : List ADef} {v : Value} {H : AHeap} : callA dst k tm dfs (some (.ret v, H)) = k ⟨putT dst v tm, dfs, H⟩ := rfl
theorem callA_panic {dst : Option Nat} {k : St → Option (AExit × St)} {tm : List Value} {dfs : List ADef} {v : Value} {H : AHeap} : callA dst k tm dfs (some (.panic v, H)) = some (.panic v, ⟨tm, dfs, H⟩) := rfl
theorem callA_ite {dst : Option Nat} {k : St → Option (AExit × St)} {tm : List Value} {dfs : List ADef} {c : Prop} [Decidable c] {x y : Option (AEnd × AHeap)} : callA dst k tm dfs (if c then x else y) = if c then callA dst k tm dfs x else callA dst k tm dfs y := by split <;> rfl

/-! ### Slots -/
theorem putT_some {d : Nat} {v : Value} {tm : List Value} : putT (some d) v tm = tm.set d v := rfl
theorem putT_none {v : Value} {tm : List Value} : putT none v tm = tm := rfl
theorem aev_tmp {tm : List Value} {i : Nat} : aev tm (.tmp i) = tm.getD i undef := rfl
theorem aev_const {tm : List Value} {v : Value} : aev tm (.const v) = v := rfl
theorem aev_func {tm : List Value} {f : FuncId} : aev tm (.func f) = .func (.func f) #[] #[] := rfl
theorem rd_same {tm : List Value} {d : Nat} {v : Value} (h : d < tm.length) : (tm.set d v).getD d undef = v := by
  rw [List.getD_eq_getElem?_getD, List.getElem?_set_self h]; rfl
theorem rd_ne {tm : List Value} {d i : Nat} {v : Value} (h : d ≠ i) : (tm.set d v).getD i undef = tm.getD i undef := by
  rw [List.getD_eq_getElem?_getD, List.getElem?_set_ne h, ← List.getD_eq_getElem?_getD]

/-! ### Control -/
theorem thenA_normal {s : St} {k : St → Option (AExit × St)} : thenA (some (.normal, s)) k = k s := rfl
theorem thenA_ret {s : St} {k : St → Option (AExit × St)} : thenA (some (.ret, s)) k = some (.ret, s) := rfl
theorem thenA_exit {i : Nat} {s : St} {k : St → Option (AExit × St)} : thenA (some (.exit i, s)) k = some (.exit i, s) := rfl
theorem thenA_panic {v : Value} {s : St} {k : St → Option (AExit × St)} : thenA (some (.panic v, s)) k = some (.panic v, s) := rfl
theorem thenA_ite {c : Prop} [Decidable c] {x y : Option (AExit × St)} {k : St → Option (AExit × St)} : thenA (if c then x else y) k = if c then thenA x k else thenA y k := by split <;> rfl
theorem inBlockA_normal {i : Nat} {s : St} : inBlockA i (some (.normal, s)) = some (.normal, s) := rfl
theorem inBlockA_ret {i : Nat} {s : St} : inBlockA i (some (.ret, s)) = some (.ret, s) := rfl
theorem inBlockA_panic {i : Nat} {v : Value} {s : St} : inBlockA i (some (.panic v, s)) = some (.panic v, s) := rfl
theorem inBlockA_exit {i j : Nat} {s : St} : inBlockA i (some (.exit j, s)) = if j = i then some (.normal, s) else some (.exit j, s) := rfl
theorem inBlockA_ite {i : Nat} {c : Prop} [Decidable c] {x y : Option (AExit × St)} : inBlockA i (if c then x else y) = if c then inBlockA i x else inBlockA i y := by split <;> rfl
theorem leaveA_ite {fn : Func} {c : Prop} [Decidable c] {x y : Option (AExit × St)} : leaveA P fn (if c then x else y) = if c then leaveA P fn x else leaveA P fn y := by split <;> rfl

theorem theCode_if {ext : CallT} {rnd : Bool} {c : Operand} {a b : Code} {s : St} (hok : operandOk c = true) (hc : (boolOf (aev s.tmps c)).isSome = true) :
    theCode P ext rnd (.cond c a b) s = if boolOf (aev s.tmps c) = some true then theCode P ext rnd a s else theCode P ext rnd b s := by
  cases hb : boolOf (aev s.tmps c) with
  | none => rw [hb] at hc; simp at hc
  | some t =>
    have hv : aev s.tmps c = .bool t := by
      cases h : aev s.tmps c <;> rw [h] at hb <;> simp_all [boolOf]
    rw [theCode_cond hok hv]
    cases t <;> simp

theorem boolOf_bool {b : Bool} : boolOf (.bool b) = some b := rfl

end
end B
end Go.Proofs.Ytnjoaffnfjlcaaa
