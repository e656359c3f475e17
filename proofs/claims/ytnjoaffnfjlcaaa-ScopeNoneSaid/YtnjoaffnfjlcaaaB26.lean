/-
  Entering and leaving.
-/
import Derived.Test.YtnjoaffnfjlcaaaB25
namespace Go.Proofs.Ytnjoaffnfjlcaaa
namespace B
open Go

def leaveR (P : Program) (rs : List ResultVar) : Option (AExit × St) → Option (AEnd × AHeap)
  | some (.normal, ⟨tmps, [], H⟩) => match resultsA P H tmps rs with
    | some vs => some (.ret (packA vs), H)
    | none => none
  | some (.ret, ⟨tmps, [], H⟩) => match resultsA P H tmps rs with
    | some vs => some (.ret (packA vs), H)
    | none => none
  | some (.panic v, ⟨_, [], H⟩) => some (.panic v, H)
  | _ => none

section
variable {P : Program} {ext : CallT}

theorem leaveA_R (fn : Func) (x : Option (AExit × St)) : leaveA P fn x = leaveR P fn.results.toList x := rfl

theorem theCall_run {f : FuncId} {fn : Func} {c : Code} {rs : List ResultVar} {n : Nat} {args : List Value} {H : AHeap} {r : Option (AEnd × AHeap)} (hx : ext f args H = none) (hf : P.funcs[f]? = some fn) (hb : fn.body = some c)
    (hr : fn.results.toList = rs) (hn : fn.ntmps = n) (hl : args.length ≤ n) (h : ∀ tm : List Value, tm.length = n → (∀ i, tm.getD i undef = args.getD i undef) → leaveR P rs (theCode P ext false c ⟨tm, [], H⟩) = r) :
    theCall P ext f args H = r := by
  rw [theCall_body hx hf hb, leaveA_R, hr]
  unfold enterA
  rw [hn]
  refine h _ (by simp; omega) fun i => ?_
  rw [List.getD_eq_getElem?_getD, List.getD_eq_getElem?_getD]
  rcases Nat.lt_or_ge i args.length with hi | hi
  · rw [List.getElem?_append_left hi]
  · rw [List.getElem?_append_right hi, List.getElem?_eq_none hi, List.getElem?_replicate]
    split <;> rfl

theorem leaveR_ret {rs : List ResultVar} {tm : List Value} {H : AHeap} : leaveR P rs (some (.ret, ⟨tm, [], H⟩)) = (resultsA P H tm rs).map fun vs => (.ret (packA vs), H) := by
  unfold leaveR; dsimp only; cases h : resultsA P H tm rs <;> rfl
theorem leaveR_normal {rs : List ResultVar} {tm : List Value} {H : AHeap} : leaveR P rs (some (.normal, ⟨tm, [], H⟩)) = (resultsA P H tm rs).map fun vs => (.ret (packA vs), H) := by
  unfold leaveR; dsimp only; cases h : resultsA P H tm rs <;> rfl
theorem leaveR_panic {rs : List ResultVar} {tm : List Value} {H : AHeap} {v : Value} : leaveR P rs (some (.panic v, ⟨tm, [], H⟩)) = some (.panic v, H) := rfl
theorem leaveR_ite {rs : List ResultVar} {c : Prop} [Decidable c] {x y : Option (AExit × St)} : leaveR P rs (if c then x else y) = if c then leaveR P rs x else leaveR P rs y := by split <;> rfl

theorem resA_nil {H : AHeap} {tm : List Value} : resultsA P H tm [] = some [] := rfl
theorem resA_tmp {H : AHeap} {tm : List Value} {t : Nat} {rs : List ResultVar} : resultsA P H tm (.tmp t :: rs) = (resultsA P H tm rs).map fun vs => tm.getD t undef :: vs := by
  conv => lhs; unfold resultsA
  simp only [resultA]
  cases resultsA P H tm rs <;> rfl
theorem pack_one {v : Value} : packA [v] = v := rfl
theorem pack_none : packA [] = .tuple #[] := rfl
theorem pack_two {v w : Value} {l : List Value} : packA (v :: w :: l) = .tuple (v :: w :: l).toArray := rfl


/-! ### Where 'simp' looks -/
@[congr] theorem thenA_congr {x x' : Option (AExit × St)} {k : St → Option (AExit × St)} (h : x = x') : thenA x k = thenA x' k := by rw [h]
@[congr] theorem contA_congr {call : CallT} {dst : Option Nat} {k : St → Option (AExit × St)} {s : St} {x x' : Option ARes} (h : x = x') : contA call dst k s x = contA call dst k s x' := by rw [h]
@[congr] theorem callA_congr {dst : Option Nat} {k : St → Option (AExit × St)} {tm : List Value} {dfs : List ADef} {x x' : Option (AEnd × AHeap)} (h : x = x') : callA dst k tm dfs x = callA dst k tm dfs x' := by rw [h]
@[congr] theorem evalList_congr {call : CallT} {rnd : Bool} {all l : List Oper} {s s' : St} (h : s = s') : evalList P call rnd all l s = evalList P call rnd all l s' := by rw [h]
@[congr] theorem theCode_congr {rnd : Bool} {c : Code} {s s' : St} (h : s = s') : theCode P ext rnd c s = theCode P ext rnd c s' := by rw [h]
@[congr] theorem drawRun_congr {call : CallT} {ops : List Oper} {s s' : St} (h : s = s') : drawRun P call ops s = drawRun P call ops s' := by rw [h]

theorem yieldA_succ {o : Oper} {l : List Oper} {tm : List Value} {j : Nat} : yieldA (o :: l) tm (j + 1) = yieldA l tm j := by
  unfold yieldA; rfl
theorem yieldA_zero {d : Nat} {op : Op} {ty : TypeId} {pos : String} {af : Array Edge} {g : Option (Nat × Bool)} {l : List Oper} {tm : List Value} (h : d < tm.length) : yieldA (⟨some d, op, ty, pos, af, g⟩ :: l) tm 0 = boolOf (tm.getD d undef) := by
  unfold yieldA
  simp [List.getElem?_eq_getElem h]


def slotAt (all : List Oper) (j : Nat) : Option Nat := match all[j]? with
  | some o => o.dst
  | none => none
def yieldS (tm : List Value) : Option Nat → Option Bool
  | some d => match tm[d]? with
    | some v => boolOf v
    | none => none
  | none => none
theorem yieldA_S {all : List Oper} {tm : List Value} {j : Nat} : yieldA all tm j = yieldS tm (slotAt all j) := by
  unfold yieldA slotAt yieldS
  cases all[j]? with
  | none => rfl
  | some o =>
    dsimp only
    cases o.dst with
    | none => rfl
    | some d => rfl
theorem slotAt_succ {o : Oper} {l : List Oper} {j : Nat} : slotAt (o :: l) (j + 1) = slotAt l j := rfl
theorem slotAt_zero {d : Option Nat} {op : Op} {ty : TypeId} {pos : String} {af : Array Edge} {g : Option (Nat × Bool)} {l : List Oper} : slotAt (⟨d, op, ty, pos, af, g⟩ :: l) 0 = d := rfl
theorem yieldS_some {tm : List Value} {d : Nat} (h : d < tm.length) : yieldS tm (some d) = boolOf (tm.getD d undef) := by
  unfold yieldS
  simp [List.getElem?_eq_getElem h]

/-! ### Side conditions (not by 'rfl': 'simp' cannot hand those on) -/
theorem nd_move {x : Operand} : isDefer (.move x) = false := by simp [isDefer]
theorem nd_assign {x : Operand} : isDefer (.assign x) = false := by simp [isDefer]
theorem nd_pick {c a b : Operand} : isDefer (.pick c a b) = false := by simp [isDefer]
theorem nd_alloc {t : TypeId} : isDefer (.alloc t) = false := by simp [isDefer]
theorem nd_box {t : TypeId} {x : Operand} : isDefer (.box t x) = false := by simp [isDefer]
theorem nd_build {t : TypeId} {ps : Array (Nat × Operand)} : isDefer (.build t ps) = false := by simp [isDefer]
theorem nd_buildSlice {t : TypeId} {n : Nat} {ps : Array (Nat × Operand)} : isDefer (.buildSlice t n ps) = false := by simp [isDefer]
theorem nd_load {t : TypeId} {x : Operand} : isDefer (.load t x) = false := by simp [isDefer]
theorem nd_store {t : TypeId} {x y : Operand} : isDefer (.store t x y) = false := by simp [isDefer]
theorem nd_nilCheck {x : Operand} : isDefer (.nilCheck x) = false := by simp [isDefer]
theorem nd_binOp {o : BinOp} {t u : TypeId} {x y : Operand} : isDefer (.binOp o t x y u) = false := by simp [isDefer]
theorem nd_unOp {o : UnOp} {t : TypeId} {x : Operand} : isDefer (.unOp o t x) = false := by simp [isDefer]
theorem nd_convert {t u : TypeId} {x : Operand} : isDefer (.convert t u x) = false := by simp [isDefer]
theorem nd_makeInterface {t : TypeId} {x : Operand} : isDefer (.makeInterface t x) = false := by simp [isDefer]
theorem nd_makeFunc {f : Fn} {u v : Array Operand} : isDefer (.makeFunc f u v) = false := by simp [isDefer]
theorem nd_makeMap {t : TypeId} {r : Option Operand} : isDefer (.makeMap t r) = false := by simp [isDefer]
theorem nd_slice {t : TypeId} {x : Operand} {l h m : Option Operand} : isDefer (.slice t x l h m) = false := by simp [isDefer]
theorem nd_fieldAddr {t : TypeId} {x : Operand} {f : Nat} : isDefer (.fieldAddr t x f) = false := by simp [isDefer]
theorem nd_field {t : TypeId} {x : Operand} {f : Nat} : isDefer (.field t x f) = false := by simp [isDefer]
theorem nd_indexAddr {t : TypeId} {x i : Operand} : isDefer (.indexAddr t x i) = false := by simp [isDefer]
theorem nd_index {t : TypeId} {x i : Operand} : isDefer (.index t x i) = false := by simp [isDefer]
theorem nd_lookup {t : TypeId} {x i : Operand} {ok : Bool} : isDefer (.lookup t x i ok) = false := by simp [isDefer]
theorem nd_mapUpdate {t : TypeId} {m k v : Operand} : isDefer (.mapUpdate t m k v) = false := by simp [isDefer]
theorem nd_typeAssert {x : Operand} {t u : TypeId} {ok : Bool} : isDefer (.typeAssert x t u ok) = false := by simp [isDefer]
theorem nd_extract {x : Operand} {i : Nat} : isDefer (.extract x i) = false := by simp [isDefer]
theorem nd_call {c : Call} : isDefer (.call c) = false := by simp [isDefer]
theorem nd_panic {x : Operand} : isDefer (.panic x) = false := by simp [isDefer]
theorem ok_tmp {i : Nat} : operandOk (.tmp i) = true := by simp [operandOk]
theorem ok_func {f : FuncId} : operandOk (.func f) = true := by simp [operandOk]
theorem ok_const {v : Value} : operandOk (.const v) = closedV v := by simp [operandOk]
theorem cl_bool {b : Bool} : closedV (.bool b) = true := by simp [closedV]
theorem cl_int {k : IntKind} {n : Int} : closedV (.int k n) = true := by simp [closedV]
theorem cl_string {b : ByteArray} : closedV (.string b) = true := by simp [closedV]
theorem cl_ptr : closedV (.pointer none) = true := by simp [closedV]
theorem cl_map : closedV (.map none) = true := by simp [closedV]
theorem cl_nilFunc : closedV .nilFunc = true := by simp [closedV]
theorem cl_nilIface : closedV .nilIface = true := by simp [closedV]
theorem cl_slice : closedV (.slice none 0 0) = true := by simp [closedV]
theorem cl_iface {t : TypeId} {v : Value} : closedV (.iface t v) = closedV v := by simp [closedV]
theorem cl_agg {l : List Value} : closedV (.agg l.toArray) = closedL l := by simp [closedV, closedA]
theorem cl_tuple {l : List Value} : closedV (.tuple l.toArray) = closedL l := by simp [closedV, closedA]
theorem cl_nil : closedL [] = true := by simp [closedL]
theorem cl_cons {v : Value} {l : List Value} : closedL (v :: l) = (closedV v && closedL l) := by simp [closedL]
theorem cl_ptr_some {a : Addr} : closedV (.pointer (some a)) = false := by simp [closedV]
theorem cl_map_some {a : Nat} : closedV (.map (some a)) = false := by simp [closedV]
theorem cl_slice_some {a : Addr} {n c : Nat} : closedV (.slice (some a) n c) = false := by simp [closedV]

end
end B
end Go.Proofs.Ytnjoaffnfjlcaaa
