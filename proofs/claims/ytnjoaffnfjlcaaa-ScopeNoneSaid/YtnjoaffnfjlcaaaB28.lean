/-
  The heap's equations, as 'simp' takes them.
-/
import Derived.Test.YtnjoaffnfjlcaaaB27
namespace Go.Proofs.Ytnjoaffnfjlcaaa
namespace B
open Go

section
variable {P : Program} {H : AHeap}

/-! ### Things got -/
theorem get_set_same {i : Nat} {o : AObj} : (H.set i o).get i = some o := by simp [AHeap.set]
theorem get_set_ne {i j : Nat} {o : AObj} (h : j ≠ i) : (H.set i o).get j = H.get j := by simp [AHeap.set, h]
theorem get_push_new {o : AObj} : (H.push o).get H.next = some o := by simp [AHeap.push]
theorem get_push_old {j : Nat} {o : AObj} (h : j ≠ H.next) : (H.push o).get j = H.get j := by simp [AHeap.push, h]
theorem next_set {i : Nat} {o : AObj} : (H.set i o).next = H.next := rfl
theorem next_push {o : AObj} : (H.push o).next = H.next + 1 := rfl
theorem set_set {i : Nat} {o o' : AObj} : (H.set i o).set i o' = H.set i o' := by
  unfold AHeap.set; congr 1; funext j; simp only; split <;> rfl

theorem addA_mk {b o n : Nat} {s : Option Nat} : addA ⟨b, o, s⟩ n = ⟨b, o + n, s⟩ := rfl

/-! ### Cells -/
def cellO : Option AObj → Nat → Nat → Option Value
  | some (.box cs _), o, _ => cs[o]?
  | some (.arr cs st _ _ _), o, g => if st.getD o 0 ≤ g then cs[o]? else none
  | _, _, _ => none

theorem cell_eq {b o : Nat} {s : Option Nat} : H.cell ⟨b, o, s⟩ = cellO (H.get b) o (s.getD 0) := by
  unfold AHeap.cell AHeap.view cellO agen
  cases H.get b with
  | none => rfl
  | some x =>
    cases x with
    | map es => rfl
    | loop r => rfl
    | box cs e =>
      simp only [Option.bind_some, AObj.view]
      cases cs[o]? <;> simp
    | arr cs st g e ro =>
      simp only [Option.bind_some, AObj.view]
      cases hc : cs[o]? with
      | none => simp
      | some v => simp
theorem cellO_box {cs : List Value} {e : TypeId} {o g : Nat} : cellO (some (.box cs e)) o g = cs[o]? := rfl
theorem cellO_arr {cs : List Value} {st : List Nat} {g0 : Nat} {e : TypeId} {ro : Bool} {o g : Nat} : cellO (some (.arr cs st g0 e ro)) o g = if st.getD o 0 ≤ g then cs[o]? else none := rfl

/-- A box's cells read in a row. -/
theorem readN_box {b : Nat} {s : Option Nat} {cs : List Value} {e : TypeId} (h : H.get b = some (.box cs e)) : ∀ (n o : Nat), o + n ≤ cs.length → H.readN ⟨b, o, s⟩ n = some ((cs.drop o).take n)
  | 0, o, _ => by simp [AHeap.readN]
  | n + 1, o, hle => by
    unfold AHeap.readN
    rw [cell_eq, h, cellO_box, List.getElem?_eq_getElem (by omega)]
    dsimp only
    rw [addA_mk, readN_box h n (o + 1) (by omega)]
    dsimp only
    rw [List.drop_eq_getElem_cons (by omega : o < cs.length)]
    rfl

def boxCells : Option AObj → Option (List Value)
  | some (.box cs _) => some cs
  | _ => none

/-- An aggregate loaded out of a box. -/
theorem readN_boxO {b o n : Nat} {s : Option Nat} (hb : ((boxCells (H.get b)).map fun cs => decide (o + n ≤ cs.length)) = some true) : H.readN ⟨b, o, s⟩ n = (boxCells (H.get b)).map fun cs => (cs.drop o).take n := by
  cases hg : H.get b with
  | none => rw [hg] at hb; simp [boxCells] at hb
  | some x =>
    cases x with
    | box cs e =>
      rw [hg] at hb
      simp only [boxCells, Option.map_some, Option.some.injEq, decide_eq_true_eq] at hb ⊢
      exact readN_box hg n o hb
    | arr => rw [hg] at hb; simp [boxCells] at hb
    | map => rw [hg] at hb; simp [boxCells] at hb
    | loop => rw [hg] at hb; simp [boxCells] at hb

theorem loadV_flat {t : TypeId} {a : Addr} (h : aggT P t = some false) : H.loadV P t a = H.cell a := by unfold AHeap.loadV; rw [h]
theorem loadV_agg {t : TypeId} {a : Addr} (h : aggT P t = some true) (h2 : (P.info? t).isSome = true) : H.loadV P t a = (H.readN a (P.cellsOf t)).map fun vs => .agg vs.toArray := by
  unfold AHeap.loadV
  rw [h]
  dsimp only
  unfold Program.cellsOf
  cases hi : P.info? t with
  | none => rw [hi] at h2; simp at h2
  | some i =>
    simp only [Option.map_some, Option.getD_some]
    cases H.readN a i.size <;> rfl

/-! ### Stores -/
def setCellO (H : AHeap) (b o g : Nat) (v : Value) : Option AObj → Option AHeap
  | some (.box cs e) => if g = 0 ∧ o < cs.length then some (H.set b (.box (cs.set o v) e)) else none
  | some (.arr cs st g0 e false) => if g = g0 ∧ o < cs.length ∧ o < st.length then some (H.set b (.arr (cs.set o v) (st.set o g0) g0 e false)) else none
  | _ => none

theorem setCell_eq {b o : Nat} {s : Option Nat} {v : Value} (hf : flatV v = true) : H.setCell ⟨b, o, s⟩ v = setCellO H b o (s.getD 0) v (H.get b) := by
  unfold AHeap.setCell setCellO agen
  rw [if_pos hf]
  split <;> simp_all

theorem setCellO_box {b o g : Nat} {v : Value} {cs : List Value} {e : TypeId} (hg : g = 0) (ho : o < cs.length) : setCellO H b o g v (some (.box cs e)) = some (H.set b (.box (cs.set o v) e)) := by
  unfold setCellO; simp [hg, ho]

theorem storeV_flat {t : TypeId} {a : Addr} {v : Value} (h : P.cellsOf t = 1) (h2 : (P.info? t).isSome = true) (hv : v.cells = #[v]) : H.storeV P t a v = H.setCell a v := by
  unfold AHeap.storeV
  cases hi : P.info? t with
  | none => rw [hi] at h2; simp at h2
  | some i =>
    have : i.size = 1 := by unfold Program.cellsOf at h; rw [hi] at h; simpa using h
    simp only [hv, this]
    simp only [List.size_toArray, List.length_cons, List.length_nil, Nat.zero_add, if_true]
    unfold AHeap.setN
    cases H.setCell a v <;> rfl

def fieldOff (P : Program) (s : TypeId) (f : Nat) : Option Nat := match P.underlying s with
  | some (.struct fields) => match fields[f]? with
    | some fd => match P.info? fd.type with
      | some i => if i.size = 0 then none else some fd.offset
      | none => none
    | none => none
  | _ => none

theorem fieldAddrS_eq {s : TypeId} {f b o : Nat} {sp : Option Nat} : fieldAddrS P H s f (.pointer (some ⟨b, o, sp⟩)) = (fieldOff P s f).map fun off => .val (.pointer (some ⟨b, o + off, sp⟩)) H := by
  unfold fieldAddrS fieldOff
  cases P.underlying s with
  | none => rfl
  | some d =>
    cases d <;> try rfl
    rename_i fields
    dsimp only
    cases fields[f]? with
    | none => rfl
    | some fd =>
      dsimp only
      cases P.info? fd.type with
      | none => rfl
      | some i =>
        dsimp only
        split <;> rfl

/-! ### Making -/
variable {ρ : Operand → Value} {ty : TypeId}

theorem opA_box {t : TypeId} {x : Operand} (hx : operandOk x = true) (hi : (P.info? t).isSome = true) (hf : (ρ x).cells.toList.all flatV = true) :
    opA P H ρ (.box t x) ty = some (.val (.pointer (some ⟨H.next, 0, none⟩)) (H.push (.box (ρ x).cells.toList t))) := by
  rw [ev_of (by simp) (by simp) (by simp) (by simp)]; unfold evalOp
  simp only [Op.operands]
  cases h : P.info? t with
  | none => rw [h] at hi; simp at hi
  | some i => simp [hx, h, hf]

def zeroOf (P : Program) (t : TypeId) : Option Value := match P.info? t with
  | some i => match i.zero with
    | some z => if closedV z && z.cells.toList.all flatV then some z else none
    | none => none
  | none => none

theorem opA_alloc {t : TypeId} : opA P H ρ (.alloc t) ty = (zeroOf P t).map fun z => .val (.pointer (some ⟨H.next, 0, none⟩)) (H.push (.box z.cells.toList t)) := by
  rw [ev_of (by simp) (by simp) (by simp) (by simp)]; unfold evalOp zeroOf
  simp only [Op.operands]
  simp
  cases P.info? t with
  | none => rfl
  | some i =>
    dsimp only
    cases i.zero with
    | none => rfl
    | some z => dsimp only; split <;> rfl

theorem opA_makeMap {t : TypeId} : opA P H ρ (.makeMap t none) ty = some (.val (.map (some H.next)) (H.push (.map []))) := by
  rw [ev_of (by simp) (by simp) (by simp) (by simp)]; unfold evalOp; simp [Op.operands]

theorem opA_makeFunc {f : FuncId} {u v : Array Operand} (hu : u.all operandOk = true) (hv : v.all operandOk = true) : opA P H ρ (.makeFunc (.func f) u v) ty = some (.val (.func (.func f) (u.map ρ) (v.map ρ)) H) := by
  rw [ev_of (by simp) (by simp) (by simp) (by simp)]; unfold evalOp
  have : (Op.makeFunc (.func f) u v).operands.all operandOk = true := by
    simp only [Op.operands, Array.all_append, hu, hv, Bool.and_self]
  simp only [this, if_true]

def unS (P : Program) (H : AHeap) (op : UnOp) (v : Value) : Option ARes :=
  if closedV v then match pureRun P (Op.unary op v) with
    | some r => if closedV r then some (.val r H) else none
    | none => none
  else none
theorem opA_un {op : UnOp} {t : TypeId} {x : Operand} (hx : operandOk x = true) : opA P H ρ (.unOp op t x) ty = unS P H op (ρ x) := by
  rw [ev_of (by simp) (by simp) (by simp) (by simp)]; unfold evalOp unS closedRun
  have : execOp ρ ⟨none, .unOp op t x, ty, "", #[], none⟩ = (do pure (Next.value (← Op.unary op (ρ x))) : Sem Next) := rfl
  rw [this, pureRun_map]
  simp only [Op.operands]
  simp [hx]
  by_cases hc : closedV (ρ x) = true
  · simp only [hc, if_true]
    cases pureRun P (Op.unary op (ρ x)) with
    | none => rfl
    | some r =>
      simp only [Option.map_some]
      cases closedV r <;> rfl
  · simp [hc]
theorem un_not {b : Bool} : unS P H .not (.bool b) = some (.val (.bool !b) H) := by
  unfold unS
  have : Op.unary .not (.bool b) = pure (.bool !b) := rfl
  rw [this, pureRun_pure]
  simp [closedV]

/-! ### Calls -/
def enterB (P : Program) (f : FuncId) : Bool := match P.funcs[f]? with
  | some fn => Func.enters fn
  | none => false

def callS (P : Program) (H : AHeap) (args : List Value) : Value → Option ARes
  | .func (.func g) first captured => if enterB P g then some (.enter g (first.toList ++ args ++ captured.toList) H) else none
  | .func (.yield K) first captured => if first.isEmpty && captured.isEmpty then match H.get K with
      | some (.loop r) => if args.length = r.params.size then some (.enter (P.funcs.size + K) args H) else none
      | _ => none
    else none
  | _ => none

theorem opA_call {f : Operand} {args : List Operand} {tys : Array TypeId} (hf : operandOk f = true) (ha : args.all operandOk = true) :
    opA P H ρ (.call ⟨.value f, args.toArray, tys⟩) ty = callS P H (args.map ρ) (ρ f) := by
  unfold opA evalAny
  have hok : (Op.call ⟨.value f, args.toArray, tys⟩).operands.all operandOk = true := by
    simp only [Op.operands, Call.operands, Array.all_append]
    simp [hf, ha]
  simp only [hok, if_true]
  unfold evalCall callS enterB
  dsimp only
  cases ρ f <;> try rfl
  rename_i fn first cap
  cases fn <;> try rfl
  · rename_i g
    dsimp only
    cases P.funcs[g]? with
    | none => rfl
    | some fn => rfl
  · rename_i K
    dsimp only
    by_cases hc : (first.isEmpty && cap.isEmpty) = true
    · rw [if_pos hc, if_pos hc]
      cases H.get K with
      | none => rfl
      | some o => cases o <;> simp
    · rw [if_neg hc, if_neg hc]

theorem callS_func {args : List Value} {g : FuncId} {first cap : List Value} (h : enterB P g = true) : callS P H args (.func (.func g) first.toArray cap.toArray) = some (.enter g (first ++ args ++ cap) H) := by
  unfold callS; simp only [h, if_true]
theorem callS_yield {args : List Value} {K : Nat} {r : ALoop} (h : H.get K = some (.loop r)) (hs : args.length = r.params.size) : callS P H args (.func (.yield K) #[] #[]) = some (.enter (P.funcs.size + K) args H) := by
  unfold callS; simp [h, hs]
theorem callS_plain {args : List Value} {g : FuncId} (h : enterB P g = true) : callS P H args (.func (.func g) #[] #[]) = some (.enter g args H) := by
  unfold callS; simp [h]

def lenS (P : Program) (H : AHeap) (t : TypeId) (v : Value) : Option ARes := (lenOp P H t v).map fun n => .val (.int .i64 n) H

theorem opA_len {x : Operand} {t : TypeId} (hx : operandOk x = true) (hv : (lenS P H t (ρ x)).isSome = true) : opA P H ρ (.call ⟨.builtin .len, #[x], #[t]⟩) ty = lenS P H t (ρ x) := by
  unfold opA evalAny
  have hok : (Op.call ⟨.builtin .len, #[x], #[t]⟩).operands.all operandOk = true := by
    simp [Op.operands, Call.operands, hx]
  simp only [hok, if_true]
  unfold evalCall
  dsimp only
  unfold lenS at hv ⊢
  cases h : lenOp P H t (ρ x) with
  | none => rw [h] at hv; simp at hv
  | some n => rfl

theorem lenS_slice {t : TypeId} {a : Option Addr} {n c : Nat} (h : isSlice P t = true) : lenS P H t (.slice a n c) = some (.val (.int .i64 n) H) := by
  unfold lenS lenOp; cases a <;> simp [h]

theorem opA_lenStr {x : Operand} {t : TypeId} {s : ByteArray} (hx : operandOk x = true) (hs : ρ x = .string s) (hu : P.underlying t = some .string) : opA P H ρ (.call ⟨.builtin .len, #[x], #[t]⟩) ty = some (.val (.int .i64 s.size) H) := by
  unfold opA evalAny
  have hok : (Op.call ⟨.builtin .len, #[x], #[t]⟩).operands.all operandOk = true := by
    simp [Op.operands, Call.operands, hx]
  simp only [hok, if_true]
  unfold evalCall
  dsimp only
  have h1 : lenOp P H t (ρ x) = none := by rw [hs]; rfl
  have h2 : closedRun P ρ ⟨none, .call ⟨.builtin .len, #[x], #[t]⟩, ty, "", #[], none⟩ = some (.int .i64 s.size) := by
    unfold closedRun
    have hop : (Op.call ⟨.builtin .len, #[x], #[t]⟩).operands = #[x] := by simp [Op.operands, Call.operands]
    simp only [hop]
    have hcl : (#[x] : Array Operand).all (fun y => closedV (ρ y)) = true := by simp [hs, closedV]
    rw [if_pos hcl]
    have : pureRun P (Builtin.len_ #[t] ty #[.string s]) = some (.int .i64 s.size) := by
      unfold Builtin.len_
      show pureRun P (underlying t >>= _) = _
      rw [pureRun_seq (pureRun_underlying hu)]
      rfl
    have he : pureRun P (execOp ρ ⟨none, .call ⟨.builtin .len, #[x], #[t]⟩, ty, "", #[], none⟩) = some (.value (.int .i64 s.size)) := by
      unfold execOp
      simp only [resolve, invoke, builtin, hs, List.map_toArray, List.map_cons, List.map_nil, pure_bind]
      rw [pureRun_seq this]
      rfl
    rw [he]
    rfl
  rw [h1, h2]

/-! ### Facts of the tables -/
theorem info_of {P : Program} {t n : Nat} {i : TypeInfo} (hs : P.types.size = n) (hlt : t < n) (h : P.types[t]? = some i) : P.info? t = some i := by
  have h2 : t < P.types.size := by rw [hs]; exact hlt
  unfold Tables.info?
  rw [if_pos h2]
  exact h
theorem isSome_of {P : Program} {t : TypeId} {i : TypeInfo} (h : P.info? t = some i) : (P.info? t).isSome = true := by rw [h]; rfl
theorem cells_of {P : Program} {t n : Nat} {i : TypeInfo} (h : P.info? t = some i) (hn : i.size = n) : P.cellsOf t = n := by unfold Program.cellsOf; rw [h]; exact hn
theorem agg_of {P : Program} {t : TypeId} {d : TypeDesc} {b : Bool} (h : P.underlying t = some d) (hb : (match d with | .struct _ => true | .array _ _ => true | _ => false) = b) : aggT P t = some b := by
  unfold aggT; rw [h]; subst hb; cases d <;> rfl
theorem isSlice_of {P : Program} {t e : TypeId} (h : P.underlying t = some (.slice e)) : isSlice P t = true := by unfold isSlice; rw [h]
theorem isMap_of {P : Program} {t k e : TypeId} (h : P.underlying t = some (.map k e)) : isMap P t = true := by unfold isMap; rw [h]
theorem fieldOff_of {P : Program} {s f n : Nat} {fields : Array Field} {fd : Field} {i : TypeInfo} (hu : P.underlying s = some (.struct fields)) (hf : fields[f]? = some fd) (hi : P.info? fd.type = some i) (hz : i.size ≠ 0) (hn : fd.offset = n) : fieldOff P s f = some n := by
  unfold fieldOff; rw [hu]; dsimp only; rw [hf]; dsimp only; rw [hi]; dsimp only; rw [if_neg hz, hn]
theorem enterB_of {P : Program} {f : FuncId} {fn : Func} (hf : P.funcs[f]? = some fn) (he : Func.enters fn = true) : enterB P f = true := by unfold enterB; rw [hf]; exact he
theorem und_of {P : Program} {t : TypeId} {d : TypeDesc} (h : P.underlying t = some d) : P.underlying t = some d := by rw [h]

end
end B
end Go.Proofs.Ytnjoaffnfjlcaaa
