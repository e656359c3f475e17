/-
  The abstract machine's answer to one operation (no call of a function of the program within), and that each world's run is related.
-/
import Derived.Test.YtnjoaffnfjlcaaaB5
namespace Go.Proofs.Ytnjoaffnfjlcaaa
namespace B
open Go

def closedRun (P : Program) (ρ : Operand → Value) (o : Oper) : Option Value :=
  if o.op.operands.all (fun x => closedV (ρ x)) then
    match pureRun P (execOp ρ o) with
    | some (.value v) => if closedV v then some v else none
    | _ => none
  else none

/-- A comparison with nil. -/
def nilEq : TypeDesc → Value → Value → Option Bool
  | .pointer _, .pointer none, .pointer b => some b.isNone
  | .pointer _, .pointer (some _), .pointer none => some false
  | .slice _, .slice none _ _, .slice b _ _ => some b.isNone
  | .slice _, .slice (some _) _ _, .slice none _ _ => some false
  | .map _ _, .map none, .map b => some b.isNone
  | .map _ _, .map (some _), .map none => some false
  | .func _ _ _, .nilFunc, .func _ _ _ => some false
  | .func _ _ _, .func _ _ _, .nilFunc => some false
  | .interface _, .nilIface, .iface _ _ => some false
  | .interface _, .iface _ _, .nilIface => some false
  | _, _, _ => none

def boundOf (d : Nat) : Option Value → Option Nat
  | none => some d
  | some (.int _ n) => if 0 ≤ n then some n.toNat else none
  | _ => none

/-- 's[lo:hi]' of a slice. -/
def AHeap.elemOk (H : AHeap) (i : Nat) (e : TypeId) : Bool := match H.view i with
  | some r => r.ro || r.e == e
  | none => false

def sliceOf (H : AHeap) (ee : TypeId) (sz : Nat) (s : Value) (lo hi : Option Value) : Option Value :=
  match s with
  | .slice a len cap => match boundOf 0 lo, boundOf len hi with
    | some l, some h => if l ≤ h ∧ h ≤ cap then
        match a with
        | some a => if l = 0 ∨ H.elemOk a.block ee = true then some (.slice (some (addA a (l * sz))) (h - l) (cap - l)) else none
        | none => if len = 0 ∧ cap = 0 then some (.slice none 0 0) else none
      else none
    | _, _ => none
  | _ => none

/-- A part of a struct's value. -/
def partOf (P : Program) (t : TypeId) (cs : List Value) (off : Nat) : Option Value :=
  match aggT P t with
  | some true => match P.info? t with
    | some i => if off + i.size ≤ cs.length then some (.agg ((cs.drop off).take i.size).toArray) else none
    | none => none
  | some false => cs[off]?
  | none => none

def initCells (z : Value) (len size : Nat) : Array Value := (Array.range (len * size)).map (z.cells[· % z.cells.size]!)

/-- Operations that touch neither code nor a map. -/
def evalOp (P : Program) (H : AHeap) (ρ : Operand → Value) (o : Oper) : Option ARes :=
  if o.op.operands.all operandOk then
  match o.op with
  | .move x => some (.val (ρ x) H)
  | .assign x => some (.val (ρ x) H)
  | .pick c a b => match ρ c with
    | .bool true => some (.val (ρ a) H)
    | .bool false => some (.val (ρ b) H)
    | _ => none
  | .alloc t => match P.info? t with
    | some i => match i.zero with
      | some z => if closedV z && z.cells.toList.all flatV then some (.val (.pointer (some ⟨H.next, 0, none⟩)) (H.push (.box z.cells.toList t))) else none
      | none => none
    | none => none
  | .box t x => match P.info? t with
    | some _ => if (ρ x).cells.toList.all flatV then some (.val (.pointer (some ⟨H.next, 0, none⟩)) (H.push (.box (ρ x).cells.toList t))) else none
    | none => none
  | .build t parts => match P.info? t with
    | some i => match i.zero with
      | some z => if closedV z && (parts.toList.all fun p => operandOk p.2) then
          match P.built t (parts.map fun (i, x) => (i, ρ x)).toList with
          | some cs => some (.val (.agg cs) H)
          | none => none
        else none
      | none => none
    | none => none
  | .buildSlice t len parts => match P.underlying t with
    | some (.slice e) => match P.info? e with
      | some i => match i.zero with
        | some z => if len * i.size ≤ 16777216 ∧ len * i.size ≠ 0 ∧ closedA (initCells z len i.size) = true ∧ (parts.toList.all fun p => operandOk p.2) = true then
            match Instr.fill (fun j => some (j * i.size, i.size)) (initCells z len i.size) (parts.map fun (i, x) => (i, ρ x)).toList with
            | some cs => if cs.toList.all flatV ∧ cs.size = len * i.size then
                some (.val (.slice (some ⟨H.next, 0, some 0⟩) len len) (H.push (.arr cs.toList (List.replicate cs.size 0) 0 e false)))
              else none
            | none => none
          else if len = 0 ∧ parts.toList = [] then
            some (.val (.slice (some ⟨H.next, 0, some 0⟩) 0 0) (H.push (.arr [] [] 0 e false)))
          else none
        | none => none
      | none => none
    | _ => none
  | .load t x => match ρ x with
    | .pointer (some a) => match H.loadV P t a with
      | some v => some (.val v H)
      | none => none
    | _ => none
  | .store t x y => match ρ x with
    | .pointer (some a) => match H.storeV P t a (ρ y) with
      | some H' => some (.skip H')
      | none => none
    | _ => none
  | .nilCheck x => match ρ x with
    | .pointer (some a) => some (.val (.pointer (some a)) H)
    | .func (.func f) u v => some (.val (.func (.func f) u v) H)
    | _ => none
  | .binOp op t x y _ => match closedRun P ρ o with
    | some v => some (.val v H)
    | none => match P.underlying t with
      | some d => match nilEq d (ρ x) (ρ y) with
        | some b => match op with
          | .eql => some (.val (.bool b) H)
          | .neq => some (.val (.bool (!b)) H)
          | _ => none
        | none => none
      | none => none
  | .unOp _ _ _ => match closedRun P ρ o with
    | some v => some (.val v H)
    | none => none
  | .convert _ _ _ => match closedRun P ρ o with
    | some v => some (.val v H)
    | none => none
  | .index _ _ _ => match closedRun P ρ o with
    | some v => some (.val v H)
    | none => none
  | .makeInterface t x => if P.concrete t then some (.val (.iface t (ρ x)) H) else none
  | .makeFunc (.func f) u v => some (.val (.func (.func f) (u.map ρ) (v.map ρ)) H)
  | .makeMap _ none => some (.val (.map (some H.next)) (H.push (.map [])))
  | .slice t x lo hi none => match P.underlying t with
    | some .string => match closedRun P ρ o with
      | some v => some (.val v H)
      | none => none
    | some (.slice e) => match P.info? e with
      | some i => match sliceOf H e i.size (ρ x) (lo.map ρ) (hi.map ρ) with
        | some v => some (.val v H)
        | none => none
      | none => none
    | _ => none
  | .fieldAddr s x f => match P.underlying s, ρ x with
    | some (.struct fields), .pointer (some a) => match fields[f]? with
      | some fd => match P.info? fd.type with
        | some i => if i.size = 0 then none else some (.val (.pointer (some (addA a fd.offset))) H)
        | none => none
      | none => none
    | _, _ => none
  | .field t x f => match P.underlying t, ρ x with
    | some (.struct fields), .agg cs => match fields[f]? with
      | some fd => match partOf P fd.type cs.toList fd.offset with
        | some v => some (.val v H)
        | none => none
      | none => none
    | _, _ => none
  | .indexAddr t x ix => match P.underlying t, ρ x, ρ ix with
    | some (.slice e), .slice (some a) len _, .int _ n => match P.info? e with
      | some i => if 0 ≤ n ∧ n < len then some (.val (.pointer (some (addA a (n.toNat * i.size)))) H) else none
      | none => none
    | _, _, _ => none
  | .extract x ix => match ρ x with
    | .tuple vs => match vs[ix]? with
      | some v => some (.val v H)
      | none => none
    | _ => none
  | .typeAssert x _ t ok => match P.underlying t, ρ x with
    | some (.interface _), _ => none
    | some _, .iface u v => if u = t then some (.val (if ok then .tuple #[v, .bool true] else v) H) else
        if ok then match P.info? t with
          | some i => match i.zero with
            | some z => if closedV z then some (.val (.tuple #[z, .bool false]) H) else none
            | none => none
          | none => none
        else none
    | _, _ => none
  | .panic x => match ρ x with
    | .iface t v => some (.panic (.iface t v) H)
    | _ => none
  | _ => none
  else none

/-! ### The simulation, operation by operation -/
section
variable {P : Program} {N0 : Fz} {β : Emb} {H : AHeap} {w : World} {ρ ρ' : Operand → Value} {o : Oper}

theorem operands_ok {l : Array Operand} (h : l.all operandOk = true) {x : Operand} (hx : x ∈ l) : operandOk x = true := by
  rw [Array.all_eq_true'] at h; exact h x hx

theorem closedRun_some {v : Value} (h : closedRun P ρ o = some v) : (∀ x ∈ o.op.operands, closedV (ρ x) = true) ∧ pureRun P (execOp ρ o) = some (.value v) ∧ closedV v = true := by
  unfold closedRun at h
  split at h
  · rename_i hc
    rw [Array.all_eq_true'] at hc
    split at h
    · rename_i u hu
      split at h
      · rename_i hv
        simp at h; subst h
        exact ⟨hc, hu, hv⟩
      · simp at h
    · simp at h
  · simp at h

theorem closed_sim (h : HRel P N0 β H w) (hρ : ∀ x, operandOk x = true → VRel β (ρ x) (ρ' x)) (hok : o.op.operands.all operandOk = true) {v : Value} (hc : closedRun P ρ o = some v)
    (hcongr : (∀ x ∈ o.op.operands, ρ' x = ρ x) → execOp ρ' o = execOp ρ o) : ResRel P N0 β w (.val v H) ((execOp ρ' o).run P w) := by
  obtain ⟨h1, h2, h3⟩ := closedRun_some hc
  rw [hcongr fun x hx => VRel.eq_of_closed (hρ x (operands_ok hok hx)) (h1 x hx), pureRun_run h2]
  exact ResRel.same h (.closed h3)
end

end B
end Go.Proofs.Ytnjoaffnfjlcaaa
