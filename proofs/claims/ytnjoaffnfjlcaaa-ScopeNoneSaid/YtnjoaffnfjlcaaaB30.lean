/-
  More operations' equations: appending, building, indexing.
-/
import Derived.Test.YtnjoaffnfjlcaaaB29
namespace Go.Proofs.Ytnjoaffnfjlcaaa
namespace B
open Go

section
variable {P : Program} {H : AHeap} {ρ : Operand → Value} {ty : TypeId}

/-- A slice type's element, with its row in the table. -/
def sliceInfo (P : Program) (t : TypeId) : Option (TypeInfo × TypeId) := match P.underlying t with
  | some (.slice e) => match P.info? e with
    | some i => some (i, e)
    | none => none
  | _ => none
theorem sliceInfo_of {t e : TypeId} {i : TypeInfo} (hu : P.underlying t = some (.slice e)) (hi : P.info? e = some i) : sliceInfo P t = some (i, e) := by unfold sliceInfo; rw [hu]; dsimp only; rw [hi]

def pairA : Option (Value × AHeap) → Option ARes
  | some (v, H') => some (.val v H')
  | none => none
theorem pairA_some {v : Value} {H' : AHeap} : pairA (some (v, H')) = some (.val v H') := rfl

theorem opA_append {s x : Operand} {t e : TypeId} {i : TypeInfo} (hs : operandOk s = true) (hx : operandOk x = true) (hi : sliceInfo P t = some (i, e)) :
    opA P H ρ (.call ⟨.builtin .append, #[s, x], #[t, t]⟩) ty = pairA (H.append i e (ρ s) (ρ x)) := by
  unfold opA evalAny
  have hok : (Op.call ⟨.builtin .append, #[s, x], #[t, t]⟩).operands.all operandOk = true := by
    simp [Op.operands, Call.operands, hs, hx]
  simp only [hok, if_true]
  unfold evalCall
  dsimp only
  unfold sliceInfo at hi
  cases hu : P.underlying t with
  | none => rw [hu] at hi; simp at hi
  | some d =>
    rw [hu] at hi
    cases d <;> first | (simp at hi; done) | skip
    rename_i e'
    dsimp only at hi ⊢
    cases hi' : P.info? e' with
    | none => rw [hi'] at hi; simp at hi
    | some i' =>
      rw [hi'] at hi
      simp only [Option.some.injEq, Prod.mk.injEq] at hi
      obtain ⟨rfl, rfl⟩ := hi
      simp only [if_true]
      cases H.append i' e' (ρ s) (ρ x) with
      | none => rfl
      | some q => rfl

def appendS (P : Program) (H : AHeap) (t : TypeId) (v w : Value) : Option ARes := match sliceInfo P t with
  | some (i, e) => pairA (H.append i e v w)
  | none => none
theorem opA_appendS {s x : Operand} {t : TypeId} (hs : operandOk s = true) (hx : operandOk x = true) (hi : (sliceInfo P t).isSome = true) :
    opA P H ρ (.call ⟨.builtin .append, #[s, x], #[t, t]⟩) ty = appendS P H t (ρ s) (ρ x) := by
  cases h : sliceInfo P t with
  | none => rw [h] at hi; simp at hi
  | some q => obtain ⟨i, e⟩ := q; rw [opA_append hs hx h]; unfold appendS; rw [h]
theorem appendS_of {t e : TypeId} {i : TypeInfo} {v w : Value} (h : sliceInfo P t = some (i, e)) : appendS P H t v w = pairA (H.append i e v w) := by unfold appendS; rw [h]

/-- One element, in a row of its own. -/
def build1S (P : Program) (H : AHeap) (t : TypeId) (v : Value) : Option ARes := match sliceInfo P t with
  | some (_, e) => some (.val (.slice (some ⟨H.next, 0, some 0⟩) 1 1) (H.push (.arr v.cells.toList (List.replicate v.cells.toList.length 0) 0 e false)))
  | none => none

theorem foldl_set_all : ∀ (l : List Value) (k : Nat) (cs : Array Value), k + l.length ≤ cs.size → ∀ j, ((l.zipIdx k).foldl (fun cs (p : Value × Nat) => cs.setIfInBounds (0 + p.2) p.1) cs)[j]? = if k ≤ j ∧ j < k + l.length then l[j - k]? else cs[j]?
  | [], k, cs, _, j => by simp; intro h1 h2; omega
  | v :: l, k, cs, h, j => by
    simp only [List.zipIdx_cons, List.foldl_cons]
    simp only [List.length_cons] at h
    rw [foldl_set_all l (k + 1) _ (by simp; omega) j]
    simp only [List.length_cons, Nat.zero_add]
    by_cases h1 : k + 1 ≤ j ∧ j < k + 1 + l.length
    · rw [if_pos h1, if_pos (by omega)]
      obtain ⟨m, rfl⟩ : ∃ m, j = k + 1 + m := ⟨j - (k + 1), by omega⟩
      rw [show k + 1 + m - (k + 1) = m by omega, show k + 1 + m - k = m + 1 by omega, List.getElem?_cons_succ]
    · rw [if_neg h1]
      by_cases h2 : j = k
      · subst h2
        rw [if_pos (by omega), Nat.sub_self]
        simp [Array.getElem?_setIfInBounds]
        omega
      · rw [if_neg (by omega), Array.getElem?_setIfInBounds_ne (by omega)]

theorem closedL_all {l : List Value} : closedL l = true ↔ ∀ v ∈ l, closedV v = true := by
  induction l with
  | nil => simp [closedL]
  | cons v l ih => simp [closedL, ih]

theorem closed_cells {z : Value} (h : closedV z = true) : ∀ v ∈ z.cells.toList, closedV v = true := by
  cases z with
  | agg x =>
    simp only [closedV] at h
    rw [closedA_toList, closedL_all] at h
    simpa [Value.cells] using h
  | _ => intro v hv; simp [Value.cells] at hv; subst hv; exact h

theorem closed_init {z : Value} (h : closedV z = true) (len size : Nat) (hs : z.cells.size ≠ 0) : closedA (initCells z len size) = true := by
  rw [closedA_toList, closedL_all]
  intro v hv
  unfold initCells at hv
  simp only [Array.toList_map, List.mem_map] at hv
  obtain ⟨j, _, rfl⟩ := hv
  have hlt : j % z.cells.size < z.cells.size := Nat.mod_lt _ (by omega)
  rw [getElem!_pos z.cells (j % z.cells.size) hlt]
  exact closed_cells h _ (by rw [Array.mem_toList_iff]; exact Array.getElem_mem hlt)

theorem opA_build1 {t : TypeId} {x : Operand} {i : TypeInfo} {e : TypeId} {z : Value} (hx : operandOk x = true) (hi : sliceInfo P t = some (i, e)) (hz : i.zero = some z) (hzc : closedV z = true) (hzs : z.cells.size = i.size) (hs0 : i.size ≠ 0) (hsm : i.size ≤ 16777216)
    (hv : (ρ x).cells.size = i.size) (hf : (ρ x).cells.toList.all flatV = true) : opA P H ρ (.buildSlice t 1 #[(0, x)]) ty = build1S P H t (ρ x) := by
  rw [ev_of (by simp) (by simp) (by simp) (by simp)]
  unfold evalOp build1S
  rw [hi]
  have hok : (Op.buildSlice t 1 #[(0, x)]).operands.all operandOk = true := by simp [Op.operands, hx]
  simp only [hok, if_true]
  unfold sliceInfo at hi
  cases hu : P.underlying t with
  | none => rw [hu] at hi; simp at hi
  | some d =>
    rw [hu] at hi
    cases d <;> first | (simp at hi; done) | skip
    rename_i e'
    dsimp only at hi ⊢
    cases hi' : P.info? e' with
    | none => rw [hi'] at hi; simp at hi
    | some i' =>
      rw [hi'] at hi
      simp only [Option.some.injEq, Prod.mk.injEq] at hi
      obtain ⟨rfl, rfl⟩ := hi
      dsimp only
      rw [hz]
      dsimp only
      have hic : (initCells z 1 i'.size).size = i'.size := by unfold initCells; simp
      have hcl : closedA (initCells z 1 i'.size) = true := closed_init hzc 1 i'.size (by omega)
      rw [if_pos ⟨by omega, by omega, hcl, by simp [hx]⟩]
      have hfill : Instr.fill (fun j => some (j * i'.size, i'.size)) (initCells z 1 i'.size) [(0, ρ x)] = some (ρ x).cells := by
        unfold Instr.fill
        dsimp only
        rw [if_neg (by simp [hv, hic])]
        unfold Instr.fill
        congr 1
        rw [← Array.foldl_toList, Array.toList_zipIdx]
        apply Array.ext_getElem?
        intro j
        have := foldl_set_all (ρ x).cells.toList 0 (initCells z 1 i'.size) (by simp [hic, hv]) j
        simp only [Nat.zero_mul]
        rw [this]
        simp only [Nat.zero_le, true_and, Nat.zero_add, Nat.sub_zero, Array.length_toList, Array.getElem?_toList]
        split
        · rfl
        · rw [Array.getElem?_eq_none (by omega), Array.getElem?_eq_none (by omega)]
      simp only [List.map_toArray, List.map_cons, List.map_nil]
      rw [hfill]
      dsimp only
      rw [if_pos ⟨hf, by omega⟩]
      simp

def build1OK (P : Program) (t : TypeId) : Bool := match sliceInfo P t with
  | some (i, _) => match i.zero with
    | some z => closedV z && z.cells.size == i.size && i.size != 0 && decide (i.size ≤ 16777216)
    | none => false
  | none => false
def elemSize (P : Program) (t : TypeId) : Nat := match sliceInfo P t with
  | some (i, _) => i.size
  | none => 0

theorem build1OK_of {t e : TypeId} {i : TypeInfo} (h : sliceInfo P t = some (i, e)) (hz : (match i.zero with | some z => closedV z && z.cells.size == i.size && i.size != 0 && decide (i.size ≤ 16777216) | none => false) = true) : build1OK P t = true := by
  unfold build1OK; rw [h]; exact hz
theorem elemSize_of {t e n : Nat} {i : TypeInfo} (h : sliceInfo P t = some (i, e)) (hn : i.size = n) : elemSize P t = n := by unfold elemSize; rw [h]; exact hn

theorem opA_build1F {t : TypeId} {x : Operand} (hx : operandOk x = true) (hok : build1OK P t = true) (hv : (ρ x).cells.size = elemSize P t) (hf : (ρ x).cells.toList.all flatV = true) :
    opA P H ρ (.buildSlice t 1 #[(0, x)]) ty = build1S P H t (ρ x) := by
  unfold build1OK at hok
  unfold elemSize at hv
  cases hi : sliceInfo P t with
  | none => rw [hi] at hok; simp at hok
  | some q =>
    obtain ⟨i, e⟩ := q
    rw [hi] at hok hv
    dsimp only at hok hv
    cases hz : i.zero with
    | none => rw [hz] at hok; simp at hok
    | some z =>
      rw [hz] at hok
      simp only [Bool.and_eq_true, beq_iff_eq, bne_iff_ne, decide_eq_true_eq] at hok
      exact opA_build1 hx hi hz hok.1.1.1 hok.1.1.2 hok.1.2 hok.2 hv hf

theorem build1S_of {t e : TypeId} {i : TypeInfo} {v : Value} (h : sliceInfo P t = some (i, e)) : build1S P H t v = some (.val (.slice (some ⟨H.next, 0, some 0⟩) 1 1) (H.push (.arr v.cells.toList (List.replicate v.cells.toList.length 0) 0 e false))) := by
  unfold build1S; rw [h]

theorem vc_int {k : IntKind} {n : Int} : Value.cells (.int k n) = #[.int k n] := by simp [Value.cells]
theorem fl_int {k : IntKind} {n : Int} : flatV (.int k n) = true := by simp [flatV]
theorem vc_bool {b : Bool} : Value.cells (.bool b) = #[.bool b] := by simp [Value.cells]
theorem fl_bool {b : Bool} : flatV (.bool b) = true := by simp [flatV]
theorem vc_string {b : ByteArray} : Value.cells (.string b) = #[.string b] := by simp [Value.cells]
theorem fl_string {b : ByteArray} : flatV (.string b) = true := by simp [flatV]
theorem vc_ptr {a : Option Addr} : Value.cells (.pointer a) = #[.pointer a] := by simp [Value.cells]
theorem fl_ptr {a : Option Addr} : flatV (.pointer a) = true := by simp [flatV]
theorem vc_map {a : Option Nat} : Value.cells (.map a) = #[.map a] := by simp [Value.cells]
theorem fl_map {a : Option Nat} : flatV (.map a) = true := by simp [flatV]
theorem vc_slice {a : Option Addr} {n c : Nat} : Value.cells (.slice a n c) = #[.slice a n c] := by simp [Value.cells]
theorem fl_slice {a : Option Addr} {n c : Nat} : flatV (.slice a n c) = true := by simp [flatV]
theorem vc_func {f : Fn} {u v : Array Value} : Value.cells (.func f u v) = #[.func f u v] := by simp [Value.cells]
theorem fl_func {f : Fn} {u v : Array Value} : flatV (.func f u v) = true := by simp [flatV]
theorem vc_nilFunc  : Value.cells (.nilFunc) = #[.nilFunc] := by simp [Value.cells]
theorem fl_nilFunc  : flatV (.nilFunc) = true := by simp [flatV]
theorem vc_nilIface  : Value.cells (.nilIface) = #[.nilIface] := by simp [Value.cells]
theorem fl_nilIface  : flatV (.nilIface) = true := by simp [flatV]
theorem vc_iface {t : TypeId} {v : Value} : Value.cells (.iface t v) = #[.iface t v] := by simp [Value.cells]
theorem fl_iface {t : TypeId} {v : Value} : flatV (.iface t v) = true := by simp [flatV]
theorem vc_agg {x : Array Value} : Value.cells (.agg x) = x := by simp [Value.cells]

theorem Own.vcells {e sz : Nat} {v : Value} {n : Nat} {cells : List Value} (h : Own H e sz v n cells) : v.cells = #[v] := by cases h <;> simp [Value.cells]
theorem Own.flat {e sz : Nat} {v : Value} {n : Nat} {cells : List Value} (h : Own H e sz v n cells) : flatV v = true := by cases h <;> simp [flatV]
theorem Own.id_ne {e sz : Nat} {v : Value} {n b : Nat} {cells cs : List Value} {t : TypeId} (h : Own H e sz v n cells) (hb : H.get b = some (.box cs t)) : idOf v ≠ some b := by
  intro hi
  cases h with
  | nil => simp [idOf] at hi
  | row hg h2 h3 h4 h5 =>
    simp only [idOf, Option.some.injEq] at hi
    subst hi
    rw [hb] at hg; simp at hg
theorem get_lt {b : Nat} {x : AObj} (hf : H.Fresh) (hb : H.get b = some x) : b < H.next := by
  rcases Nat.lt_or_ge b H.next with h | h
  · exact h
  · rw [hf _ h] at hb; simp at hb
theorem Own.lenS {P : Program} {e sz t : Nat} {v : Value} {n : Nat} {cells : List Value} (h : Own H e sz v n cells) (ht : isSlice P t = true) (H2 : AHeap) : B.lenS P H2 t v = some (.val (.int .i64 n) H2) := by
  cases h <;> exact lenS_slice ht

end
end B
end Go.Proofs.Ytnjoaffnfjlcaaa
