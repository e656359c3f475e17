/-
  Comparisons with nil.
-/
import Derived.Test.YtnjoaffnfjlcaaaB32
namespace Go.Proofs.Ytnjoaffnfjlcaaa
namespace B
open Go

def isPtr (P : Program) (t : TypeId) : Bool := match P.underlying t with
  | some (.pointer _) => true
  | _ => false
theorem isPtr_of {P : Program} {t e : TypeId} (h : P.underlying t = some (.pointer e)) : isPtr P t = true := by unfold isPtr; rw [h]
theorem isPtr_inv {P : Program} {t : TypeId} (h : isPtr P t = true) : ∃ e, P.underlying t = some (.pointer e) := by
  unfold isPtr at h; split at h
  · rename_i e hu; exact ⟨e, hu⟩
  · simp at h

section
variable {P : Program} {H : AHeap} {t : TypeId} {x y : Operand} {a : Addr}
theorem bin_ptr_eql (h : isPtr P t = true) : binS P H .eql t x y (.pointer (some a)) (.pointer none) = some (.val (.bool false) H) := by
  obtain ⟨e, hu⟩ := isPtr_inv h
  exact (bin_nil (op := .eql) (v := .pointer (some a)) (w := .pointer none) (b := false) (.inr (.inl cl_ptr_some)) hu rfl).1 rfl
theorem bin_ptr_neq (h : isPtr P t = true) : binS P H .neq t x y (.pointer (some a)) (.pointer none) = some (.val (.bool true) H) := by
  obtain ⟨e, hu⟩ := isPtr_inv h
  exact (bin_nil (op := .neq) (v := .pointer (some a)) (w := .pointer none) (b := false) (.inr (.inl cl_ptr_some)) hu rfl).2 rfl
theorem pureRun_eqNilPtr {e : TypeId} (hu : P.underlying t = some (.pointer e)) : pureRun P (Op.equal t (.pointer none) (.pointer none)) = some true := by
  unfold Op.equal
  show pureRun P (Op.equalIn 10000 t (.pointer none) (.pointer none)) = _
  unfold Op.equalIn
  rw [pureRun_seq (pureRun_underlying hu)]
  rfl
theorem bin_nil_eql (h : isPtr P t = true) : binS P H .eql t x y (.pointer none) (.pointer none) = some (.val (.bool true) H) := by
  obtain ⟨e, hu⟩ := isPtr_inv h
  refine binS_of ?_
  have h1 : eqGuard .eql t x y (.pointer none) (.pointer none) = pure () := rfl
  have h2 : binOp .eql t (.pointer none) (.pointer none) = (do pure (.bool (← Op.equal t (.pointer none) (.pointer none)))) := rfl
  unfold binC
  rw [h1, pureRun_seq pureRun_pure, h2, pureRun_seq (pureRun_eqNilPtr hu)]
  simp [closedV, pureRun_pure]
theorem bin_nil_neq (h : isPtr P t = true) : binS P H .neq t x y (.pointer none) (.pointer none) = some (.val (.bool false) H) := by
  obtain ⟨e, hu⟩ := isPtr_inv h
  refine binS_of ?_
  have h1 : eqGuard .neq t x y (.pointer none) (.pointer none) = pure () := rfl
  have h2 : binOp .neq t (.pointer none) (.pointer none) = (do pure (.bool (!(← Op.equal t (.pointer none) (.pointer none))))) := rfl
  unfold binC
  rw [h1, pureRun_seq pureRun_pure, h2, pureRun_seq (pureRun_eqNilPtr hu)]
  simp [closedV, pureRun_pure]
end

theorem opA_build0 {P : Program} {H : AHeap} {ρ : Operand → Value} {ty t : TypeId} (hz : (zeroOf P t).isSome = true) : opA P H ρ (.build t #[]) ty = buildS P H t [] := opA_build (ps := []) rfl hz
theorem opA_call0 {P : Program} {H : AHeap} {ρ : Operand → Value} {ty : TypeId} {f : Operand} {tys : Array TypeId} (hf : operandOk f = true) : opA P H ρ (.call ⟨.value f, #[], tys⟩) ty = callS P H [] (ρ f) := opA_call (args := []) hf rfl

theorem theCode_plan {P : Program} {ext : CallT} {rnd : Bool} {id : Nat} {l : List Oper} {s : St} (plan : List Nat) (h : planOK' l plan = true) :
    theCode P ext rnd (.region id l.toArray true) s = dropP (evalList P (theCall P ext) true l (plan.filterMap fun j => l[j]?) s) := by
  rw [theCode_draw, ← drawRun_plan h]

end B
end Go.Proofs.Ytnjoaffnfjlcaaa
