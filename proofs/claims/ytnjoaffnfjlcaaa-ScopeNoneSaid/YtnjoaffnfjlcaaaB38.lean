/-
  Slices compared with nil; lists of numbers.
-/
import Derived.Test.YtnjoaffnfjlcaaaB37
namespace Go.Proofs.Ytnjoaffnfjlcaaa
namespace B
open Go

theorem isSlice_inv {P : Program} {t : TypeId} (h : isSlice P t = true) : ∃ e, P.underlying t = some (.slice e) := by
  unfold isSlice at h; split at h
  · rename_i e hu; exact ⟨e, hu⟩
  · simp at h

section
variable {P : Program} {H : AHeap} {t : TypeId} {x y : Operand}

theorem bin_slice_eql {a : Addr} {n c : Nat} (h : isSlice P t = true) : binS P H .eql t x y (.slice (some a) n c) (.slice none 0 0) = some (.val (.bool false) H) := by
  obtain ⟨e, hu⟩ := isSlice_inv h
  exact (bin_nil (op := .eql) (v := .slice (some a) n c) (w := .slice none 0 0) (b := false) (.inr (.inl (by simp [closedV]))) hu rfl).1 rfl
theorem bin_slice_neq {a : Addr} {n c : Nat} (h : isSlice P t = true) : binS P H .neq t x y (.slice (some a) n c) (.slice none 0 0) = some (.val (.bool true) H) := by
  obtain ⟨e, hu⟩ := isSlice_inv h
  exact (bin_nil (op := .neq) (v := .slice (some a) n c) (w := .slice none 0 0) (b := false) (.inr (.inl (by simp [closedV]))) hu rfl).2 rfl
theorem pureRun_eqNilSlice {e : TypeId} (hu : P.underlying t = some (.slice e)) : pureRun P (Op.equal t (.slice none 0 0) (.slice none 0 0)) = some true := by
  unfold Op.equal
  show pureRun P (Op.equalIn 10000 t (.slice none 0 0) (.slice none 0 0)) = _
  unfold Op.equalIn
  rw [pureRun_seq (pureRun_underlying hu)]
  rfl
theorem bin_snil_eql (h : isSlice P t = true) : binS P H .eql t x y (.slice none 0 0) (.slice none 0 0) = some (.val (.bool true) H) := by
  obtain ⟨e, hu⟩ := isSlice_inv h
  refine binS_of ?_
  have h1 : eqGuard .eql t x y (.slice none 0 0) (.slice none 0 0) = pure () := rfl
  have h2 : binOp .eql t (.slice none 0 0) (.slice none 0 0) = (do pure (.bool (← Op.equal t (.slice none 0 0) (.slice none 0 0)))) := rfl
  unfold binC
  rw [h1, pureRun_seq pureRun_pure, h2, pureRun_seq (pureRun_eqNilSlice hu)]
  simp [closedV, pureRun_pure]
theorem bin_snil_neq (h : isSlice P t = true) : binS P H .neq t x y (.slice none 0 0) (.slice none 0 0) = some (.val (.bool false) H) := by
  obtain ⟨e, hu⟩ := isSlice_inv h
  refine binS_of ?_
  have h1 : eqGuard .neq t x y (.slice none 0 0) (.slice none 0 0) = pure () := rfl
  have h2 : binOp .neq t (.slice none 0 0) (.slice none 0 0) = (do pure (.bool (!(← Op.equal t (.slice none 0 0) (.slice none 0 0))))) := rfl
  unfold binC
  rw [h1, pureRun_seq pureRun_pure, h2, pureRun_seq (pureRun_eqNilSlice hu)]
  simp [closedV, pureRun_pure]

end

/-! ### Slots as a list that is written out -/
theorem theCall_lit {P : Program} {ext : CallT} {f : FuncId} {fn : Func} {c : Code} {rs : List ResultVar} {args : List Value} (tm : List Value) {H : AHeap} {r : Option (AEnd × AHeap)} (hx : ext f args H = none) (hf : P.funcs[f]? = some fn) (hb : fn.body = some c)
    (hr : fn.results.toList = rs) (ht : args ++ List.replicate (fn.ntmps - args.length) undef = tm) (h : leaveR P rs (theCode P ext false c ⟨tm, [], H⟩) = r) : theCall P ext f args H = r := by
  rw [theCall_body hx hf hb, leaveA_R, hr]
  unfold enterA
  rw [ht]; exact h
theorem yieldS_cons {v : Value} {tm : List Value} {d : Nat} : yieldS (v :: tm) (some (d + 1)) = yieldS tm (some d) := rfl
theorem yieldS_head {v : Value} {tm : List Value} : yieldS (v :: tm) (some 0) = boolOf v := rfl

theorem evalList_capp {P : Program} {call : CallT} {rnd : Bool} {all l l2 : List Oper} {o : Oper} {s : St} : evalList P call rnd all (List.append (o :: l) l2) s = evalList P call rnd all (o :: List.append l l2) s := rfl
theorem evalList_napp {P : Program} {call : CallT} {rnd : Bool} {all l2 : List Oper} {s : St} : evalList P call rnd all (List.append [] l2) s = evalList P call rnd all l2 s := rfl
theorem slotAt_capp {l l2 : List Oper} {o : Oper} {j : Nat} : slotAt (List.append (o :: l) l2) j = slotAt (o :: List.append l l2) j := rfl
theorem slotAt_napp {l2 : List Oper} {j : Nat} : slotAt (List.append [] l2) j = slotAt l2 j := rfl

end B
end Go.Proofs.Ytnjoaffnfjlcaaa
