/-
  Rounds and their ends, by what the record holds; whole boxes stored and loaded.
-/
import Derived.Test.YtnjoaffnfjlcaaaB36
namespace Go.Proofs.Ytnjoaffnfjlcaaa
namespace B
open Go

section
variable {P : Program} {ext : CallT} {rnd : Bool}

def roundM (K : Nat) (tm : List Value) (dfs : List ADef) (H : AHeap) (k : St → Option (AExit × St)) : Option AObj → Option (AEnd × AHeap)
  | some (.loop ⟨.ready, pe, tm0, ps, as, bd⟩) => roundB K (k ⟨tm, dfs, H.set K (.loop ⟨.busy, pe, tm0, ps, as, bd⟩)⟩)
  | _ => none
theorem roundA_M {K : Nat} {tm : List Value} {dfs : List ADef} {H : AHeap} {k : St → Option (AExit × St)} : roundA K (some (.normal, ⟨tm, dfs, H⟩)) k = roundM K tm dfs H k (H.get K) := by
  unfold roundA roundM
  dsimp only
  cases H.get K with
  | none => rfl
  | some o =>
    cases o <;> try rfl
    rename_i r
    obtain ⟨st, pe, tm0, ps, as, bd⟩ := r
    cases st <;> rfl
theorem roundM_ready {K : Nat} {tm : List Value} {dfs : List ADef} {H : AHeap} {k : St → Option (AExit × St)} {pe : Option Code} {tm0 : List Value} {ps : Array Tmp} {as bd : Code} :
    roundM K tm dfs H k (some (.loop ⟨.ready, pe, tm0, ps, as, bd⟩)) = roundB K (k ⟨tm, dfs, H.set K (.loop ⟨.busy, pe, tm0, ps, as, bd⟩)⟩) := rfl

def roundN (K : Nat) (H : AHeap) (j : Option Code) : Option AObj → Option (AEnd × AHeap)
  | some (.loop ⟨_, _, tm0, ps, as, bd⟩) => some (.ret (.bool j.isNone), H.set K (.loop ⟨if j.isNone then .ready else .done, j, tm0, ps, as, bd⟩))
  | _ => none
theorem roundB_N {K : Nat} {tm : List Value} {dfs : List ADef} {H : AHeap} : roundB K (some (.normal, ⟨tm, dfs, H⟩)) = roundN K H none (H.get K) := by
  unfold roundB jumpOf roundN; dsimp only
  cases H.get K with
  | none => rfl
  | some o => cases o <;> rfl
theorem roundB_R {K : Nat} {tm : List Value} {dfs : List ADef} {H : AHeap} : roundB K (some (.ret, ⟨tm, dfs, H⟩)) = roundN K H (some .ret) (H.get K) := by
  unfold roundB jumpOf roundN; dsimp only
  cases H.get K with
  | none => rfl
  | some o => cases o <;> rfl
theorem roundB_E {K id : Nat} {tm : List Value} {dfs : List ADef} {H : AHeap} : roundB K (some (.exit id, ⟨tm, dfs, H⟩)) = roundN K H (some (.exit id)) (H.get K) := by
  unfold roundB jumpOf roundN; dsimp only
  cases H.get K with
  | none => rfl
  | some o => cases o <;> rfl
theorem roundN_none {K : Nat} {H : AHeap} {st : LoopState} {pe : Option Code} {tm0 : List Value} {ps : Array Tmp} {as bd : Code} :
    roundN K H none (some (.loop ⟨st, pe, tm0, ps, as, bd⟩)) = some (.ret (.bool true), H.set K (.loop ⟨.ready, none, tm0, ps, as, bd⟩)) := rfl
theorem roundN_some {K : Nat} {H : AHeap} {c : Code} {st : LoopState} {pe : Option Code} {tm0 : List Value} {ps : Array Tmp} {as bd : Code} :
    roundN K H (some c) (some (.loop ⟨st, pe, tm0, ps, as, bd⟩)) = some (.ret (.bool false), H.set K (.loop ⟨.done, some c, tm0, ps, as, bd⟩)) := rfl

def rangeM (K : Nat) (s : St) (H' : AHeap) : Option AObj → Option (AExit × St)
  | some (.loop ⟨.busy, _, _, _, _, _⟩) => none
  | some (.loop ⟨_, none, tm0, ps, as, bd⟩) => some (.normal, ⟨s.tmps, s.dfs, H'.set K (.loop ⟨.exhausted, none, tm0, ps, as, bd⟩)⟩)
  | some (.loop ⟨_, some .ret, tm0, ps, as, bd⟩) => some (.ret, ⟨s.tmps, s.dfs, H'.set K (.loop ⟨.exhausted, some .ret, tm0, ps, as, bd⟩)⟩)
  | some (.loop ⟨_, some (.exit i), tm0, ps, as, bd⟩) => some (.exit i, ⟨s.tmps, s.dfs, H'.set K (.loop ⟨.exhausted, some (.exit i), tm0, ps, as, bd⟩)⟩)
  | _ => none
theorem rangeEnd_M {K : Nat} {s : St} {v : Value} {H' : AHeap} : rangeEnd K s (some (.ret v, H')) = rangeM K s H' (H'.get K) := by
  unfold rangeEnd rangeM
  dsimp only
  cases H'.get K with
  | none => rfl
  | some o =>
    cases o <;> try rfl
    rename_i r
    obtain ⟨st, pe, tm0, ps, as, bd⟩ := r
    cases st <;> (cases pe with
      | none => rfl
      | some c => cases c <;> rfl)
theorem rangeM_ready {K : Nat} {s : St} {H' : AHeap} {tm0 : List Value} {ps : Array Tmp} {as bd : Code} : rangeM K s H' (some (.loop ⟨.ready, none, tm0, ps, as, bd⟩)) = some (.normal, ⟨s.tmps, s.dfs, H'.set K (.loop ⟨.exhausted, none, tm0, ps, as, bd⟩)⟩) := rfl
theorem rangeM_ret {K : Nat} {s : St} {H' : AHeap} {tm0 : List Value} {ps : Array Tmp} {as bd : Code} : rangeM K s H' (some (.loop ⟨.done, some .ret, tm0, ps, as, bd⟩)) = some (.ret, ⟨s.tmps, s.dfs, H'.set K (.loop ⟨.exhausted, some .ret, tm0, ps, as, bd⟩)⟩) := rfl

/-! ### Whole boxes -/
theorem setN_box {b : Nat} {e : TypeId} : ∀ (xs : List Value) (o : Nat) (cs : List Value) (H : AHeap), H.get b = some (.box cs e) → o + xs.length ≤ cs.length → xs.all flatV = true → H.setN ⟨b, o, none⟩ xs = some (H.set b (.box (setL cs o xs) e))
  | [], o, cs, H, hg, _, _ => by rw [show setL cs o [] = cs from rfl, AHeap.set_self hg]; rfl
  | x :: xs, o, cs, H, hg, hl, hf => by
    simp only [List.all_cons, Bool.and_eq_true] at hf
    simp only [List.length_cons] at hl
    unfold AHeap.setN
    rw [setCell_eq hf.1, hg, Option.getD_none, setCellO_box rfl (by omega)]
    dsimp only
    rw [addA_mk, setN_box xs (o + 1) (cs.set o x) _ get_set_same (by simpa using by omega) hf.2, AHeap.set_set]
    rfl

theorem setL_all : ∀ (xs cs : List Value) (o : Nat), o + xs.length = cs.length → setL cs o xs = cs.take o ++ xs
  | [], cs, o, h => by
    rw [List.append_nil, List.take_of_length_le (by simp at h; omega)]; rfl
  | x :: xs, cs, o, h => by
    simp only [List.length_cons] at h
    unfold setL
    rw [setL_all xs _ (o + 1) (by simp; omega)]
    have : (cs.set o x).take (o + 1) = cs.take o ++ [x] := by
      rw [List.take_succ_eq_append_getElem (by simp; omega)]
      simp [List.take_set_of_le]
    rw [this, List.append_assoc]
    rfl

theorem storeV_box {H : AHeap} {b : Nat} {t : TypeId} {v : Value} {cs : List Value} {e : TypeId} (hi : (P.info? t).isSome = true) (hg : H.get b = some (.box cs e)) (hc : P.cellsOf t = cs.length) (hv : v.cells.size = cs.length) (hf : v.cells.toList.all flatV = true) :
    H.storeV P t ⟨b, 0, none⟩ v = some (H.set b (.box v.cells.toList e)) := by
  rw [storeV_agg hi (by rw [hv, hc]), setN_box _ _ _ _ hg (by simp [hv]) hf, setL_all _ _ _ (by simp [hv])]
  rfl

theorem loadV_box {H : AHeap} {b : Nat} {t : TypeId} {cs : List Value} {e : TypeId} (ht : aggT P t = some true) (hi : (P.info? t).isSome = true) (hg : H.get b = some (.box cs e)) (hc : P.cellsOf t = cs.length) : H.loadV P t ⟨b, 0, none⟩ = some (.agg cs.toArray) := by
  rw [loadV_agg ht hi, readN_boxO (by rw [hg]; simp [boxCells, hc]), hg]
  simp [boxCells, hc]

theorem opA_sliceHi {H : AHeap} {ρ : Operand → Value} {ty t : TypeId} {x y : Operand} (hx : operandOk x = true) (hy : operandOk y = true) (hs : (sliceInfo P t).isSome = true) :
    opA P H ρ (.slice t x none (some y) none) ty = sliceS P H t (ρ x) none (some (ρ y)) := by rw [opA_slice hx (by simp) (by simp [hy]) hs]; rfl
theorem opA_sliceLo {H : AHeap} {ρ : Operand → Value} {ty t : TypeId} {x y : Operand} (hx : operandOk x = true) (hy : operandOk y = true) (hs : (sliceInfo P t).isSome = true) :
    opA P H ρ (.slice t x (some y) none none) ty = sliceS P H t (ρ x) (some (ρ y)) none := by rw [opA_slice hx (by simp [hy]) (by simp) hs]; rfl
theorem opA_sliceLH {H : AHeap} {ρ : Operand → Value} {ty t : TypeId} {x y z : Operand} (hx : operandOk x = true) (hy : operandOk y = true) (hz : operandOk z = true) (hs : (sliceInfo P t).isSome = true) :
    opA P H ρ (.slice t x (some y) (some z) none) ty = sliceS P H t (ρ x) (some (ρ y)) (some (ρ z)) := by rw [opA_slice hx (by simp [hy]) (by simp [hz]) hs]; rfl

theorem Grown.back {H5 H1 G : AHeap} {K : Nat} {x y o : AObj} (h : Grown H5 H1) (hx : H1.get K = some x) (g : Grown (H1.set K o) G) (hy : H5.get K = some y) (hK : K < H5.next) : Grown H5 (G.set K y) := by
  have hK1 : K < (H1.set K o).next := Nat.lt_of_lt_of_le hK h.next
  have hG : G.get K = some o := by rw [g.get K hK1]; exact get_set_same
  refine ⟨fun j hj => ?_, Nat.le_trans h.next g.next, (AHeap.le_set hG).fresh g.fresh⟩
  by_cases e : j = K
  · subst e; rw [get_set_same, hy]
  · rw [get_set_ne e, g.get j (Nat.lt_of_lt_of_le hj h.next), get_set_ne e]
    exact h.get j hj

end
end B
end Go.Proofs.Ytnjoaffnfjlcaaa
