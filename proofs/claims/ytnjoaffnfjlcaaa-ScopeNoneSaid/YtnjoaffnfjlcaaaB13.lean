/-
  Operations that make memory, apart from where the abstract heap stands; the heap's numbers rise.
-/
import Derived.Test.YtnjoaffnfjlcaaaB12
namespace Go.Proofs.Ytnjoaffnfjlcaaa
namespace B
open Go

def ARes.heap : ARes → AHeap
  | .val _ H => H
  | .skip H => H
  | .enter _ _ H => H
  | .defer _ _ H => H
  | .panic _ H => H

theorem setN_le : ∀ {vs : List Value} {H H' : AHeap} {a : Addr}, H.setN a vs = some H' → AHeap.le H H'
  | [], H, H', a, h => by simp [AHeap.setN] at h; rw [h]; exact AHeap.le_refl _
  | v :: vs, H, H', a, h => by
    unfold AHeap.setN at h
    cases h1 : H.setCell a v with
    | none => rw [h1] at h; simp at h
    | some H1 =>
      rw [h1] at h
      dsimp only at h
      obtain ⟨_, h2, h3, r, r', h4, _⟩ := setCell_view h1
      have hx : ∃ x, H.get a.block = some x := by
        unfold AHeap.view at h4
        cases hg : H.get a.block with
        | none => rw [hg] at h4; simp at h4
        | some x => exact ⟨x, rfl⟩
      obtain ⟨x, hx⟩ := hx
      exact AHeap.le_trans (AHeap.le_of h2 h3 hx) (setN_le h)

theorem storeV_le {P : Program} {H H' : AHeap} {t : TypeId} {a : Addr} {v : Value} (h : H.storeV P t a v = some H') : AHeap.le H H' := by
  unfold AHeap.storeV at h
  split at h
  · split at h
    · exact setN_le h
    · simp at h
  · simp at h

theorem append_le {H H' : AHeap} {i : TypeInfo} {e : TypeId} {s x v : Value} (h : H.append i e s x = some (v, H')) : AHeap.le H H' := by
  unfold AHeap.append at h
  (repeat' split at h) <;> first | (simp at h; done) | (simp at h; obtain ⟨_, rfl⟩ := h; first | exact AHeap.le_refl _ | exact AHeap.le_push _ _ | exact AHeap.le_set (by assumption))

theorem mapPut_le {P : Program} {H H' : AHeap} {t : TypeId} {m k v : Value} (h : H.mapPut P t m k v = some H') : AHeap.le H H' := by
  unfold AHeap.mapPut at h
  (repeat' split at h) <;> first | (simp at h; done) | (simp at h; subst h; exact AHeap.le_set (by assumption))

set_option maxHeartbeats 4000000 in
theorem evalAny_next {P : Program} {H : AHeap} {ρ : Operand → Value} {o : Oper} {r : ARes} (h : evalAny P H ρ o = some r) : AHeap.le H r.heap := by
  unfold evalAny at h
  split at h
  · split at h
    · unfold evalCall at h
      (repeat' split at h) <;> first | (simp at h; done) | (simp at h; subst h; first | exact AHeap.le_refl _ | (exact append_le (by assumption)))
    · simp at h
  · (repeat' split at h) <;> first | (simp at h; done) | (simp at h; subst h; exact AHeap.le_refl _)
  · (repeat' split at h) <;> first | (simp at h; done) | (simp at h; subst h; exact mapPut_le (by assumption))
  · (repeat' split at h) <;> first | (simp at h; done) | (simp at h; subst h; exact mapPut_le (by assumption))
  · unfold evalOp at h
    (repeat' split at h) <;> first | (simp at h; done) | (simp at h; subst h; first | exact AHeap.le_refl _ | exact AHeap.le_push _ _ | (exact storeV_le (by assumption)))

/-- What an operation that makes memory does, wherever the abstract thing has its number. -/
structure AllocRun (P : Program) (β : Emb) (w : World) (H H' : AHeap) (V : Value) (s : Sem Next) : Prop where
  ex : ∃ (obj : AObj) (r : RowV) (c : Array Value) (i : TypeInfo) (V' : Value) (w' : World), obj.view = some r ∧ r.ro = false ∧ r.g = 0 ∧ (∀ j, r.st j ≤ r.g) ∧ P.info? r.e = some i ∧ H' = H.push obj ∧
    (∀ (j : Nat) (v : Value), r.cs[j]? = some v → ∃ v', c[j]? = some v' ∧ VRel β v v') ∧ s.run P w = .ok (.value V') w' ∧ (w'.heap = w.heap.push (.cells c r.e) ∧ w'.os = w.os ∧ w'.output = w.output) ∧
    ∀ γ : Emb, γ.row H.next 0 = some (w.heap.size, 0) → γ.live H.next = true → γ.bsz w.heap.size = c.size → γ.bes w.heap.size = i.size → VRel γ V V'

section
variable {P : Program} {β : Emb} {H : AHeap} {w : World} {ρ ρ' : Operand → Value} {o : Oper}

set_option maxHeartbeats 2000000 in
theorem alloc_any (hρ : ∀ x, operandOk x = true → VRel β (ρ x) (ρ' x)) (hk : okind o.op = .alloc) {r : ARes} (e : evalAny P H ρ o = some r) : ∃ V H', r = .val V H' ∧ AllocRun P β w H H' V (execOp ρ' o) := by
  have hnc : ∀ c, o.op ≠ .call c := by
    intro c hc; rw [hc] at hk; rcases okind_call c with h | h <;> rw [h] at hk <;> cases hk
  have ev : evalAny P H ρ o = evalOp P H ρ o := by
    unfold evalAny
    split
    · rename_i c hc; exact absurd hc (hnc c)
    · rename_i ho; rw [ho] at hk; cases hk
    · rename_i ho; rw [ho] at hk; cases hk
    · rename_i ho; rw [ho] at hk; cases hk
    · rfl
  rw [ev] at e
  unfold evalOp at e
  split at e
  case isFalse => simp at e
  rename_i hok
  have hop : ∀ x ∈ o.op.operands, VRel β (ρ x) (ρ' x) := fun x hx => hρ x (operands_ok hok hx)
  cases ho : o.op
  all_goals rw [ho] at hk
  all_goals (first | (simp [okind] at hk; done) | (exact absurd ho (hnc _)) | skip)
  all_goals simp only [ho] at e
  case alloc t =>
    have hx : execOp ρ' o = (do pure (.value (← Instr.alloc t true (.tuple #[])))) := by unfold execOp; rw [ho]
    rw [hx]
    split at e
    · rename_i i hi
      split at e
      · rename_i z hz
        split at e
        · rename_i hc
          simp at e; subst e
          rw [Bool.and_eq_true] at hc
          have hcl : VRels β z.cells.toList z.cells.toList := (VRel.closed (β := β) hc.1).cells
          have : (Instr.alloc t true (.tuple #[])).run P w = .ok (.pointer (some ⟨w.heap.size, 0, none⟩)) (w.alloc (.cells z.cells t)) := by
            simp [Instr.alloc, zeroValue, typeInfo, hi, hz, newVar, newRow]
          refine ⟨_, _, rfl, ⟨.box z.cells.toList t, ⟨z.cells.toList, fun _ => 0, 0, t, false⟩, z.cells, i, .pointer (some ⟨w.heap.size, 0, none⟩), w.alloc (.cells z.cells t), rfl, rfl, rfl, fun _ => Nat.le_refl _, hi, rfl, ?_, ?_, ⟨rfl, rfl, rfl⟩, ?_⟩⟩
          · intro j v hj; obtain ⟨v', h1, h2⟩ := VRels.get hcl hj; exact ⟨v', by rw [← Array.getElem?_toList]; exact h1, h2⟩
          · simp only [Sem.run_bind, this, Result.andThen_ok]; rfl
          · intro γ h1 _ _ _; exact .pointer ⟨w.heap.size, 0, h1, by simp⟩
        · simp at e
      · simp at e
    · simp at e
  case box t x =>
    have hx : execOp ρ' o = (do pure (.value (← Instr.box t (ρ' x)))) := by unfold execOp; rw [ho]
    rw [hx]
    split at e
    · rename_i i hi
      split at e
      · simp at e; subst e
        have hv := hop x (by rw [ho]; simp [Op.operands])
        have hcl := hv.cells
        have : (Instr.box t (ρ' x)).run P w = .ok (.pointer (some ⟨w.heap.size, 0, none⟩)) (w.alloc (.cells (ρ' x).cells t)) := by
          simp [Instr.box, newVar, newRow]
        refine ⟨_, _, rfl, ⟨.box (ρ x).cells.toList t, ⟨(ρ x).cells.toList, fun _ => 0, 0, t, false⟩, (ρ' x).cells, i, .pointer (some ⟨w.heap.size, 0, none⟩), w.alloc (.cells (ρ' x).cells t), rfl, rfl, rfl, fun _ => Nat.le_refl _, hi, rfl, ?_, ?_, ⟨rfl, rfl, rfl⟩, ?_⟩⟩
        · intro j v hj; obtain ⟨v', h1, h2⟩ := VRels.get hcl hj; exact ⟨v', by rw [← Array.getElem?_toList]; exact h1, h2⟩
        · simp only [Sem.run_bind, this, Result.andThen_ok]; rfl
        · intro γ h1 _ _ _; exact .pointer ⟨w.heap.size, 0, h1, by simp⟩
      · simp at e
    · simp at e
  case buildSlice t len parts =>
    have hx : execOp ρ' o = (do pure (.value (← Instr.buildSlice t len (parts.map fun (i, x) => (i, ρ' x))))) := by unfold execOp; rw [ho]
    rw [hx]
    split at e
    · rename_i ee hu
      split at e
      · rename_i i hi
        split at e
        · rename_i z hz
          split at e
          · rename_i hc
            obtain ⟨hc1, hc2, hc3, hc4⟩ := hc
            split at e
            · rename_i cs hcs
              split at e
              · rename_i hcc
                simp at e; subst e
                have hp : PRels β (parts.map fun (i, x) => (i, ρ x)).toList (parts.map fun (i, x) => (i, ρ' x)).toList := by
                  simpa using PRels.map hρ parts.toList hc4
                have hzc : VRels β (initCells z len i.size).toList (initCells z len i.size).toList := by
                  rw [closedA_toList] at hc3; exact VRels.closed hc3
                obtain ⟨cs', h1, h2⟩ := fill_rel _ _ _ _ _ _ hp hzc hcs
                have hsz : cs'.size = cs.size := by have := VRels.length h2; simpa using this
                have : (Instr.buildSlice t len (parts.map fun (i, x) => (i, ρ' x))).run P w = .ok (.slice (some ⟨w.heap.size, 0, none⟩) len len) (w.alloc (.cells cs' ee)) := by
                  unfold initCells at h1
                  simp [Instr.buildSlice, run_underlying hu, sizeOf, typeInfo, hi, zeroValue, hz, hc2, Nat.not_lt.2 hc1, newRow]
                  simp only [Array.toList_map] at h1
                  rw [h1]
                  rfl
                refine ⟨_, _, rfl, ⟨.arr cs.toList (List.replicate cs.size 0) 0 ee false, ⟨cs.toList, fun j => (List.replicate cs.size 0).getD j 0, 0, ee, false⟩, cs', i, .slice (some ⟨w.heap.size, 0, none⟩) len len, w.alloc (.cells cs' ee), rfl, rfl, rfl,
                  fun j => getD_replicate_le _ _ _, hi, rfl, ?_, ?_, ⟨rfl, rfl, rfl⟩, ?_⟩⟩
                · intro j v hj; obtain ⟨v', h1, h2⟩ := VRels.get h2 hj; exact ⟨v', by rw [← Array.getElem?_toList]; exact h1, h2⟩
                · simp only [Sem.run_bind, this, Result.andThen_ok]; rfl
                · intro γ g1 _ g3 g4
                  refine .slice ⟨w.heap.size, 0, g1, by simp⟩ (Nat.le_refl _) (Nat.le_refl _) fun _ => ?_
                  rw [g3, g4, hsz, hcc.2]; simp
              · simp at e
            · simp at e
          · split at e
            · rename_i hc
              simp at e; subst e
              obtain ⟨hl, hpz⟩ := hc
              subst hl
              have : (Instr.buildSlice t 0 (parts.map fun (i, x) => (i, ρ' x))).run P w = .ok (.slice (some ⟨w.heap.size, 0, none⟩) 0 0) (w.alloc (.cells #[] ee)) := by
                have hp0 : parts = #[] := by cases parts; simp at hpz; subst hpz; rfl
                subst hp0
                have e0 : ∀ (f : Nat → Value), (Array.range 0).map f = #[] := fun f => Array.eq_empty_of_size_eq_zero (by simp)
                simp [Instr.buildSlice, run_underlying hu, sizeOf, typeInfo, hi, newRow, Instr.fill]
                rw [e0]
              refine ⟨_, _, rfl, ⟨.arr [] [] 0 ee false, ⟨[], fun j => ([] : List Nat).getD j 0, 0, ee, false⟩, #[], i, .slice (some ⟨w.heap.size, 0, none⟩) 0 0, w.alloc (.cells #[] ee), rfl, rfl, rfl, fun j => by simp, hi, rfl, ?_, ?_, ⟨rfl, rfl, rfl⟩, ?_⟩⟩
              · intro j v hj; simp at hj
              · simp only [Sem.run_bind, this, Result.andThen_ok]; rfl
              · intro γ _ g2 _ _; exact .sliceZ g2
            · simp at e
        · simp at e
      · simp at e
    · simp at e
end

theorem alloc_val {P : Program} {H : AHeap} {ρ : Operand → Value} {o : Oper} (hk : okind o.op = .alloc) {r : ARes} (e : evalAny P H ρ o = some r) : ∃ V H', r = .val V H' := by
  have hnc : ∀ c, o.op ≠ .call c := by
    intro c hc; rw [hc] at hk; rcases okind_call c with h | h <;> rw [h] at hk <;> cases hk
  unfold evalAny at e
  split at e
  · rename_i c hc; exact absurd hc (hnc c)
  · rename_i ho; rw [ho] at hk; cases hk
  · rename_i ho; rw [ho] at hk; cases hk
  · rename_i ho; rw [ho] at hk; cases hk
  · unfold evalOp at e
    split at e
    case isFalse => simp at e
    cases hop : o.op
    all_goals rw [hop] at hk
    all_goals (first | (simp [okind] at hk; done) | (exact absurd hop (hnc _)) | skip)
    all_goals simp only [hop] at e
    all_goals (repeat' split at e) <;> first | contradiction | (simp at e; done) | (simp at e; exact ⟨_, _, e.symm⟩)

theorem alloc_push {P : Program} {H H' : AHeap} {ρ : Operand → Value} {o : Oper} (hk : okind o.op = .alloc) {V : Value} (e : evalAny P H ρ o = some (.val V H')) : ∃ obj r, AObj.view obj = some r ∧ (∀ j, r.st j ≤ r.g) ∧ H' = H.push obj := by
  have hnc : ∀ c, o.op ≠ .call c := by
    intro c hc; rw [hc] at hk; rcases okind_call c with h | h <;> rw [h] at hk <;> cases hk
  unfold evalAny at e
  split at e
  · rename_i c hc; exact absurd hc (hnc c)
  · rename_i ho; rw [ho] at hk; cases hk
  · rename_i ho; rw [ho] at hk; cases hk
  · rename_i ho; rw [ho] at hk; cases hk
  · unfold evalOp at e
    split at e
    case isFalse => simp at e
    cases hop : o.op
    all_goals rw [hop] at hk
    all_goals (first | (simp [okind] at hk; done) | (exact absurd hop (hnc _)) | skip)
    all_goals simp only [hop] at e
    all_goals (repeat' split at e) <;> first | contradiction | (simp at e; done) | (simp at e; exact ⟨_, _, rfl, fun j => by first | exact Nat.le_refl _ | exact getD_replicate_le _ _ _ | simp, e.2.symm⟩)

theorem alloc_not_skip {P : Program} {H H' : AHeap} {ρ : Operand → Value} {o : Oper} (hk : okind o.op = .alloc) : evalAny P H ρ o ≠ some (.skip H') := by
  intro e; obtain ⟨_, _, h⟩ := alloc_val hk e; simp at h

theorem alloc_not_enter {P : Program} {H H' : AHeap} {ρ : Operand → Value} {o : Oper} {f : FuncId} {args : List Value} (hk : okind o.op = .alloc) : evalAny P H ρ o ≠ some (.enter f args H') := by
  intro e; obtain ⟨_, _, h⟩ := alloc_val hk e; simp at h

end B
end Go.Proofs.Ytnjoaffnfjlcaaa
