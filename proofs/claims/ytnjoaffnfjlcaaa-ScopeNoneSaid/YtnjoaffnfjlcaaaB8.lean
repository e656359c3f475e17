/-
  The simulation of one operation.
-/
import Derived.Test.YtnjoaffnfjlcaaaB7
namespace Go.Proofs.Ytnjoaffnfjlcaaa
namespace B
open Go

section
variable {P : Program} {N0 : Fz} {β : Emb} {H : AHeap} {w : World} {ρ ρ' : Operand → Value} {o : Oper}

theorem array_map_congr {α γ : Type} {f g : α → γ} {l : Array α} (h : ∀ x ∈ l, f x = g x) : l.map f = l.map g := Array.map_congr_left h

theorem opt_map_congr {α γ : Type} {f g : α → γ} {l : Option α} (h : ∀ x, l = some x → f x = g x) : l.map f = l.map g := by
  cases l with
  | none => rfl
  | some x => simp [h x rfl]

theorem run_fieldPlace {a : Addr} {f : Field} {i : TypeInfo} (hi : P.info? f.type = some i) (hz : i.size ≠ 0) (w : World) : (fieldPlace a f).run P w = .ok (a.add f.offset) w := by
  simp [fieldPlace, sizeOf, typeInfo, hi, hz]

theorem VRels.mapOps {β : Emb} (hρ : ∀ x, operandOk x = true → VRel β (ρ x) (ρ' x)) : ∀ (l : List Operand), (l.all operandOk) = true → VRels β (l.map ρ) (l.map ρ')
  | [], _ => .nil
  | x :: l, h => by
    simp only [List.all_cons, Bool.and_eq_true] at h
    exact .cons (hρ x h.1) (VRels.mapOps hρ l h.2)

set_option maxHeartbeats 4000000 in
theorem evalOp_sim (h : HRel P N0 β H w) (hρ : ∀ x, operandOk x = true → VRel β (ρ x) (ρ' x)) {r : ARes} (e : evalOp P H ρ o = some r) : ResRel P N0 β w r ((execOp ρ' o).run P w) := by
  unfold evalOp at e
  split at e
  case isFalse => simp at e
  rename_i hok
  have hop : ∀ x ∈ o.op.operands, VRel β (ρ x) (ρ' x) := fun x hx => hρ x (operands_ok hok hx)
  split at e
  · -- move
    rename_i x ho
    simp at e; subst e
    have : execOp ρ' o = pure (.value (ρ' x)) := by unfold execOp; rw [ho]
    rw [this]
    exact ResRel.same h (hop x (by rw [ho]; simp [Op.operands]))
  · rename_i x ho
    simp at e; subst e
    have : execOp ρ' o = pure (.value (ρ' x)) := by unfold execOp; rw [ho]
    rw [this]
    exact ResRel.same h (hop x (by rw [ho]; simp [Op.operands]))
  · -- pick
    rename_i c a b ho
    have hx : execOp ρ' o = (do pure (.value (if ← asBool (ρ' c) then ρ' a else ρ' b))) := by unfold execOp; rw [ho]
    rw [hx]
    have hc := hop c (by rw [ho]; simp [Op.operands])
    split at e
    · rename_i hcv
      simp at e; subst e
      rw [hcv] at hc
      rw [hc.inv_bool]
      simp [asBool]
      exact ResRel.same h (hop a (by rw [ho]; simp [Op.operands]))
    · rename_i hcv
      simp at e; subst e
      rw [hcv] at hc
      rw [hc.inv_bool]
      simp [asBool]
      exact ResRel.same h (hop b (by rw [ho]; simp [Op.operands]))
    · simp at e
  · -- alloc
    rename_i t ho
    have hx : execOp ρ' o = (do pure (.value (← Instr.alloc t true (.tuple #[])))) := by unfold execOp; rw [ho]
    rw [hx]
    split at e
    · rename_i i hi
      split at e
      · rename_i z hz
        split at e
        · rename_i hc
          simp at e; subst e
          rw [Bool.and_eq_true] at hc
          have hcl : VRels β z.cells.toList z.cells.toList := (VRel.closed (β := β) hc.1).cells
          obtain ⟨le, hr, hf, hrow, _, _⟩ := h.pushRow (o := .box z.cells.toList t) (r := ⟨z.cells.toList, fun _ => 0, 0, t, false⟩) rfl rfl (fun _ => Nat.le_refl _) rfl (c := z.cells) hi
            (fun j v hj => by obtain ⟨v', h1, h2⟩ := VRels.get hcl hj; exact ⟨v', by rw [← Array.getElem?_toList]; exact h1, h2⟩) (w.alloc (.cells z.cells t)) ⟨rfl, rfl, rfl⟩
          have : (Instr.alloc t true (.tuple #[])).run P w = .ok (.pointer (some ⟨w.heap.size, 0, none⟩)) (w.alloc (.cells z.cells t)) := by
            simp [Instr.alloc, zeroValue, typeInfo, hi, hz, newVar, newRow]
          simp only [Sem.run_bind, this, Result.andThen_ok]
          exact ⟨_, le, hr, .pointer ⟨w.heap.size, 0, hrow, by simp⟩, hf⟩
        · simp at e
      · simp at e
    · simp at e
  · -- box
    rename_i t x ho
    have hx : execOp ρ' o = (do pure (.value (← Instr.box t (ρ' x)))) := by unfold execOp; rw [ho]
    rw [hx]
    split at e
    · rename_i i hi
      split at e
      · simp at e; subst e
        have hv := hop x (by rw [ho]; simp [Op.operands])
        have hcl := hv.cells
        obtain ⟨le, hr, hf, hrow, _, _⟩ := h.pushRow (o := .box (ρ x).cells.toList t) (r := ⟨(ρ x).cells.toList, fun _ => 0, 0, t, false⟩) rfl rfl (fun _ => Nat.le_refl _) rfl (c := (ρ' x).cells) hi
          (fun j v hj => by obtain ⟨v', h1, h2⟩ := VRels.get hcl hj; exact ⟨v', by rw [← Array.getElem?_toList]; exact h1, h2⟩) (w.alloc (.cells (ρ' x).cells t)) ⟨rfl, rfl, rfl⟩
        have : (Instr.box t (ρ' x)).run P w = .ok (.pointer (some ⟨w.heap.size, 0, none⟩)) (w.alloc (.cells (ρ' x).cells t)) := by
          simp [Instr.box, newVar, newRow]
        simp only [Sem.run_bind, this, Result.andThen_ok]
        exact ⟨_, le, hr, .pointer ⟨w.heap.size, 0, hrow, by simp⟩, hf⟩
      · simp at e
    · simp at e
  · -- build
    rename_i t parts ho
    have hx : execOp ρ' o = (do pure (.value (← Instr.build t (parts.map fun (i, x) => (i, ρ' x))))) := by unfold execOp; rw [ho]
    rw [hx]
    split at e
    · rename_i i hi
      split at e
      · rename_i z hz
        split at e
        · rename_i hc
          rw [Bool.and_eq_true] at hc
          split at e
          · rename_i cs hcs
            simp at e; subst e
            have hp : PRels β (parts.map fun (i, x) => (i, ρ x)).toList (parts.map fun (i, x) => (i, ρ' x)).toList := by
              simpa using PRels.map hρ parts.toList hc.2
            have hzc : VRels β z.cells.toList z.cells.toList := (VRel.closed (β := β) hc.1).cells
            have hb : ∃ cs', P.built t (parts.map fun (i, x) => (i, ρ' x)).toList = some cs' ∧ VRels β cs.toList cs'.toList := by
              unfold Program.built at hcs ⊢
              rw [hi] at hcs ⊢
              split at hcs
              · rename_i e1 e2; simp at e1; subst e1
                rw [hz] at hcs
                rename_i ee
                cases hie : P.info? ee with
                | none => rw [hie] at hcs; simp at hcs
                | some ie =>
                  rw [hie] at hcs
                  obtain ⟨out', h1, h2⟩ := fill_rel _ _ _ _ _ _ hp hzc hcs
                  exact ⟨out', by simp only [hz, hie, e2]; exact h1, h2⟩
              · rename_i fields e1 e2; simp at e1; subst e1
                rw [hz] at hcs
                split at hcs
                · rename_i z2 places hz2 hpl
                  obtain rfl : z = z2 := by simpa using hz2
                  obtain ⟨out', h1, h2⟩ := fill_rel _ _ _ _ _ _ hp hzc hcs
                  exact ⟨out', by simp only [hz, hpl, e2]; exact h1, h2⟩
                · simp at hcs
              · simp at hcs
            obtain ⟨cs', h1, h2⟩ := hb
            simp only [Sem.run_bind, run_build w t _ cs' h1, Result.andThen_ok]
            exact ResRel.same h (.agg h2)
          · simp at e
        · simp at e
      · simp at e
    · simp at e
  · -- buildSlice
    rename_i t len parts ho
    have hx : execOp ρ' o = (do pure (.value (← Instr.buildSlice t len (parts.map fun (i, x) => (i, ρ' x))))) := by unfold execOp; rw [ho]
    rw [hx]
    split at e
    · rename_i ee hu
      split at e
      · rename_i i hi
        split at e
        · rename_i z hz
          split at e
          · rename_i hc
            obtain ⟨hc1, hc2, hc3, hc4⟩ := hc
            split at e
            · rename_i cs hcs
              split at e
              · rename_i hcc
                simp at e; subst e
                have hp : PRels β (parts.map fun (i, x) => (i, ρ x)).toList (parts.map fun (i, x) => (i, ρ' x)).toList := by
                  simpa using PRels.map hρ parts.toList hc4
                have hzc : VRels β (initCells z len i.size).toList (initCells z len i.size).toList := by
                  rw [closedA_toList] at hc3; exact VRels.closed hc3
                obtain ⟨cs', h1, h2⟩ := fill_rel _ _ _ _ _ _ hp hzc hcs
                have hsz : cs'.size = cs.size := by have := VRels.length h2; simpa using this
                obtain ⟨le, hr, hf, hrow, hbs, hbe⟩ := h.pushRow (o := .arr cs.toList (List.replicate cs.size 0) 0 ee false) (r := ⟨cs.toList, fun j => (List.replicate cs.size 0).getD j 0, 0, ee, false⟩) rfl rfl
                  (fun j => getD_replicate_le _ _ _) rfl (c := cs') hi
                  (fun j v hj => by obtain ⟨v', h1, h2⟩ := VRels.get h2 hj; exact ⟨v', by rw [← Array.getElem?_toList]; exact h1, h2⟩) (w.alloc (.cells cs' ee)) ⟨rfl, rfl, rfl⟩
                have : (Instr.buildSlice t len (parts.map fun (i, x) => (i, ρ' x))).run P w = .ok (.slice (some ⟨w.heap.size, 0, none⟩) len len) (w.alloc (.cells cs' ee)) := by
                  unfold initCells at h1
                  simp [Instr.buildSlice, run_underlying hu, sizeOf, typeInfo, hi, zeroValue, hz, hc2, Nat.not_lt.2 hc1, newRow]
                  simp only [Array.toList_map] at h1
                  rw [h1]
                  rfl
                simp only [Sem.run_bind, this, Result.andThen_ok]
                refine ⟨_, le, hr, .slice ⟨w.heap.size, 0, hrow, by simp⟩ (Nat.le_refl _) (Nat.le_refl _) fun _ => ?_, hf⟩
                rw [hbs, hbe, hsz, hcc.2]; simp
              · simp at e
            · simp at e
          · split at e
            · rename_i hc
              simp at e; subst e
              obtain ⟨hl, hpz⟩ := hc
              subst hl
              obtain ⟨le, hr, hf, hrow, hbs, hbe⟩ := h.pushRow (o := .arr [] [] 0 ee false) (r := ⟨[], fun j => ([] : List Nat).getD j 0, 0, ee, false⟩) rfl rfl
                (fun j => by simp) rfl (c := #[]) hi (fun j v hj => by simp at hj) (w.alloc (.cells #[] ee)) ⟨rfl, rfl, rfl⟩
              have : (Instr.buildSlice t 0 (parts.map fun (i, x) => (i, ρ' x))).run P w = .ok (.slice (some ⟨w.heap.size, 0, none⟩) 0 0) (w.alloc (.cells #[] ee)) := by
                have hp0 : parts = #[] := by cases parts; simp at hpz; subst hpz; rfl
                subst hp0
                have e0 : ∀ (f : Nat → Value), (Array.range 0).map f = #[] := fun f => Array.eq_empty_of_size_eq_zero (by simp)
                simp [Instr.buildSlice, run_underlying hu, sizeOf, typeInfo, hi, newRow, Instr.fill]
                rw [e0]
              simp only [Sem.run_bind, this, Result.andThen_ok]
              exact ⟨_, le, hr, .sliceZ (by simp [Emb.addRow]), hf⟩
            · simp at e
        · simp at e
      · simp at e
    · simp at e
  · -- load
    rename_i t x ho
    have hx : execOp ρ' o = (do pure (.value (← Instr.loadAt t (ρ' x)))) := by unfold execOp; rw [ho]
    rw [hx]
    have hv := hop x (by rw [ho]; simp [Op.operands])
    split at e
    · rename_i a hxa
      rw [hxa] at hv
      obtain ⟨c, hc, ha⟩ := hv.inv_pointer
      rw [hc]
      split at e
      · rename_i v hl
        simp at e; subst e
        obtain ⟨v', h1, h2⟩ := h.loadV_run hl ha
        have : (Instr.loadAt t (.pointer (some c))).run P w = .ok v' w := by simp [Instr.loadAt, Instr.sureAddr, h1]
        simp only [Sem.run_bind, this, Result.andThen_ok]
        exact ResRel.same h h2
      · simp at e
    · simp at e
  · -- store
    rename_i t x y ho
    have hx : execOp ρ' o = (do Instr.storeAt t (ρ' x) (ρ' y); pure .skip) := by unfold execOp; rw [ho]
    rw [hx]
    have hv := hop x (by rw [ho]; simp [Op.operands])
    have hvy := hop y (by rw [ho]; simp [Op.operands])
    split at e
    · rename_i a hxa
      rw [hxa] at hv
      obtain ⟨c, hc, ha⟩ := hv.inv_pointer
      rw [hc]
      split at e
      · rename_i H' hl
        simp at e; subst e
        obtain ⟨w', h1, h2, h3⟩ := h.storeV_run hl ha hvy
        have : (Instr.storeAt t (.pointer (some c)) (ρ' y)).run P w = .ok () w' := by simp [Instr.storeAt, Instr.sureAddr, h1]
        simp only [Sem.run_bind, this, Result.andThen_ok]
        exact ⟨β, Emb.le.refl _, h2, h3⟩
      · simp at e
    · simp at e
  · -- nilCheck
    rename_i x ho
    have hv := hop x (by rw [ho]; simp [Op.operands])
    split at e
    · rename_i a hxa
      simp at e; subst e
      rw [hxa] at hv
      obtain ⟨c, hc, ha⟩ := hv.inv_pointer
      have hx : execOp ρ' o = pure (.value (.pointer (some c))) := by unfold execOp; rw [ho]; simp only [hc]
      rw [hx]
      exact ResRel.same h (.pointer ha)
    · rename_i f u v hxa
      simp at e; subst e
      rw [hxa] at hv
      obtain ⟨x', y', hc, h1, h2⟩ := hv.inv_func
      have hx : execOp ρ' o = pure (.value (.func (.func f) x' y')) := by unfold execOp; rw [ho]; simp only [hc]
      rw [hx]
      exact ResRel.same h (.func h1 h2)
    · simp at e
  · -- binOp
    rename_i op t x y t2 ho
    have hx : ∀ ρ'', execOp ρ'' o = (do pure (.value (← (do eqGuard op t x y (ρ'' x) (ρ'' y); binOp op t (ρ'' x) (ρ'' y))))) := by intro ρ''; unfold execOp; rw [ho]
    split at e
    · rename_i v hc
      simp at e; subst e
      refine closed_sim h hρ hok hc fun hh => ?_
      rw [hx, hx, hh x (by rw [ho]; simp [Op.operands]), hh y (by rw [ho]; simp [Op.operands])]
    · split at e
      · rename_i d hu
        split at e
        · rename_i b hn
          have hr := nilEq_run hu hn (hop x (by rw [ho]; simp [Op.operands])) (hop y (by rw [ho]; simp [Op.operands])) w
          rw [hx]
          split at e
          · simp at e; subst e
            simp only [Sem.run_bind, hr.guard, Result.andThen_ok, hr.eql]
            exact ResRel.same h (.closed rfl)
          · simp at e; subst e
            simp only [Sem.run_bind, hr.guard, Result.andThen_ok, hr.neq]
            exact ResRel.same h (.closed rfl)
          · simp at e
        · simp at e
      · simp at e
  · -- unOp
    rename_i op t x ho
    have hx : ∀ ρ'', execOp ρ'' o = (do pure (.value (← Op.unary op (ρ'' x)))) := by intro ρ''; unfold execOp; rw [ho]
    split at e
    · rename_i v hc
      simp at e; subst e
      refine closed_sim h hρ hok hc fun hh => ?_
      rw [hx, hx, hh x (by rw [ho]; simp [Op.operands])]
    · simp at e
  · -- convert
    rename_i t u x ho
    have hx : ∀ ρ'', execOp ρ'' o = (do pure (.value (← convert t u (ρ'' x)))) := by intro ρ''; unfold execOp; rw [ho]
    split at e
    · rename_i v hc
      simp at e; subst e
      refine closed_sim h hρ hok hc fun hh => ?_
      rw [hx, hx, hh x (by rw [ho]; simp [Op.operands])]
    · simp at e
  · -- index
    rename_i t x y ho
    have hx : ∀ ρ'', execOp ρ'' o = (do pure (.value (← Instr.index t (ρ'' x) (ρ'' y)))) := by intro ρ''; unfold execOp; rw [ho]
    split at e
    · rename_i v hc
      simp at e; subst e
      refine closed_sim h hρ hok hc fun hh => ?_
      rw [hx, hx, hh x (by rw [ho]; simp [Op.operands]), hh y (by rw [ho]; simp [Op.operands])]
    · simp at e
  · -- makeInterface
    rename_i t x ho
    have hx : execOp ρ' o = (do pure (.value (← Instr.makeInterface t (ρ' x)))) := by unfold execOp; rw [ho]
    rw [hx]
    split at e
    · rename_i hc
      simp at e; subst e
      simp only [Sem.run_bind, run_makeInterface _ _ _ hc, Result.andThen_ok]
      exact ResRel.same h (.iface (hop x (by rw [ho]; simp [Op.operands])))
    · simp at e
  · -- makeFunc
    rename_i f u v ho
    have hx : execOp ρ' o = (do pure (.value (← Instr.makeFunc (.func f) (u.map ρ') (v.map ρ')))) := by unfold execOp; rw [ho]
    rw [hx]
    simp at e; subst e
    rw [ho] at hok
    simp only [Op.operands, Array.all_append, Bool.and_eq_true] at hok
    have h1 := VRels.mapOps hρ u.toList (by simpa using hok.1)
    have h2 := VRels.mapOps hρ v.toList (by simpa using hok.2)
    simp only [Instr.makeFunc]
    exact ResRel.same h (.func (by simpa using h1) (by simpa using h2))
  · -- makeMap
    rename_i t ho
    have hx : execOp ρ' o = (do pure (.value (← Instr.makeMap t none))) := by unfold execOp; rw [ho]; rfl
    rw [hx]
    simp at e; subst e
    have hm0 : (Instr.makeMap t none).run P w = .ok (.map (some w.heap.size)) (w.alloc (.map #[] 0)) := rfl
    simp only [Sem.run_bind, hm0, Result.andThen_ok]
    obtain ⟨le, hr, hf, hm⟩ := h.pushMap (w.alloc (.map #[] 0)) ⟨rfl, rfl, rfl⟩
    exact ⟨_, le, hr, .map hm, hf⟩
  · -- slice
    rename_i t x lo hi ho
    have hx : ∀ ρ'', execOp ρ'' o = (do pure (.value (← Instr.sliceAt t (ρ'' x) (lo.map ρ'') (hi.map ρ'') none))) := by intro ρ''; unfold execOp; rw [ho]; rfl
    split at e
    · split at e
      · rename_i v hc
        simp at e; subst e
        refine closed_sim h hρ hok hc fun hh => ?_
        rw [hx, hx, hh x (by rw [ho]; simp [Op.operands]), opt_map_congr (f := ρ') (g := ρ) (fun z hz => hh z (by rw [ho]; simp [Op.operands, hz])),
          opt_map_congr (f := ρ') (g := ρ) (l := hi) (fun z hz => hh z (by rw [ho]; simp [Op.operands, hz]))]
      · simp at e
    · rename_i ee hu
      split at e
      · rename_i i hi'
        split at e
        · rename_i v hs
          simp at e; subst e
          rw [hx]
          have hv := hop x (by rw [ho]; simp [Op.operands])
          have hlo : ORel β (lo.map ρ) (lo.map ρ') := by
            cases lo with
            | none => trivial
            | some z => exact hop z (by rw [ho]; simp [Op.operands])
          have hhi : ORel β (hi.map ρ) (hi.map ρ') := by
            cases hi with
            | none => trivial
            | some z => exact hop z (by rw [ho]; simp [Op.operands])
          have hxs := sliceOf_run h hu hi' hs hv hlo hhi
          obtain ⟨v', h1, h2⟩ := hxs
          have h3 : (Instr.sliceAt t (ρ' x) (lo.map ρ') (hi.map ρ') none).run P w = .ok v' w := by
            unfold Instr.sliceAt
            rw [Sem.run_bind, run_underlying hu, Result.andThen_ok]
            exact h1
          simp only [Sem.run_bind, h3, Result.andThen_ok]
          exact ResRel.same h h2
        · simp at e
      · simp at e
    · simp at e
  · -- fieldAddr
    rename_i s x f ho
    have hx : execOp ρ' o = (do pure (.value (← Instr.fieldAt s (ρ' x) f))) := by unfold execOp; rw [ho]
    rw [hx]
    have hv := hop x (by rw [ho]; simp [Op.operands])
    split at e
    · rename_i fields a hu hxa
      rw [hxa] at hv
      obtain ⟨c, hc, ha⟩ := hv.inv_pointer
      rw [hc]
      split at e
      · rename_i fd hfd
        split at e
        · rename_i i hi
          split at e
          · simp at e
          · rename_i hz
            simp at e; subst e
            have h1 : (Instr.fieldAt s (.pointer (some c)) f).run P w = .ok (.pointer (some (c.add fd.offset))) w := by
              simp [Instr.fieldAt, run_underlying hu, hfd, Instr.sureAddr, run_fieldPlace hi hz]
            simp only [Sem.run_bind, h1, Result.andThen_ok]
            exact ResRel.same h (.pointer (ha.add _))
        · simp at e
      · simp at e
    · simp at e
  · -- field
    rename_i t x f ho
    have hx : execOp ρ' o = (do pure (.value (← Instr.field t (ρ' x) f))) := by unfold execOp; rw [ho]
    rw [hx]
    have hv := hop x (by rw [ho]; simp [Op.operands])
    split at e
    · rename_i fields cs hu hxa
      rw [hxa] at hv
      obtain ⟨cs', hc, hcs⟩ := hv.inv_agg
      rw [hc]
      split at e
      · rename_i fd hfd
        split at e
        · rename_i v hp
          simp at e; subst e
          obtain ⟨v', h1, h2⟩ := partOf_run hp hcs w
          have h3 : (Instr.field t (.agg cs') f).run P w = .ok v' w := by
            simp [Instr.field, run_underlying hu, hfd, asAgg, h1]
          simp only [Sem.run_bind, h3, Result.andThen_ok]
          exact ResRel.same h h2
        · simp at e
      · simp at e
    · simp at e
  · -- indexAddr
    rename_i t x ix ho
    have hx : execOp ρ' o = (do pure (.value (← Instr.indexAt t (ρ' x) (ρ' ix)))) := by unfold execOp; rw [ho]
    rw [hx]
    have hv := hop x (by rw [ho]; simp [Op.operands])
    have hvi := hop ix (by rw [ho]; simp [Op.operands])
    split at e
    · rename_i ee a len cp k n hu hxa hxi
      rw [hxa] at hv
      rw [hxi] at hvi
      rw [hvi.inv_int]
      obtain ⟨c, c', hc, hd⟩ := hv.inv_slice
      rw [hc]
      split at e
      · rename_i i hi
        split at e
        · rename_i hn
          simp at e; subst e
          rcases hd with ⟨ha, _⟩ | ⟨hl, _, _⟩
          · have h1 : (Instr.indexAt t (.slice (some c) len c') (.int k n)).run P w = .ok (.pointer (some (c.add (n.toNat * i.size)))) w := by
              simp [Instr.indexAt, run_underlying hu, asIntOf, hn.1, hn.2, sizeOf, typeInfo, hi]
            simp only [Sem.run_bind, h1, Result.andThen_ok]
            exact ResRel.same h (.pointer (ha.add _))
          · omega
        · simp at e
      · simp at e
    · simp at e
  · -- extract
    rename_i x ix ho
    have hx : execOp ρ' o = (do pure (.value (← Instr.extract (ρ' x) ix))) := by unfold execOp; rw [ho]
    rw [hx]
    have hv := hop x (by rw [ho]; simp [Op.operands])
    split at e
    · rename_i vs hxa
      rw [hxa] at hv
      obtain ⟨vs', hc, hvs⟩ := hv.inv_tuple
      rw [hc]
      split at e
      · rename_i v hp
        simp at e; subst e
        rw [← Array.getElem?_toList] at hp
        obtain ⟨v', h1, h2⟩ := VRels.get hvs hp
        rw [Array.getElem?_toList] at h1
        have h3 : (Instr.extract (.tuple vs') ix).run P w = .ok v' w := by simp [Instr.extract, h1]
        simp only [Sem.run_bind, h3, Result.andThen_ok]
        exact ResRel.same h h2
      · simp at e
    · simp at e
  · -- typeAssert
    rename_i x xt t ok ho
    have hx : execOp ρ' o = (do pure (.value (← Instr.typeAssert (ρ' x) xt t ok))) := by unfold execOp; rw [ho]
    rw [hx]
    have hv := hop x (by rw [ho]; simp [Op.operands])
    split at e
    · simp at e
    · rename_i d u v hni hu hxa
      rw [hxa] at hv
      obtain ⟨v', hc, hvr⟩ := hv.inv_iface
      rw [hc]
      split at e
      · rename_i hut
        simp at e; subst e
        subst hut
        have h3 : (Instr.typeAssert (.iface u v') xt u ok).run P w = .ok (if ok then .tuple #[v', .bool true] else v') w := by
          unfold Instr.typeAssert
          rw [Sem.run_bind, run_underlying hu, Result.andThen_ok]
          cases d <;> first | (exact (hni _ rfl).elim) | simp
        simp only [Sem.run_bind, h3, Result.andThen_ok]
        refine ResRel.same h ?_
        cases ok
        · simpa using hvr
        · simp only [if_true]; exact .tuple (.cons hvr (.cons (.closed rfl) .nil))
      · rename_i hut
        split at e
        · rename_i hk
          split at e
          · rename_i i hi
            split at e
            · rename_i z hz
              split at e
              · rename_i hcz
                simp at e; subst e
                have h3 : (Instr.typeAssert (.iface u v') xt t ok).run P w = .ok (.tuple #[z, .bool false]) w := by
                  unfold Instr.typeAssert
                  rw [Sem.run_bind, run_underlying hu, Result.andThen_ok]
                  subst hk
                  cases d <;> first | (exact (hni _ rfl).elim) | simp [hut, zeroValue, typeInfo, hi, hz]
                simp only [Sem.run_bind, h3, Result.andThen_ok]
                exact ResRel.same h (.tuple (.cons (.closed hcz) (.cons (.closed rfl) .nil)))
              · simp at e
            · simp at e
          · simp at e
        · simp at e
    · simp at e
  · -- panic
    rename_i x ho
    have hx : execOp ρ' o = (do pure (.value (← Instr.panic (ρ' x)))) := by unfold execOp; rw [ho]
    rw [hx]
    have hv := hop x (by rw [ho]; simp [Op.operands])
    split at e
    · rename_i t v hxa
      simp at e; subst e
      rw [hxa] at hv
      obtain ⟨v', hc, hvr⟩ := hv.inv_iface
      rw [hc]
      have h3 : (Instr.panic (.iface t v')).run P w = .halt (.panic (.iface t v')) w := by simp [Instr.panic, goPanic, Sem.run]
      simp only [Sem.run_bind, h3, Result.andThen_halt]
      exact ⟨β, Emb.le.refl _, h, .iface hvr, Fr.refl _ _⟩
    · simp at e
  · simp at e
end

end B
end Go.Proofs.Ytnjoaffnfjlcaaa
