/-
  Code: the abstract machine's run of a body, and that each world's run is related. Regions in the text's order; deferred calls are put down.
-/
import Derived.Test.YtnjoaffnfjlcaaaB10
import Derived.DefersIn
import Derived.LoopNIn
import Derived.RangeFuncRecord
namespace Go.Proofs.Ytnjoaffnfjlcaaa
namespace B
open Go

inductive AEnd where
  | ret (v : Value)
  | panic (v : Value)

inductive AExit where
  | normal
  | exit (id : Nat)
  | ret
  | panic (v : Value)

/-- A deferred call: the function, all its arguments. -/
structure ADef where
  f : FuncId
  args : List Value

structure St where
  tmps : List Value
  dfs : List ADef
  H : AHeap

abbrev CallT := FuncId → List Value → AHeap → Option (AEnd × AHeap)

def putT (dst : Option Nat) (v : Value) (tmps : List Value) : List Value :=
  match dst with
  | some d => tmps.set d v
  | none => tmps

def boolOf : Value → Option Bool
  | .bool b => some b
  | _ => none

def yieldA (ops : List Oper) (tmps : List Value) (j : Nat) : Option Bool :=
  match ops[j]? with
  | some o => match o.dst with
    | some d => match tmps[d]? with
      | some v => boolOf v
      | none => none
    | none => none
  | none => none

def wantedA (ops : List Oper) (tmps : List Value) (o : Oper) : Bool :=
  match o.guard with
  | none => true
  | some (j, want) => yieldA ops tmps j == some want

/-- A deferred call put down. -/
def deferOf (P : Program) (ρ : Operand → Value) (c : Call) : Option ADef :=
  match c.callee with
  | .value f => match ρ f with
    | .func (.func g) first captured => match P.funcs[g]? with
      | some fn => if Func.enters fn then some ⟨g, first.toList ++ c.args.toList.map ρ ++ captured.toList⟩ else none
      | none => none
    | _ => none
  | _ => none

def evalIdx (P : Program) (call : CallT) (rnd : Bool) (ops : List Oper) : List Nat → St → Option (AExit × St)
  | [], s => some (.normal, s)
  | i :: rest, s => match ops[i]? with
    | none => evalIdx P call rnd ops rest s
    | some o =>
      if wantedA ops s.tmps o then
        match o.op with
        | .defer c => if rnd = false ∧ o.op.operands.all operandOk = true then match deferOf P (aev s.tmps) c with
            | some d => evalIdx P call rnd ops rest { s with tmps := putT o.dst undef s.tmps, dfs := d :: s.dfs }
            | none => none
          else none
        | _ => match evalAny P s.H (aev s.tmps) o with
          | some (.val v H) => evalIdx P call rnd ops rest { s with tmps := putT o.dst v s.tmps, H := H }
          | some (.skip H) => evalIdx P call rnd ops rest { s with tmps := putT o.dst undef s.tmps, H := H }
          | some (.enter f args H) => match call f args H with
            | some (.ret v, H') => evalIdx P call rnd ops rest { s with tmps := putT o.dst v s.tmps, H := H' }
            | some (.panic v, H') => some (.panic v, { s with H := H' })
            | none => none
          | some (.panic v H) => some (.panic v, { s with H := H })
          | _ => none
      else evalIdx P call rnd ops rest { s with tmps := putT o.dst undef s.tmps }

/-! ### What relates them -/
structure DRel (P : Program) (β : Emb) (d : ADef) (c : Deferred) : Prop where
  ex : ∃ cap, c.target = .fn (.func d.f) cap ∧ VRels β d.args (c.args ++ cap).toList
  en : ∃ fn, P.funcs[d.f]? = some fn ∧ Func.enters fn = true

inductive DRels (P : Program) (N0 : Fz) (β : Emb) (w : World) : List ADef → List Deferred → Prop
  | nil : DRels P N0 β w [] []
  | cons {d : ADef} {c : Deferred} {l : List ADef} {l' : List Deferred} (h : DRel P β d c) (g : DRels P N0 β w l l') : DRels P N0 β w (d :: l) (c :: l')
  | mark {r : Nat} {l : List ADef} {l' : List Deferred} (h1 : N0.low r) (h2 : N0.b ≤ r) (h3 : w.heap[r]? = some (.deferred (some []))) (h4 : ∀ d ∈ l', d.target ≠ .collected r) (g : DRels P N0 β w l l') : DRels P N0 β w l ({ target := .collected r, args := #[] } :: l')

theorem DRels.monoU {P : Program} {N0 : Fz} {β γ : Emb} {w w' : World} (le : Emb.leU β γ) (fr : Fr N0 w w') {l : List ADef} {l' : List Deferred} (h : DRels P N0 β w l l') : DRels P N0 γ w' l l' := by
  induction h with
  | nil => exact .nil
  | cons h _ ih => exact .cons ⟨by obtain ⟨cap, a, b⟩ := h.ex; exact ⟨cap, a, VRels.monoU le b⟩, h.en⟩ ih
  | mark h1 h2 h3 h4 _ ih => exact .mark h1 h2 (by rw [fr.low _ h1]; exact h3) h4 ih

theorem DRels.marks_lt {P : Program} {N0 : Fz} {β : Emb} {w : World} {l : List ADef} {l' : List Deferred} (h : DRels P N0 β w l l') : ∀ d ∈ l', ∀ r, d.target = .collected r → r < w.heap.size := by
  induction h with
  | nil => intro d hd; simp at hd
  | cons h _ ih =>
    intro d hd r hr
    rcases List.mem_cons.1 hd with rfl | hd
    · obtain ⟨cap, a, _⟩ := h.ex; rw [a] at hr; simp at hr
    · exact ih d hd r hr
  | mark h1 h2 h3 h4 _ ih =>
    intro d hd r hr
    rcases List.mem_cons.1 hd with rfl | hd
    · simp only [Target.collected.injEq] at hr; subst hr; exact (Array.getElem?_eq_some_iff.1 h3).1
    · exact ih d hd r hr

theorem DRels.put {P : Program} {N0 : Fz} {β : Emb} {w : World} {l : List ADef} {l' : List Deferred} (h : DRels P N0 β w l l') {r : Nat} {o : Obj} (hr : ∀ d ∈ l', d.target ≠ .collected r) : DRels P N0 β (w.putObj r o) l l' := by
  induction h with
  | nil => exact .nil
  | cons h _ ih => exact .cons h (ih fun d hd => hr d (List.mem_cons_of_mem _ hd))
  | mark h1 h2 h3 h4 _ ih =>
    refine .mark h1 h2 ?_ h4 (ih fun d hd => hr d (List.mem_cons_of_mem _ hd))
    rw [World.putObj_heap_other]; exact h3
    rintro rfl
    exact hr _ (List.mem_cons_self ..) rfl

theorem DRels.mono {P : Program} {N0 : Fz} {β γ : Emb} {w w' : World} (le : Emb.le β γ) (fr : Fr N0 w w') {l : List ADef} {l' : List Deferred} (h : DRels P N0 β w l l') : DRels P N0 γ w' l l' := h.monoU le.u fr

structure SRel (P : Program) (N0 : Fz) (β : Emb) (s : St) (a : Act) (w : World) : Prop where
  tmps : VRels β s.tmps a.tmps.toList
  dfs : DRels P N0 β w s.dfs a.defers
  heap : HRel P N0 β s.H w

/-- At an end; behind a panic out of a region that draws nothing is said of the slots. -/
structure SRelX (P : Program) (N0 : Fz) (β : Emb) (x : AExit) (s : St) (a : Act) (w : World) : Prop where
  tmps : VRels β s.tmps a.tmps.toList ∨ (s.tmps = [] ∧ ∃ v, x = .panic v)
  dfs : DRels P N0 β w s.dfs a.defers
  heap : HRel P N0 β s.H w

theorem SRel.x {P : Program} {N0 : Fz} {β : Emb} {s : St} {a : Act} {w : World} (h : SRel P N0 β s a w) (x : AExit) : SRelX P N0 β x s a w := ⟨.inl h.tmps, h.dfs, h.heap⟩

def EndRel (γ : Emb) : AEnd → Ending → Prop
  | .ret v, .returned v' => VRel γ v v'
  | .panic v, .panicked chain => ∃ v', chain = [{ v := v', recovered := false }] ∧ VRel γ v v'
  | _, _ => False

def XRel (γ : Emb) : AExit → Exit → Prop
  | .normal, .normal => True
  | .exit i, .exit j => i = j
  | .ret, .ret => True
  | .panic v, .panic chain => ∃ v', chain = [{ v := v', recovered := false }] ∧ VRel γ v v'
  | _, _ => False

def OutRel (P : Program) (N0 : Fz) (β : Emb) (w : World) (x : AExit) (s : St) : Exit → Act → World → Prop :=
  fun e a' w' => ∃ γ, Emb.le β γ ∧ SRelX P N0 γ x s a' w' ∧ Fr N0 w w' ∧ XRel γ x e

theorem OutRel.trans {P : Program} {N0 : Fz} {β γ : Emb} {w w1 : World} {x : AExit} {s : St} (le : Emb.le β γ) (hf : Fr N0 w w1) {e : Exit} {a : Act} {w' : World} (h : OutRel P N0 γ w1 x s e a w') : OutRel P N0 β w x s e a w' := by
  obtain ⟨δ, h1, h2, h3, h4⟩ := h
  exact ⟨δ, le.trans h1, h2, hf.trans h3, h4⟩

/-- A call's answer holds of every world. -/
def CallRel (P : Program) (N0 : Fz) (β : Emb) (w : World) (e : AEnd) (H : AHeap) : Ending → World → Prop :=
  fun e' w' => ∃ γ, Emb.le β γ ∧ HRel P N0 γ H w' ∧ EndRel γ e e' ∧ Fr N0 w w'

/-- The fence that lets everything in; in a round of a range over a function, or not. -/
def WF (ro : Option Nat) : Fence := { Fence.wide with round := ro }

/-- What a call comes to ends so. -/
def NextIn (F : Fence) (n : Nat) (P : Program) (nx : Next) (w : World) (R : Ending → World → Prop) : Prop :=
  match nx with
  | .enter f args => CallsIn F n P f args w R
  | .round l f tmps assign body => RoundIn F n P l f tmps assign body w R
  | _ => False

def CallOK (P : Program) (call : CallT) : Prop :=
  ∀ (f : FuncId) (args : List Value) (H : AHeap) (e : AEnd) (H' : AHeap), call f args H = some (e, H') → AHeap.le H H' ∧ ∀ (N0 : Fz) (β : Emb) (w : World) (nx : Next), HRel P N0 β H w → Comes P β w f args nx →
    ∀ (ro : Option Nat) (n : Nat), NextIn (WF ro) n P nx w (CallRel P N0 β w e H')

theorem upon_next {ro : Option Nat} {n : Nat} {P : Program} {o : Oper} {a : Act} {next : Act → World → Prop} {Q : Exit → Act → World → Prop} {nx : Next} {w : World} {R : Ending → World → Prop} (h : NextIn (WF ro) (n - 1) P nx w R)
    (hr : ∀ e w', R e w' → match e with
      | .returned v => next (a.put o.dst v) w'
      | .panicked chain => Q (.panic chain) a w'
      | .outgrown => LetsOut Q) : o.uponIn (WF ro) n P a next Q (.ok nx w) := by
  unfold NextIn at h
  split at h
  · exact ⟨fun hx => by simp [WF, Fence.wide] at hx, h.mono fun e w' he => by have := hr e w' he; cases e <;> exact this⟩
  · exact ⟨fun hx => by simp [WF, Fence.wide] at hx, h.mono fun e w' he => by have := hr e w' he; cases e <;> exact this⟩
  · exact h.elim

theorem callsIn_WF {ro : Option Nat} {n : Nat} {P : Program} {f : FuncId} {args : Array Value} {w : World} {R : Ending → World → Prop} (h : Calls P f args w R) : CallsIn (WF ro) n P f args w R := by
  have h' := (callsIn_wide (n := n)).2 h
  exact ⟨trivial, h'.2⟩

section
variable {P : Program} {N0 : Fz} {β : Emb} {w : World}

theorem boolOf_rel {v v' : Value} (h : VRel β v v') : boolOf v' = boolOf v := by cases h <;> rfl

theorem yieldA_rel {tmps : List Value} {a : Act} (h : VRels β tmps a.tmps.toList) (ops : Array Oper) (j : Nat) : yielded ops a.tmps j = yieldA ops.toList tmps j := by
  unfold yielded yieldA
  rw [Array.getElem?_toList]
  cases ho : ops[j]? with
  | none => rfl
  | some o =>
    simp only [Option.bind_some]
    cases hd : o.dst with
    | none => rfl
    | some d =>
      simp only [Option.bind_some]
      rcases Nat.lt_or_ge d tmps.length with hl | hl
      · obtain ⟨v', h1, h2⟩ := VRels.get h (List.getElem?_eq_getElem hl)
        rw [List.getElem?_eq_getElem hl]
        rw [Array.getElem?_toList] at h1
        rw [h1]
        have := boolOf_rel h2
        dsimp only
        rw [← this]
        cases v' <;> rfl
      · have hl' : a.tmps.size ≤ d := by have := VRels.length h; simp at this; omega
        rw [List.getElem?_eq_none hl, Array.getElem?_eq_none hl']

theorem wantedA_rel {tmps : List Value} {a : Act} (h : VRels β tmps a.tmps.toList) (ops : Array Oper) (o : Oper) : Region.wanted o (yielded ops a.tmps) = wantedA ops.toList tmps o := by
  unfold Region.wanted wantedA
  cases o.guard with
  | none => rfl
  | some p => obtain ⟨j, want⟩ := p; simp only [yieldA_rel h]

theorem putT_rel {tmps : List Value} {a : Act} (h : VRels β tmps a.tmps.toList) (dst : Option Nat) {v v' : Value} (hv : VRel β v v') : VRels β (putT dst v tmps) (a.put dst v').tmps.toList := by
  unfold putT Act.put
  cases dst with
  | none => exact h
  | some d => simp only [Array.toList_setIfInBounds]; exact VRels.set h d hv

theorem put_defers (a : Act) (dst : Option Nat) (v : Value) : (a.put dst v).defers = a.defers := by cases dst <;> rfl

theorem wf_about {ro : Option Nat} {o : Oper} {a : Act} {w : World} : ∀ f, o.about P w a.eval = some f → (WF ro).fn f := fun _ _ => trivial

theorem deferOf_run {ρ ρ' : Operand → Value} {c : Call} {d : ADef} (hρ : ∀ x, operandOk x = true → VRel β (ρ x) (ρ' x)) (hok : c.operands.all operandOk = true) (h : deferOf P ρ c = some d) (ty : TypeId) (w : World) :
    ∃ dc, (resolve ρ' c ty).run P w = .ok dc w ∧ DRel P β d dc := by
  unfold deferOf at h
  split at h
  case h_2 => simp at h
  rename_i f hc
  split at h
  case h_2 => simp at h
  rename_i g first captured hf
  split at h
  case h_2 => simp at h
  rename_i fn hfn
  split at h
  case isFalse => simp at h
  rename_i hen
  simp at h; subst h
  have hv := hρ f (operands_ok hok (by simp [Call.operands, hc]))
  rw [hf] at hv
  obtain ⟨first', captured', hf', h1, h2⟩ := hv.inv_func
  have hargs : VRels β (c.args.toList.map ρ) (c.args.toList.map ρ') := VRels.mapOps hρ _ (by
    rw [List.all_eq_true]; intro x hx'; exact operands_ok hok (by simp only [Call.operands, Array.mem_append]; exact .inr (by simpa using hx')))
  refine ⟨{ target := .fn (.func g) captured', args := first' ++ c.args.map ρ' }, ?_, ⟨captured', rfl, ?_⟩, fn, hfn, hen⟩
  · simp only [resolve, hc, hf', Deferred.ofValue, Sem.run_pure]
  · have := VRels.append (VRels.append h1 hargs) h2
    simpa [List.append_assoc] using this

theorem ResRel.inv_val {v : Value} {H : AHeap} {R : Result Next} (h : ResRel P N0 β w (.val v H) R) : ∃ v' w' γ, R = .ok (.value v') w' ∧ Emb.le β γ ∧ HRel P N0 γ H w' ∧ VRel γ v v' ∧ Fr N0 w w' := by
  cases R with
  | halt x w' => exact h.elim
  | ok nx w' => cases nx <;> first | exact h.elim | skip
                obtain ⟨γ, a, b, c, d⟩ := h
                exact ⟨_, _, γ, rfl, a, b, c, d⟩

theorem ResRel.inv_skip {H : AHeap} {R : Result Next} (h : ResRel P N0 β w (.skip H) R) : ∃ w' γ, R = .ok .skip w' ∧ Emb.le β γ ∧ HRel P N0 γ H w' ∧ Fr N0 w w' := by
  cases R with
  | halt x w' => exact h.elim
  | ok nx w' => cases nx <;> first | exact h.elim | skip
                obtain ⟨γ, a, b, c⟩ := h
                exact ⟨_, γ, rfl, a, b, c⟩

theorem ResRel.inv_enter {f : FuncId} {args : List Value} {H : AHeap} {R : Result Next} (h : ResRel P N0 β w (.enter f args H) R) :
    ∃ nx w' γ, R = .ok nx w' ∧ Emb.le β γ ∧ HRel P N0 γ H w' ∧ Comes P γ w' f args nx ∧ Fr N0 w w' := by
  cases R with
  | halt x w' => exact h.elim
  | ok nx w' =>
    obtain ⟨γ, a, b, c, d⟩ := h
    exact ⟨_, _, γ, rfl, a, b, c, d⟩

theorem ResRel.inv_panic {v : Value} {H : AHeap} {R : Result Next} (h : ResRel P N0 β w (.panic v H) R) : ∃ v' w' γ, R = .halt (.panic v') w' ∧ Emb.le β γ ∧ HRel P N0 γ H w' ∧ VRel γ v v' ∧ Fr N0 w w' := by
  cases R with
  | ok nx w' => cases nx <;> exact h.elim
  | halt x w' => cases x <;> first | exact h.elim | skip
                 obtain ⟨γ, a, b, c, d⟩ := h
                 exact ⟨_, _, γ, rfl, a, b, c, d⟩

theorem evalIdx_sound {call : CallT} (hcall : CallOK P call) {ro : Option Nat} {n : Nat} {ops : Array Oper} {x : AExit} {s' : St} : ∀ (is : List Nat) (s : St) (β : Emb) (a : Act) (w : World),
    evalIdx P call ro.isSome ops.toList is s = some (x, s') → SRel P N0 β s a w → ∀ Q : Exit → Act → World → Prop, (∀ e a' w', OutRel P N0 β w x s' e a' w' → Q e a' w') → wpOpsIn (WF ro) n P ops Q is a w := by
  intro is
  induction is with
  | nil =>
    intro s β a w he hs Q hQ
    simp only [evalIdx, Option.some.injEq, Prod.mk.injEq] at he
    obtain ⟨rfl, rfl⟩ := he
    exact hQ _ _ _ ⟨β, Emb.le.refl _, hs.x _, Fr.refl _ _, trivial⟩
  | cons i rest ih =>
    intro s β a w he hs Q hQ
    unfold evalIdx at he
    rw [Array.getElem?_toList] at he
    unfold wpOpsIn
    cases ho : ops[i]? with
    | none => rw [ho] at he; exact ih s β a w he hs Q hQ
    | some o =>
      rw [ho] at he
      dsimp only at he ⊢
      rw [wantedA_rel hs.tmps]
      split at he
      · rename_i hw
        rw [if_pos hw]
        have hρ : ∀ x, operandOk x = true → VRel β (aev s.tmps x) (a.eval x) := fun x hx => aev_rel hs.tmps hx
        split at he
        · -- a deferred call
          rename_i c hop
          split at he
          case isFalse => simp at he
          rename_i hcond
          obtain ⟨hrnd, hok⟩ := hcond
          have hro : ro = none := by cases ro <;> simp_all
          subst hro
          split at he
          case h_2 => simp at he
          rename_i d hd
          rw [hop] at hok
          obtain ⟨dc, h1, h2⟩ := deferOf_run hρ hok hd o.type w
          refine ⟨wf_about, ?_⟩
          have hrun : (o.semAt (WF none).round a.eval).run P w = .ok (.defer dc) w := by
            show (execOp a.eval o).run P w = _
            unfold execOp; rw [hop]
            simp only [Sem.run_bind, h1, Result.andThen_ok, Sem.run_pure]
          rw [hrun]
          show wpOpsIn _ _ _ _ _ _ _ _
          refine ih _ β _ w he ⟨?_, ?_, hs.heap⟩ Q hQ
          · exact putT_rel (a := { a with defers := dc :: a.defers }) hs.tmps o.dst (.closed rfl)
          · rw [put_defers]; exact .cons h2 hs.dfs
        · rename_i hnd
          have hsem : (o.semAt (WF ro).round a.eval) = execOp a.eval o := Oper.semAt_eq _ _ _ hnd
          refine ⟨wf_about, ?_⟩
          rw [hsem]
          split at he
          · rename_i v H hev
            obtain ⟨v', w', γ, hR, le, hh, hv, hf⟩ := (evalAny_sim hs.heap hρ hev).inv_val
            rw [hR]
            show wpOpsIn _ _ _ _ _ _ _ _
            refine ih _ γ _ w' he ⟨putT_rel (hs.tmps.mono le) o.dst hv, by rw [put_defers]; exact hs.dfs.mono le hf, hh⟩ Q fun e' a' w'' ho' => hQ _ _ _ (ho'.trans le hf)
          · rename_i H hev
            obtain ⟨w', γ, hR, le, hh, hf⟩ := (evalAny_sim hs.heap hρ hev).inv_skip
            rw [hR]
            show wpOpsIn _ _ _ _ _ _ _ _
            refine ih _ γ _ w' he ⟨putT_rel (hs.tmps.mono le) o.dst (.closed rfl), by rw [put_defers]; exact hs.dfs.mono le hf, hh⟩ Q fun e' a' w'' ho' => hQ _ _ _ (ho'.trans le hf)
          · rename_i f args H hev
            obtain ⟨nx, w', γ, hR, le, hh, hv, hf⟩ := (evalAny_sim hs.heap hρ hev).inv_enter
            rw [hR]
            split at he
            · rename_i v H' hc
              refine upon_next ((hcall _ _ _ _ _ hc).2 N0 γ w' nx hh hv ro _) ?_
              intro e' w'' hcr
              obtain ⟨δ, le2, hh2, he2, hf2⟩ := hcr
              cases e' with
              | returned v' =>
                show wpOpsIn _ _ _ _ _ _ _ _
                refine ih _ δ _ w'' he ⟨putT_rel (hs.tmps.mono (le.trans le2)) o.dst he2, by rw [put_defers]; exact hs.dfs.mono (le.trans le2) (hf.trans hf2), hh2⟩ Q fun e'' a' w3 ho' => hQ _ _ _ (ho'.trans (le.trans le2) (hf.trans hf2))
              | panicked chain => exact he2.elim
              | outgrown => exact he2.elim
            · rename_i v H' hc
              simp only [Option.some.injEq, Prod.mk.injEq] at he
              obtain ⟨rfl, rfl⟩ := he
              refine upon_next ((hcall _ _ _ _ _ hc).2 N0 γ w' nx hh hv ro _) ?_
              intro e' w'' hcr
              obtain ⟨δ, le2, hh2, he2, hf2⟩ := hcr
              cases e' with
              | returned v' => exact he2.elim
              | panicked chain => exact hQ _ _ _ ⟨δ, le.trans le2, ⟨.inl (hs.tmps.mono (le.trans le2)), hs.dfs.mono (le.trans le2) (hf.trans hf2), hh2⟩, hf.trans hf2, he2⟩
              | outgrown => exact he2.elim
            · simp at he
          · rename_i v H hev
            obtain ⟨v', w', γ, hR, le, hh, hv, hf⟩ := (evalAny_sim hs.heap hρ hev).inv_panic
            rw [hR]
            simp only [Option.some.injEq, Prod.mk.injEq] at he
            obtain ⟨rfl, rfl⟩ := he
            exact hQ _ _ _ ⟨γ, le, ⟨.inl (hs.tmps.mono le), hs.dfs.mono le hf, hh⟩, hf, v', rfl, hv⟩
          · simp at he
      · rename_i hw
        rw [if_neg hw]
        exact ⟨wf_about, ih _ β _ w he ⟨putT_rel hs.tmps o.dst (.closed rfl), by rw [put_defers]; exact hs.dfs, hs.heap⟩ Q hQ⟩

end

end B
end Go.Proofs.Ytnjoaffnfjlcaaa
