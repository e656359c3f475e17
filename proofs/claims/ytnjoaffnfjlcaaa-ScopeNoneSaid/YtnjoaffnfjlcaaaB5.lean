/-
  One operation that is no call: the abstract machine's answer, and that every world's run gives a related one.
-/
import Derived.Test.YtnjoaffnfjlcaaaB4
namespace Go.Proofs.Ytnjoaffnfjlcaaa
namespace B
open Go

/-! ### Programs of the model that touch nothing -/
def pureRun {α : Type} (P : Program) : Sem α → Option α
  | .pure a => some a
  | .program k => pureRun P (k P)
  | .mark _ k => pureRun P k
  | _ => none

theorem pureRun_run {α : Type} {P : Program} : ∀ {s : Sem α} {a : α}, pureRun P s = some a → ∀ w, s.run P w = .ok a w
  | .pure a, b, h, w => by simp only [pureRun, Option.some.injEq] at h; subst h; rfl
  | .program k, b, h, w => by simp only [pureRun] at h; exact pureRun_run (s := k P) h w
  | .mark _ k, b, h, w => by simp only [pureRun] at h; exact pureRun_run (s := k) h w
  | .load .., _, h, _ => by simp [pureRun] at h
  | .store .., _, h, _ => by simp [pureRun] at h
  | .new .., _, h, _ => by simp [pureRun] at h
  | .shape .., _, h, _ => by simp [pureRun] at h
  | .freeze .., _, h, _ => by simp [pureRun] at h
  | .frozen .., _, h, _ => by simp [pureRun] at h
  | .getObj .., _, h, _ => by simp [pureRun] at h
  | .setObj .., _, h, _ => by simp [pureRun] at h
  | .choose .., _, h, _ => by simp [pureRun] at h
  | .sys .., _, h, _ => by simp [pureRun] at h
  | .halt _, _, h, _ => by simp [pureRun] at h

/-! ### Operands -/
def operandOk : Operand → Bool
  | .const v => closedV v
  | .global _ => false
  | _ => true

def aev (tmps : List Value) : Operand → Value
  | .tmp t => tmps.getD t undef
  | .const v => v
  | .global g => .pointer (some ⟨g, 0, none⟩)
  | .func f => .func (.func f) #[] #[]

theorem aev_rel {β : Emb} {tmps : List Value} {a : Act} (h : VRels β tmps a.tmps.toList) {x : Operand} (hx : operandOk x = true) : VRel β (aev tmps x) (a.eval x) := by
  cases x with
  | tmp t =>
    simp only [aev, Act.eval]
    rcases Nat.lt_or_ge t tmps.length with hl | hl
    · obtain ⟨v', h1, h2⟩ := VRels.get h (List.getElem?_eq_getElem hl)
      rw [List.getD_eq_getElem?_getD, List.getElem?_eq_getElem hl]
      rw [Array.getElem?_toList] at h1
      simp only [Array.getD_eq_getD_getElem?, h1, Option.getD_some]
      exact h2
    · have hl' : a.tmps.size ≤ t := by have := VRels.length h; simp at this; omega
      rw [List.getD_eq_getElem?_getD, List.getElem?_eq_none hl]
      simp only [Array.getD_eq_getD_getElem?, Array.getElem?_eq_none hl', Option.getD_none]
      exact .closed rfl
  | const v => exact .closed hx
  | global g => simp [operandOk] at hx
  | func f => exact .closed rfl

inductive ARes where
  | val (v : Value) (H : AHeap)
  | skip (H : AHeap)
  | enter (f : FuncId) (args : List Value) (H : AHeap)
  | defer (d : Value) (args : List Value) (H : AHeap)
  | panic (v : Value) (H : AHeap)

/-- What a call comes to: a function, or a round of a range over a function. -/
inductive Comes (P : Program) (β : Emb) (w : World) (f : FuncId) (args : List Value) : Next → Prop
  | fn {fn : Func} {args' : Array Value} (hf : P.funcs[f]? = some fn) (h : VRels β args args'.toList) : Comes P β w f args (.enter f args')
  | round {K l : Nat} {r : Loop} {args' : Array Value} (hf : f = P.funcs.size + K) (hl : β.loop K = some l) (hw : w.heap[l]? = some (.loop r)) (hs : args'.size = r.params.size) (h : VRels β args args'.toList) :
      Comes P β w f args (.round l r.fn ((r.params.zip args').foldl (fun tmps (t, a) => tmps.setIfInBounds t a) r.tmps) r.assign r.body)

def ResRel (P : Program) (N0 : Fz) (β : Emb) (w : World) : ARes → Result Next → Prop
  | .val v H, .ok (.value v') w' => ∃ γ, Emb.le β γ ∧ HRel P N0 γ H w' ∧ VRel γ v v' ∧ Fr N0 w w'
  | .skip H, .ok .skip w' => ∃ γ, Emb.le β γ ∧ HRel P N0 γ H w' ∧ Fr N0 w w'
  | .enter f args H, .ok nx w' => ∃ γ, Emb.le β γ ∧ HRel P N0 γ H w' ∧ Comes P γ w' f args nx ∧ Fr N0 w w'
  | .panic v H, .halt (.panic v') w' => ∃ γ, Emb.le β γ ∧ HRel P N0 γ H w' ∧ VRel γ v v' ∧ Fr N0 w w'
  | _, _ => False

section
variable {P : Program} {N0 : Fz} {β : Emb} {H : AHeap} {w : World}

theorem ResRel.same (h : HRel P N0 β H w) {v v' : Value} (hv : VRel β v v') : ResRel P N0 β w (.val v H) (.ok (.value v') w) :=
  ⟨β, Emb.le.refl _, h, hv, Fr.refl _ _⟩

/-! ### Loads and stores of a type -/
def aggT (P : Program) (t : TypeId) : Option Bool :=
  match P.underlying t with
  | some (.struct _) => some true
  | some (.array _ _) => some true
  | some _ => some false
  | none => none

theorem isAgg_run {t : TypeId} {b : Bool} (h : aggT P t = some b) (w : World) : (isAgg t).run P w = .ok b w := by
  unfold aggT at h
  unfold isAgg
  cases hu : P.underlying t with
  | none => rw [hu] at h; simp at h
  | some d =>
    rw [hu] at h
    rw [Sem.run_bind, run_underlying hu, Result.andThen_ok]
    cases d <;> simp at h <;> subst h <;> rfl

def AHeap.loadV (H : AHeap) (P : Program) (t : TypeId) (a : Addr) : Option Value :=
  match aggT P t with
  | some true => match P.info? t with
    | some i => match H.readN a i.size with
      | some vs => some (.agg vs.toArray)
      | none => none
    | none => none
  | some false => H.cell a
  | none => none

theorem HRel.loadV_run (h : HRel P N0 β H w) {t : TypeId} {a c : Addr} {v : Value} (hv : H.loadV P t a = some v) (ha : ARel β a c) :
    ∃ v', (loadVar t c).run P w = .ok v' w ∧ VRel β v v' := by
  unfold AHeap.loadV at hv
  cases hb : aggT P t with
  | none => rw [hb] at hv; simp at hv
  | some b =>
    rw [hb] at hv
    unfold loadVar
    cases b with
    | true =>
      dsimp only at hv
      cases hi : P.info? t with
      | none => rw [hi] at hv; simp at hv
      | some i =>
        rw [hi] at hv
        dsimp only at hv
        cases hr : H.readN a i.size with
        | none => rw [hr] at hv; simp at hv
        | some vs =>
          rw [hr] at hv
          simp at hv; subst hv
          obtain ⟨vs', h1, h2⟩ := h.loadCells_run ha hr
          refine ⟨.agg vs'.toArray, ?_, .agg (by simpa using h2)⟩
          simp [isAgg_run hb, sizeOf, typeInfo, hi, h1]
    | false =>
      obtain ⟨v', h1, h2⟩ := h.cell_run hv ha
      refine ⟨v', ?_, h2⟩
      rw [Sem.run_bind, isAgg_run hb, Result.andThen_ok, if_neg (by simp)]
      exact load_run h1

def AHeap.storeV (H : AHeap) (P : Program) (t : TypeId) (a : Addr) (v : Value) : Option AHeap :=
  match P.info? t with
  | some i => if v.cells.size = i.size then H.setN a v.cells.toList else none
  | none => none

theorem HRel.storeV_run (h : HRel P N0 β H w) {t : TypeId} {a c : Addr} {v v' : Value} {H' : AHeap} (hs : H.storeV P t a v = some H') (ha : ARel β a c) (hv : VRel β v v') :
    ∃ w', (storeVar t c v').run P w = .ok () w' ∧ HRel P N0 β H' w' ∧ Fr N0 w w' := by
  unfold AHeap.storeV at hs
  cases hi : P.info? t with
  | none => rw [hi] at hs; simp at hs
  | some i =>
    rw [hi] at hs
    dsimp only at hs
    split at hs
    · rename_i hsz
      have hcl := hv.cells
      have hl := VRels.length hcl
      simp only [Array.length_toList] at hl
      obtain ⟨w', h1, h2, h3⟩ := h.storeCells_run ha _ _ 0 (by rw [addA_zero]; exact hs) hcl
      refine ⟨w', ?_, h2, h3⟩
      unfold storeVar
      simp [sizeOf, typeInfo, hi, hl, hsz, h1]
    · simp at hs

/-! ### Parts put together -/
theorem foldl_put {β : Emb} (off : Nat) : ∀ (l l' : List Value) (j : Nat) (cs cs' : Array Value), VRels β l l' → VRels β cs.toList cs'.toList →
    VRels β ((l.zipIdx j).foldl (fun cs (c, j) => cs.setIfInBounds (off + j) c) cs).toList ((l'.zipIdx j).foldl (fun cs (c, j) => cs.setIfInBounds (off + j) c) cs').toList := by
  intro l
  induction l with
  | nil => intro l' j cs cs' h g; cases h; exact g
  | cons v l ih =>
    intro l' j cs cs' h g
    cases h with
    | cons h1 h2 =>
      simp only [List.zipIdx_cons, List.foldl_cons]
      refine ih _ _ _ _ h2 ?_
      simp only [Array.toList_setIfInBounds]
      exact VRels.set g _ h1

def PRels (β : Emb) : List (Nat × Value) → List (Nat × Value) → Prop
  | [], [] => True
  | (i, v) :: l, (i', v') :: l' => i = i' ∧ VRel β v v' ∧ PRels β l l'
  | _, _ => False

theorem fill_rel {β : Emb} (place : Nat → Option (Nat × Nat)) : ∀ (l l' : List (Nat × Value)) (cs cs' out : Array Value), PRels β l l' → VRels β cs.toList cs'.toList → Instr.fill place cs l = some out →
    ∃ out', Instr.fill place cs' l' = some out' ∧ VRels β out.toList out'.toList
  | [], [], cs, cs', out, _, g, e => by simp [Instr.fill] at e; subst e; exact ⟨cs', rfl, g⟩
  | (i, v) :: l, (i', v') :: l', cs, cs', out, h, g, e => by
    obtain ⟨rfl, hv, hl⟩ := h
    unfold Instr.fill at e ⊢
    cases hp : place i with
    | none => rw [hp] at e; simp at e
    | some p =>
      obtain ⟨off, size⟩ := p
      rw [hp] at e
      dsimp only at e ⊢
      have h1 := VRels.length hv.cells
      have h2 := VRels.length g
      simp only [Array.length_toList] at h1 h2
      rw [h1, h2]
      split at e
      · simp at e
      · rename_i hc
        rw [if_neg hc]
        refine fill_rel place l l' _ _ out hl ?_ e
        have := foldl_put off v.cells.toList v'.cells.toList 0 cs cs' hv.cells g
        rw [← Array.foldl_toList, ← Array.foldl_toList, Array.toList_zipIdx, Array.toList_zipIdx]
        exact this
  | [], _ :: _, _, _, _, h, _, _ => by simp [PRels] at h
  | _ :: _, [], _, _, _, h, _, _ => by simp [PRels] at h

theorem PRels.map {β : Emb} {ρ ρ' : Operand → Value} (hρ : ∀ x, operandOk x = true → VRel β (ρ x) (ρ' x)) : ∀ (l : List (Nat × Operand)), (l.all fun p => operandOk p.2) = true →
    PRels β (l.map fun (i, x) => (i, ρ x)) (l.map fun (i, x) => (i, ρ' x))
  | [], _ => trivial
  | (i, x) :: l, h => by
    simp only [List.all_cons, Bool.and_eq_true] at h
    exact ⟨rfl, hρ x h.1, PRels.map hρ l h.2⟩

end

end B
end Go.Proofs.Ytnjoaffnfjlcaaa
