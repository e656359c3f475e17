/-
  Calls: builtins; the entering of a function of the program. One operation, whichever.
-/
import Derived.Test.YtnjoaffnfjlcaaaB9
import Derived.RangeFuncRecord
namespace Go.Proofs.Ytnjoaffnfjlcaaa
namespace B
open Go

def isSlice (P : Program) (t : TypeId) : Bool := match P.underlying t with
  | some (.slice _) => true
  | _ => false

def isMap (P : Program) (t : TypeId) : Bool := match P.underlying t with
  | some (.map _ _) => true
  | _ => false

def lenOp (P : Program) (H : AHeap) (t : TypeId) : Value → Option Int
  | .slice none n _ => if isSlice P t then some n else none
  | .slice (some _) n _ => if isSlice P t then some n else none
  | .map m => if isMap P t then match H.entries (.map m) with
      | some es => some es.length
      | none => none
    else none
  | _ => none

def Func.enters (fn : Func) : Bool := fn.body.isSome && !(fn.name == "runtime.NumGoroutine")

/-- A call. -/
def evalCall (P : Program) (H : AHeap) (ρ : Operand → Value) (o : Oper) (c : Call) : Option ARes :=
  match c.callee with
  | .builtin .len => match c.args.toList, c.argTypes.toList with
    | [x], [t] => match lenOp P H t (ρ x) with
      | some n => some (.val (.int .i64 n) H)
      | none => match closedRun P ρ o with
        | some v => some (.val v H)
        | none => none
    | _, _ => none
  | .builtin .append => match c.args.toList, c.argTypes.toList with
    | [s, x], [t, t'] => if t = t' then match P.underlying t with
        | some (.slice e) => match P.info? e with
          | some i => match H.append i e (ρ s) (ρ x) with
            | some (v, H') => some (.val v H')
            | none => none
          | none => none
        | _ => none
      else none
    | _, _ => none
  | .builtin .min => match closedRun P ρ o with
    | some v => some (.val v H)
    | none => none
  | .builtin .max => match closedRun P ρ o with
    | some v => some (.val v H)
    | none => none
  | .value f => match ρ f with
    | .func (.func g) first captured => match P.funcs[g]? with
      | some fn => if Func.enters fn then some (.enter g (first.toList ++ c.args.toList.map ρ ++ captured.toList) H) else none
      | none => none
    | .func (.yield K) first captured => if first.isEmpty && captured.isEmpty then match H.get K with
        | some (.loop r) => if c.args.size = r.params.size then some (.enter (P.funcs.size + K) (c.args.toList.map ρ) H) else none
        | _ => none
      else none
    | _ => none
  | _ => none

def evalAny (P : Program) (H : AHeap) (ρ : Operand → Value) (o : Oper) : Option ARes :=
  match o.op with
  | .call c => if o.op.operands.all operandOk then evalCall P H ρ o c else none
  | .lookup t m k ok => if o.op.operands.all operandOk then match H.look P t (ρ m) (ρ k) with
      | some (v, b) => some (.val (if ok then .tuple #[v, .bool b] else v) H)
      | none => none
    else none
  | .mapUpdate t m k v => if o.op.operands.all operandOk then match H.mapPut P t (ρ m) (ρ k) (ρ v) with
      | some H' => some (.skip H')
      | none => none
    else none
  | .insert t m k v => if o.op.operands.all operandOk then match H.mapPut P t (ρ m) (ρ k) (ρ v) with
      | some H' => some (.skip H')
      | none => none
    else none
  | _ => evalOp P H ρ o

section
variable {P : Program} {N0 : Fz} {β : Emb} {H : AHeap} {w : World} {ρ ρ' : Operand → Value} {o : Oper}

theorem isSlice_run {t : TypeId} (h : isSlice P t = true) : ∃ e, P.underlying t = some (.slice e) := by
  unfold isSlice at h; split at h
  · rename_i e hu; exact ⟨e, hu⟩
  · simp at h

theorem isMap_run {t : TypeId} (h : isMap P t = true) : ∃ k e, P.underlying t = some (.map k e) := by
  unfold isMap at h; split at h
  · rename_i k e hu; exact ⟨k, e, hu⟩
  · simp at h

theorem lenOp_run (h : HRel P N0 β H w) {t : TypeId} {x x' : Value} {n : Int} (hl : lenOp P H t x = some n) (hx : VRel β x x') (ty : TypeId) :
    (Builtin.len_ #[t] ty #[x']).run P w = .ok (.int .i64 n) w := by
  unfold lenOp at hl
  split at hl
  · split at hl
    · rename_i n' c hs
      obtain ⟨e, hu⟩ := isSlice_run hs
      simp at hl; subst hl
      cases hx
      simp [Builtin.len_, run_underlying hu, goInt]
    · simp at hl
  · split at hl
    · rename_i a n' c hs
      obtain ⟨e, hu⟩ := isSlice_run hs
      simp at hl; subst hl
      obtain ⟨d, c', rfl, _⟩ := hx.inv_slice
      simp [Builtin.len_, run_underlying hu, goInt]
    · simp at hl
  · rename_i m
    split at hl
    · rename_i hm
      obtain ⟨k, e, hu⟩ := isMap_run hm
      split at hl
      · rename_i es hes
        simp at hl; subst hl
        rcases h.entries_run hes hx with ⟨rfl, rfl⟩ | ⟨b, ces, clock, rfl, h1, h2⟩
        · simp [Builtin.len_, run_underlying hu, goInt]
        · have := ERels.length h2
          simp only [Array.length_toList] at this
          simp [Builtin.len_, run_underlying hu, goInt, getObj_map h1, this]
      · simp at hl
    · simp at hl
  · simp at hl

theorem Array.two_of_toList {α : Type} {l : Array α} {x y : α} (h : l.toList = [x, y]) : l = #[x, y] := by
  apply Array.toList_inj.1; simpa using h

theorem Array.one_of_toList {α : Type} {l : Array α} {x : α} (h : l.toList = [x]) : l = #[x] := by
  apply Array.toList_inj.1; simpa using h

theorem callFunc_run {g : FuncId} {fn : Func} (hf : P.funcs[g]? = some fn) (he : Func.enters fn = true) (args : Array Value) (w : World) : (callFunc g args).run P w = .ok (.enter g args) w := by
  unfold Func.enters at he
  simp only [Bool.and_eq_true, Bool.not_eq_true', beq_eq_false_iff_ne] at he
  obtain ⟨hb, hn⟩ := he
  have hb' : fn.body ≠ none := by cases h : fn.body <;> simp_all
  unfold callFunc
  simp [hf, hn, hb']

theorem evalCall_sim (h : HRel P N0 β H w) (hρ : ∀ x, operandOk x = true → VRel β (ρ x) (ρ' x)) {c : Call} (ho : o.op = .call c) (hok : o.op.operands.all operandOk = true) {r : ARes} (e : evalCall P H ρ o c = some r) :
    ResRel P N0 β w r ((execOp ρ' o).run P w) := by
  have hop : ∀ x ∈ o.op.operands, VRel β (ρ x) (ρ' x) := fun x hx => hρ x (operands_ok hok hx)
  have hx : ∀ ρ'', execOp ρ'' o = (do let d ← resolve ρ'' c o.type; invoke d.target d.args) := by intro ρ''; unfold execOp; rw [ho]
  have harg : ∀ x ∈ c.args, x ∈ o.op.operands := by
    intro x hx'; rw [ho]; simp only [Op.operands, Call.operands, Array.mem_append]; exact .inr hx'
  have hcongr : ∀ b, c.callee = .builtin b → (∀ x ∈ o.op.operands, ρ' x = ρ x) → execOp ρ' o = execOp ρ o := by
    intro b hb hh
    rw [hx, hx]
    have : c.args.map ρ' = c.args.map ρ := Array.map_congr_left fun x hx' => hh x (harg x hx')
    simp only [resolve, hb, this]
  unfold evalCall at e
  split at e
  · -- len
    rename_i hc
    split at e
    case h_2 => simp at e
    rename_i x t ha ht
    have ha' := Array.one_of_toList ha
    have ht' := Array.one_of_toList ht
    split at e
    · rename_i n hl
      simp at e; subst e
      have := lenOp_run h hl (hop x (harg x (by rw [ha']; simp))) o.type
      rw [hx]
      simp only [resolve, hc, ha', ht', invoke, builtin, Sem.run_bind, Sem.run_pure, Result.andThen_ok, List.map_toArray, List.map_cons, List.map_nil, this]
      exact ResRel.same h (.closed rfl)
    · split at e
      · rename_i v hcr
        simp at e; subst e
        exact closed_sim h hρ hok hcr (hcongr _ hc)
      · simp at e
  · -- append
    rename_i hc
    split at e
    case h_2 => simp at e
    rename_i s x t t' ha ht
    have ha' := Array.two_of_toList ha
    have ht' := Array.two_of_toList ht
    split at e
    case isFalse => simp at e
    rename_i htt
    subst htt
    split at e
    case h_2 => simp at e
    rename_i el hu
    split at e
    case h_2 => simp at e
    rename_i i hi
    split at e
    case h_2 => simp at e
    rename_i v H' happ
    simp at e; subst e
    obtain ⟨γ, v', w', h1, h2, h3, h4, h5⟩ := h.append_run t o.type el i hu hi (hop s (harg s (by rw [ha']; simp))) (hop x (harg x (by rw [ha']; simp))) happ
    rw [hx]
    simp only [resolve, hc, ha', ht', invoke, builtin, Sem.run_bind, Sem.run_pure, Result.andThen_ok, List.map_toArray, List.map_cons, List.map_nil, h1]
    exact ⟨γ, h2, h3, h4, h5⟩
  · rename_i hc
    split at e
    · rename_i v hcr
      simp at e; subst e
      exact closed_sim h hρ hok hcr (hcongr _ hc)
    · simp at e
  · rename_i hc
    split at e
    · rename_i v hcr
      simp at e; subst e
      exact closed_sim h hρ hok hcr (hcongr _ hc)
    · simp at e
  · -- a function
    rename_i f hc
    split at e
    case h_3 => simp at e
    case h_2 =>
      rename_i K first captured hf
      split at e
      case isFalse => simp at e
      rename_i hem
      simp only [Bool.and_eq_true, Array.isEmpty_iff] at hem
      obtain ⟨rfl, rfl⟩ := hem
      split at e
      case h_2 => simp at e
      rename_i r hr
      split at e
      case isFalse => simp at e
      rename_i hsz
      simp at e; subst e
      have hfo : f ∈ o.op.operands := by rw [ho]; simp [Op.operands, Call.operands, hc]
      have hv := hop f hfo
      rw [hf] at hv
      obtain ⟨l, hl, hf'⟩ : ∃ l, β.loop K = some l ∧ ρ' f = .func (.yield l) #[] #[] := by
        generalize ρ' f = q at hv
        cases hv with
        | closed hcl => simp [closedV] at hcl
        | yield hl => exact ⟨_, hl, rfl⟩
      obtain ⟨q, q', h1, h2, h3, h4⟩ := h.lp _ _ hl
      rw [hr] at h1
      obtain rfl : r = q := by simpa using h1
      have hargs : VRels β (c.args.toList.map ρ) (c.args.toList.map ρ') := VRels.mapOps hρ _ (by
        rw [List.all_eq_true]; intro x hx'; exact operands_ok hok (harg x (by simpa using hx')))
      have hsz' : (c.args.map ρ').size = q'.params.size := by rw [h4.params, Array.size_map]; exact hsz
      rw [hx]
      simp only [resolve, hc, hf', Deferred.ofValue, invoke, Sem.run_bind, Sem.run_pure, Result.andThen_ok, Array.empty_append, run_yield h3 hsz']
      exact ⟨β, Emb.le.refl _, h, .round rfl hl h3 hsz' (by simpa using hargs), Fr.refl _ _⟩
    rename_i g first captured hf
    split at e
    case h_2 => simp at e
    rename_i fn hfn
    split at e
    case isFalse => simp at e
    rename_i hen
    simp at e; subst e
    have hfo : f ∈ o.op.operands := by rw [ho]; simp [Op.operands, Call.operands, hc]
    have hv := hop f hfo
    rw [hf] at hv
    obtain ⟨first', captured', hf', h1, h2⟩ := hv.inv_func
    have hargs : VRels β (c.args.toList.map ρ) (c.args.toList.map ρ') := VRels.mapOps hρ _ (by
      rw [List.all_eq_true]; intro x hx'; exact operands_ok hok (harg x (by simpa using hx')))
    rw [hx]
    simp only [resolve, hc, hf', Deferred.ofValue, invoke, Sem.run_bind, Sem.run_pure, Result.andThen_ok, callFunc_run hfn hen]
    refine ⟨β, Emb.le.refl _, h, .fn hfn ?_, Fr.refl _ _⟩
    have := VRels.append (VRels.append h1 hargs) h2
    simpa [List.append_assoc] using this
  · simp at e

theorem evalAny_sim (h : HRel P N0 β H w) (hρ : ∀ x, operandOk x = true → VRel β (ρ x) (ρ' x)) {r : ARes} (e : evalAny P H ρ o = some r) : ResRel P N0 β w r ((execOp ρ' o).run P w) := by
  unfold evalAny at e
  split at e
  · rename_i c ho
    split at e
    · rename_i hok; exact evalCall_sim h hρ ho hok e
    · simp at e
  · rename_i t m k ok ho
    split at e
    · rename_i hok
      have hop : ∀ x ∈ o.op.operands, VRel β (ρ x) (ρ' x) := fun x hx => hρ x (operands_ok hok hx)
      have hx : execOp ρ' o = (do pure (.value (← Instr.lookup t (ρ' m) (ρ' k) ok))) := by unfold execOp; rw [ho]
      split at e
      · rename_i v b hl
        simp at e; subst e
        obtain ⟨v', h1, h2⟩ := h.look_run hl (hop m (by rw [ho]; simp [Op.operands])) (hop k (by rw [ho]; simp [Op.operands])) ok
        rw [hx]
        simp only [Sem.run_bind, h1, Result.andThen_ok]
        refine ResRel.same h ?_
        cases ok
        · simpa using h2
        · simp only [if_true]; exact .tuple (.cons h2 (.cons (.closed rfl) .nil))
      · simp at e
    · simp at e
  · rename_i t m k v ho
    split at e
    · rename_i hok
      have hop : ∀ x ∈ o.op.operands, VRel β (ρ x) (ρ' x) := fun x hx => hρ x (operands_ok hok hx)
      have hx : execOp ρ' o = (do Instr.mapUpdate t (ρ' m) (ρ' k) (ρ' v); pure .skip) := by unfold execOp; rw [ho]
      split at e
      · rename_i H' hl
        simp at e; subst e
        obtain ⟨w', h1, h2, h3⟩ := h.mapPut_run hl (hop m (by rw [ho]; simp [Op.operands])) (hop k (by rw [ho]; simp [Op.operands])) (hop v (by rw [ho]; simp [Op.operands]))
        rw [hx]
        simp only [Sem.run_bind, h1, Result.andThen_ok]
        exact ⟨β, Emb.le.refl _, h2, h3⟩
      · simp at e
    · simp at e
  · rename_i t m k v ho
    split at e
    · rename_i hok
      have hop : ∀ x ∈ o.op.operands, VRel β (ρ x) (ρ' x) := fun x hx => hρ x (operands_ok hok hx)
      have hx : execOp ρ' o = (do Instr.mapUpdate t (ρ' m) (ρ' k) (ρ' v); pure .skip) := by unfold execOp; rw [ho]
      split at e
      · rename_i H' hl
        simp at e; subst e
        obtain ⟨w', h1, h2, h3⟩ := h.mapPut_run hl (hop m (by rw [ho]; simp [Op.operands])) (hop k (by rw [ho]; simp [Op.operands])) (hop v (by rw [ho]; simp [Op.operands]))
        rw [hx]
        simp only [Sem.run_bind, h1, Result.andThen_ok]
        exact ⟨β, Emb.le.refl _, h2, h3⟩
      · simp at e
    · simp at e
  · exact evalOp_sim h hρ e

end

end B
end Go.Proofs.Ytnjoaffnfjlcaaa
