/-
  Regions that draw, evaluated: by the plan, no trace.
-/
import Derived.Test.YtnjoaffnfjlcaaaB26
namespace Go.Proofs.Ytnjoaffnfjlcaaa
namespace B
open Go

def dropP : Option (AExit × St) → Option (AExit × St)
  | some (.panic v, s) => some (.panic v, ⟨[], s.dfs, s.H⟩)
  | r => r
theorem dropP_normal {s : St} : dropP (some (.normal, s)) = some (.normal, s) := rfl
theorem dropP_panic {s : St} {v : Value} : dropP (some (.panic v, s)) = some (.panic v, ⟨[], s.dfs, s.H⟩) := rfl
theorem dropP_ite {c : Prop} [Decidable c] {x y : Option (AExit × St)} : dropP (if c then x else y) = if c then dropP x else dropP y := by split <;> rfl

section
variable {P : Program} {call : CallT}

theorem evalIdx_step {rnd : Bool} {all : List Oper} {j : Nat} {rest : List Nat} {s : St} {o : Oper} (ho : all[j]? = some o) (hd : isDefer o.op = false) :
    evalIdx P call rnd all (j :: rest) s = if wantedA all s.tmps o then contA call o.dst (evalIdx P call rnd all rest) s (evalAny P s.H (aev s.tmps) o) else evalIdx P call rnd all rest ⟨putT o.dst undef s.tmps, s.dfs, s.H⟩ := by
  have hnd : ∀ c, o.op ≠ .defer c := by intro c hc; rw [hc] at hd; simp [isDefer] at hd
  conv => lhs; unfold evalIdx
  rw [ho]
  dsimp only
  split
  · split
    · rename_i c hc; exact absurd hc (hnd c)
    · cases hev : evalAny P s.H (aev s.tmps) o with
      | none => rfl
      | some r =>
        cases r <;> rfl
  · rfl

theorem runPlan_idx {ops : List Oper} (hnd : ∀ o ∈ ops, isDefer o.op = false) : ∀ (plan : List Nat) (tm : List Value) (dfs : List ADef) (H : AHeap), (∀ j ∈ plan, j < ops.length) →
    (runPlan P call ops dfs plan tm H).map (fun r => (r.2.2.1, r.2.2.2)) = dropP (evalIdx P call true ops plan ⟨tm, dfs, H⟩)
  | [], _, _, _, _ => rfl
  | j :: rest, tm, dfs, H, hj => by
    have hlt := hj j (by simp)
    have ih := fun tm H => runPlan_idx hnd rest tm dfs H (fun i hi => hj i (by simp [hi]))
    have hcons : ∀ (t : Tr) (x : Option (List Tr × AHeap × AExit × St)), (consT t x).map (fun r => (r.2.2.1, r.2.2.2)) = x.map (fun r => (r.2.2.1, r.2.2.2)) := by
      intro t x; cases x <;> rfl
    rw [evalIdx_step (List.getElem?_eq_getElem hlt) (hnd _ (List.getElem_mem hlt))]
    unfold runPlan
    rw [List.getElem?_eq_getElem hlt]
    dsimp only
    split
    · cases hev : evalAny P H (aev tm) ops[j] with
      | none => rfl
      | some r =>
        cases r with
        | val v H' => simp only [hcons, ih, contA]
        | skip H' => simp only [hcons, ih, contA]
        | panic v H' => rfl
        | defer d args H' => rfl
        | enter f args H1 =>
          simp only [contA]
          cases hc : call f args H1 with
          | none => rfl
          | some q =>
            obtain ⟨e, H'⟩ := q
            cases e with
            | ret v => simp only [hcons, ih]
            | panic v => rfl
    · rw [hcons, ih]

/-- The plan is the text's own order, and nothing is read beside what acts. -/
def textOK (l : List Oper) : Bool :=
  (planOf l == List.range l.length) && edgesOK l && okStatic l (befOf l) (planOf l) && quietOK l (befOf l) (planOf l) && l.all fun o => !(isDefer o.op)

theorem drawRun_text {l : List Oper} (h : textOK l = true) {s : St} : drawRun P call l s = dropP (evalList P call true l l s) := by
  unfold textOK at h
  simp only [Bool.and_eq_true, beq_iff_eq] at h
  obtain ⟨⟨⟨⟨h1, h2⟩, h3⟩, h4⟩, h5⟩ := h
  have hnd : ∀ o ∈ l, isDefer o.op = false := fun o ho => by simpa using List.all_eq_true.1 h5 o ho
  have hp := runPlan_idx (P := P) (call := call) hnd (planOf l) s.tmps s.dfs s.H (by rw [h1]; intro j hj; simpa using hj)
  have he : evalIdx P call true l (planOf l) s = evalList P call true l l s := by
    have := evalIdx_from (P := P) (call := call) (rnd := true) (ops := l) l.length 0 s (by omega)
    rw [List.drop_zero] at this
    rw [← this, h1, List.range_eq_range']
  rw [← he]
  have hs : (⟨s.tmps, s.dfs, s.H⟩ : St) = s := rfl
  rw [hs] at hp
  rw [← hp]
  unfold drawRun
  cases runPlan P call l s.dfs (planOf l) s.tmps s.H with
  | none => rfl
  | some r =>
    obtain ⟨T, He, x, s'⟩ := r
    dsimp only
    rw [if_pos ⟨h2, h3, .inl h4⟩]
    rfl

theorem theCode_text {ext : CallT} {rnd : Bool} {id : Nat} {l : List Oper} {s : St} (h : textOK l = true) : theCode P ext rnd (.region id l.toArray true) s = dropP (evalList P (theCall P ext) true l l s) := by
  rw [theCode_draw, ← drawRun_text h]

/-- The plan in another order than the text's; nothing is read beside what acts. -/
def planOK' (l : List Oper) (plan : List Nat) : Bool :=
  (planOf l == plan) && edgesOK l && okStatic l (befOf l) plan && quietOK l (befOf l) plan && (l.all fun o => !(isDefer o.op)) && plan.all fun j => decide (j < l.length)

theorem evalIdx_list {rnd : Bool} {all : List Oper} : ∀ (plan : List Nat) (s : St), evalIdx P call rnd all plan s = evalList P call rnd all (plan.filterMap fun j => all[j]?) s
  | [], s => rfl
  | j :: rest, s => by
    have ih := fun s => evalIdx_list (rnd := rnd) (all := all) rest s
    cases ho : all[j]? with
    | none =>
      rw [List.filterMap_cons_none ho]
      unfold evalIdx
      rw [ho]
      exact ih s
    | some o =>
      rw [List.filterMap_cons_some ho]
      unfold evalIdx evalList
      rw [ho]
      dsimp only
      split
      · cases hd : isDefer o.op with
        | true =>
          simp only [if_true]
          cases hop : o.op <;> rw [hop] at hd <;> simp [isDefer] at hd
          rename_i c
          simp only []
          split
          · cases hdd : deferOf P (aev s.tmps) c with
            | none => rfl
            | some d => exact ih _
          · rfl
        | false =>
          simp only [Bool.false_eq_true, if_false]
          have hnd : ∀ c, o.op ≠ .defer c := by intro c hc; rw [hc] at hd; simp [isDefer] at hd
          rw [← evalAny_op]
          split
          · rename_i c hc; exact absurd hc (hnd c)
          · cases hev : evalAny P s.H (aev s.tmps) o with
            | none => rfl
            | some r =>
              cases r <;> simp only [contA] <;> first | exact ih _ | rfl | skip
              rename_i f args H
              cases call f args H with
              | none => rfl
              | some q =>
                obtain ⟨e, H'⟩ := q
                cases e
                · exact ih _
                · rfl
      · exact ih _

theorem drawRun_plan {l : List Oper} {plan : List Nat} (h : planOK' l plan = true) {s : St} : drawRun P call l s = dropP (evalList P call true l (plan.filterMap fun j => l[j]?) s) := by
  unfold planOK' at h
  simp only [Bool.and_eq_true, beq_iff_eq] at h
  obtain ⟨⟨⟨⟨⟨h1, h2⟩, h3⟩, h4⟩, h5⟩, h6⟩ := h
  have hnd : ∀ o ∈ l, isDefer o.op = false := fun o ho => by simpa using List.all_eq_true.1 h5 o ho
  have hp := runPlan_idx (P := P) (call := call) hnd plan s.tmps s.dfs s.H (fun j hj => by simpa using List.all_eq_true.1 h6 j hj)
  rw [← evalIdx_list]
  have hs : (⟨s.tmps, s.dfs, s.H⟩ : St) = s := rfl
  rw [hs] at hp
  rw [← hp]
  unfold drawRun
  rw [h1]
  cases runPlan P call l s.dfs plan s.tmps s.H with
  | none => rfl
  | some r =>
    obtain ⟨T, He, x, s'⟩ := r
    dsimp only
    rw [if_pos ⟨h2, h3, .inl h4⟩]
    rfl

@[congr] theorem dropP_congr {x x' : Option (AExit × St)} (h : x = x') : dropP x = dropP x' := by rw [h]

end
end B
end Go.Proofs.Ytnjoaffnfjlcaaa
