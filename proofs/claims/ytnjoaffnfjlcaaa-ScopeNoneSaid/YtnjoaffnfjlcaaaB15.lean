/-
  Regions that draw: facts of the plan and of its trace.
-/
import Derived.Test.YtnjoaffnfjlcaaaB14
namespace Go.Proofs.Ytnjoaffnfjlcaaa
namespace B
open Go

theorem planOK_at {ops : List Oper} {B : List Nat} : ∀ (plan done : List Nat), planOK ops B done plan = true → ∀ (P1 : List Nat) (j : Nat) (P2 : List Nat), plan = P1 ++ j :: P2 →
    j ∉ done ++ P1 ∧ (∀ i, i < ops.length → bit B j i = true → i ∈ done ++ P1) ∧ (effAt ops j = false → ∀ e ∈ done ++ P1, effAt ops e = true → bit B j e = true)
  | [], _, _, P1, j, P2, e => by simp at e
  | x :: plan, done, h, P1, j, P2, e => by
    unfold planOK at h
    simp only [Bool.and_eq_true] at h
    obtain ⟨⟨⟨h1, h2⟩, h3⟩, h4⟩ := h
    cases P1 with
    | nil =>
      simp only [List.nil_append, List.cons.injEq] at e
      obtain ⟨rfl, rfl⟩ := e
      simp only [List.append_nil]
      refine ⟨by simpa using h1, fun i hi hb => ?_, fun he e' he' hef => ?_⟩
      · have := List.all_eq_true.1 h2 i (by simpa using hi)
        simp only [hb, Bool.not_true, Bool.false_or, List.contains_iff_mem] at this
        exact this
      · rw [he] at h3
        simp only [Bool.false_or] at h3
        have := List.all_eq_true.1 h3 e' he'
        simpa [hef] using this
    | cons y P1 =>
      simp only [List.cons_append, List.cons.injEq] at e
      obtain ⟨rfl, rfl⟩ := e
      have := planOK_at _ _ h4 P1 j P2 rfl
      simpa [List.append_assoc] using this

structure StaticOK (ops : List Oper) (B : List Nat) (plan : List Nat) : Prop where
  conf : ∀ (i j : Nat) (x y : Oper), i < j → ops[i]? = some x → ops[j]? = some y → conf ops x y = true → bit B j i = true
  eff : ∀ (i j : Nat) (x y : Oper), i < j → ops[i]? = some x → ops[j]? = some y → isEff x = true → isEff y = true → bit B j i = true
  nd : ∀ (P1 : List Nat) (j : Nat) (P2 : List Nat), plan = P1 ++ j :: P2 → j ∉ P1
  ahead : ∀ (P1 : List Nat) (j : Nat) (P2 : List Nat), plan = P1 ++ j :: P2 → ∀ i, i < ops.length → bit B j i = true → i ∈ P1
  eager : ∀ (P1 : List Nat) (j : Nat) (P2 : List Nat), plan = P1 ++ j :: P2 → effAt ops j = false → ∀ e ∈ P1, effAt ops e = true → bit B j e = true
  all : ∀ i, i < ops.length → i ∈ plan
  len : plan.length = ops.length
  lt : ∀ i ∈ plan, i < ops.length

theorem StaticOK.of {ops : List Oper} {B : List Nat} {plan : List Nat} (h : okStatic ops B plan = true) : StaticOK ops B plan := by
  unfold okStatic at h
  simp only [Bool.and_eq_true] at h
  obtain ⟨⟨⟨⟨h1, h2⟩, h3⟩, h4⟩, h5⟩ := h
  have pr : ∀ (i j : Nat) (x y : Oper), i < j → ops[i]? = some x → ops[j]? = some y → pairOK ops B i j = true := by
    intro i j x y hij hx hy
    have hj : j < ops.length := (List.getElem?_eq_some_iff.1 hy).1
    have a := List.all_eq_true.1 h1 j (by simpa using hj)
    exact List.all_eq_true.1 a i (by simpa using hij)
  have at_ := planOK_at plan [] h2
  simp only [List.nil_append] at at_
  refine ⟨?_, ?_, fun P1 j P2 e => (at_ P1 j P2 e).1, fun P1 j P2 e => (at_ P1 j P2 e).2.1, fun P1 j P2 e => (at_ P1 j P2 e).2.2, ?_, by simpa using h3, ?_⟩
  · intro i j x y hij hx hy hc
    have := pr i j x y hij hx hy
    unfold pairOK at this
    rw [hx, hy] at this
    simp only [hc, Bool.not_true, Bool.false_or, Bool.and_eq_true] at this
    exact this.1
  · intro i j x y hij hx hy h6 h7
    have := pr i j x y hij hx hy
    unfold pairOK at this
    rw [hx, hy] at this
    simp only [h6, h7, Bool.and_self, Bool.not_true, Bool.false_or, Bool.and_eq_true] at this
    exact this.2
  · intro i hi
    have := List.all_eq_true.1 h4 i (by simpa using hi)
    simpa using this
  · intro i hi
    have := List.all_eq_true.1 h5 i hi
    simpa using this

/-! ### The trace -/
structure Good (P : Program) (call : CallT) (ops : List Oper) (t : Tr) : Prop where
  op : ops[t.j]? = some t.o
  yes : t.w = true → wantedA ops t.tm t.o = true ∧ (evalAny P t.H (aev t.tm) t.o = some (.val t.v t.H') ∨ (evalAny P t.H (aev t.tm) t.o = some (.skip t.H') ∧ t.v = undef) ∨
    ∃ f args H1, evalAny P t.H (aev t.tm) t.o = some (.enter f args H1) ∧ call f args H1 = some (.ret t.v, t.H'))
  no : t.w = false → wantedA ops t.tm t.o = false ∧ t.v = undef ∧ t.H' = t.H

def Chain (P : Program) (call : CallT) (ops : List Oper) : List Tr → List Value → AHeap → List Value → AHeap → Prop
  | [], tm, H, tmE, He => tmE = tm ∧ He = H
  | t :: ts, tm, H, tmE, He => t.tm = tm ∧ t.H = H ∧ Good P call ops t ∧ Chain P call ops ts (putT t.o.dst t.v tm) t.H' tmE He

structure PanicsAt (P : Program) (call : CallT) (ops : List Oper) (j : Nat) (tm : List Value) (H : AHeap) (v : Value) (H' : AHeap) : Prop where
  ex : ∃ o, ops[j]? = some o ∧ wantedA ops tm o = true ∧ ((∃ f args H1, evalAny P H (aev tm) o = some (.enter f args H1) ∧ call f args H1 = some (.panic v, H')) ∨ evalAny P H (aev tm) o = some (.panic v H'))

theorem runPlan_spec {P : Program} {call : CallT} {ops : List Oper} {dfs : List ADef} : ∀ (plan : List Nat) (tm : List Value) (H : AHeap) (T : List Tr) (He : AHeap) (x : AExit) (s' : St),
    runPlan P call ops dfs plan tm H = some (T, He, x, s') → ∃ tmE rest, plan = T.map (·.j) ++ rest ∧ Chain P call ops T tm H tmE He ∧
      ((rest = [] ∧ x = .normal ∧ s' = ⟨tmE, dfs, He⟩) ∨ ∃ j rest' v H', rest = j :: rest' ∧ x = .panic v ∧ s' = ⟨[], dfs, H'⟩ ∧ PanicsAt P call ops j tmE He v H')
  | [], tm, H, T, He, x, s', h => by
    simp only [runPlan, Option.some.injEq, Prod.mk.injEq] at h
    obtain ⟨rfl, rfl, rfl, rfl⟩ := h
    exact ⟨tm, [], rfl, ⟨rfl, rfl⟩, .inl ⟨rfl, rfl, rfl⟩⟩
  | j :: rest, tm, H, T, He, x, s', h => by
    unfold runPlan at h
    split at h
    · simp at h
    · rename_i o ho
      have step : ∀ (v : Value) (H' : AHeap) (ww : Bool), Good P call ops ⟨j, o, tm, H, v, H', ww⟩ → consT ⟨j, o, tm, H, v, H', ww⟩ (runPlan P call ops dfs rest (putT o.dst v tm) H') = some (T, He, x, s') →
          ∃ tmE rest', j :: rest = T.map (·.j) ++ rest' ∧ Chain P call ops T tm H tmE He ∧
      ((rest' = [] ∧ x = .normal ∧ s' = ⟨tmE, dfs, He⟩) ∨ ∃ j rest'' v H', rest' = j :: rest'' ∧ x = .panic v ∧ s' = ⟨[], dfs, H'⟩ ∧ PanicsAt P call ops j tmE He v H') := by
        intro v H' ww hg hc
        cases hr : runPlan P call ops dfs rest (putT o.dst v tm) H' with
        | none => rw [hr] at hc; simp [consT] at hc
        | some q =>
          obtain ⟨T', He', x', s''⟩ := q
          rw [hr] at hc
          simp only [consT, Option.some.injEq, Prod.mk.injEq] at hc
          obtain ⟨rfl, rfl, rfl, rfl⟩ := hc
          obtain ⟨tmE, rest', h1, h2, h3⟩ := runPlan_spec rest _ _ _ _ _ _ hr
          exact ⟨tmE, rest', by simp [h1], ⟨rfl, rfl, hg, h2⟩, h3⟩
      split at h
      · rename_i hw
        split at h
        · rename_i v H' he
          exact step v H' true ⟨ho, fun _ => ⟨hw, .inl he⟩, fun e => by simp at e⟩ h
        · rename_i H' he
          exact step undef H' true ⟨ho, fun _ => ⟨hw, .inr (.inl ⟨he, rfl⟩)⟩, fun e => by simp at e⟩ h
        · rename_i f args H1 he
          split at h
          · rename_i v H' hc
            exact step v H' true ⟨ho, fun _ => ⟨hw, .inr (.inr ⟨f, args, H1, he, hc⟩)⟩, fun e => by simp at e⟩ h
          · rename_i v H' hc
            simp only [Option.some.injEq, Prod.mk.injEq] at h
            obtain ⟨rfl, rfl, rfl, rfl⟩ := h
            exact ⟨tm, j :: rest, rfl, ⟨rfl, rfl⟩, .inr ⟨j, rest, v, H', rfl, rfl, rfl, ⟨o, ho, hw, .inl ⟨f, args, H1, he, hc⟩⟩⟩⟩
          · simp at h
        · rename_i v H1 he
          simp only [Option.some.injEq, Prod.mk.injEq] at h
          obtain ⟨rfl, rfl, rfl, rfl⟩ := h
          exact ⟨tm, j :: rest, rfl, ⟨rfl, rfl⟩, .inr ⟨j, rest, v, H1, rfl, rfl, rfl, ⟨o, ho, hw, .inr he⟩⟩⟩
        · simp at h
      · rename_i hw
        exact step undef H false ⟨ho, fun e => by simp at e, fun _ => ⟨by simpa using hw, rfl, rfl⟩⟩ h

theorem Chain.split {P : Program} {call : CallT} {ops : List Oper} : ∀ (T1 : List Tr) {T2 : List Tr} {tm : List Value} {H : AHeap} {tmE : List Value} {He : AHeap}, Chain P call ops (T1 ++ T2) tm H tmE He →
    ∃ tm1 H1, Chain P call ops T1 tm H tm1 H1 ∧ Chain P call ops T2 tm1 H1 tmE He
  | [], T2, tm, H, tmE, He, h => ⟨tm, H, ⟨rfl, rfl⟩, h⟩
  | t :: T1, T2, tm, H, tmE, He, h => by
    obtain ⟨h1, h2, h3, h4⟩ := h
    obtain ⟨tm1, H1, h5, h6⟩ := Chain.split T1 h4
    exact ⟨tm1, H1, ⟨h1, h2, h3, h5⟩, h6⟩

theorem Chain.tm {P : Program} {call : CallT} {ops : List Oper} : ∀ (T : List Tr) {tm : List Value} {H : AHeap} {tmE : List Value} {He : AHeap}, Chain P call ops T tm H tmE He → tmE = tmD (fun _ => true) T tm
  | [], _, _, _, _, h => h.1
  | t :: T, tm, H, tmE, He, h => by
    obtain ⟨_, _, _, h4⟩ := h
    simp only [tmD, if_true]
    exact Chain.tm T h4

theorem Good.next {P : Program} {call : CallT} (hcall : CallOK P call) {ops : List Oper} {t : Tr} (h : Good P call ops t) : AHeap.le t.H t.H' := by
  cases hw : t.w with
  | false => rw [(h.no hw).2.2]; exact AHeap.le_refl _
  | true =>
    rcases (h.yes hw).2 with e | ⟨e, _⟩ | ⟨f, args, H1, e, hc⟩
    · exact evalAny_next e
    · exact evalAny_next e
    · exact AHeap.le_trans (evalAny_next e) (hcall _ _ _ _ _ hc).1

theorem Chain.next {P : Program} {call : CallT} (hcall : CallOK P call) {ops : List Oper} : ∀ (T : List Tr) {tm : List Value} {H : AHeap} {tmE : List Value} {He : AHeap}, Chain P call ops T tm H tmE He → AHeap.le H He ∧ ∀ t ∈ T, AHeap.le H t.H
  | [], _, _, _, _, h => ⟨by rw [h.2]; exact AHeap.le_refl _, by simp⟩
  | t :: T, tm, H, tmE, He, h => by
    obtain ⟨_, h2, h3, h4⟩ := h
    have h5 := h3.next hcall
    obtain ⟨h6, h7⟩ := Chain.next hcall T h4
    subst h2
    refine ⟨AHeap.le_trans h5 h6, fun u hu => ?_⟩
    rcases List.mem_cons.1 hu with rfl | hu
    · exact AHeap.le_refl _
    · exact AHeap.le_trans h5 (h7 u hu)

/-- A quiet operation that is wanted: what it did. -/
theorem Good.quiet {P : Program} {call : CallT} {ops : List Oper} {t : Tr} (h : Good P call ops t) (hw : t.w = true) (hq : isEff t.o = false) :
    (okind t.o.op = .pure ∧ t.H' = t.H ∧ ∀ H2, evalAny P H2 (aev t.tm) t.o = some (.val t.v H2)) ∨ (okind t.o.op = .read ∧ t.H' = t.H ∧ evalAny P t.H (aev t.tm) t.o = some (.val t.v t.H)) ∨
    (okind t.o.op = .alloc ∧ evalAny P t.H (aev t.tm) t.o = some (.val t.v t.H')) := by
  have hk : okind t.o.op = .pure ∨ okind t.o.op = .read ∨ okind t.o.op = .alloc := by
    unfold isEff at hq
    cases hk : okind t.o.op <;> simp_all
  rcases hk with hk | hk | hk
  · left
    rcases (h.yes hw).2 with e | ⟨e, _⟩ | ⟨f, args, H1, e, _⟩
    · obtain ⟨v, h1, h2⟩ := pure_any hk e
      simp only [ARes.val.injEq] at h1
      obtain ⟨h1, h3⟩ := h1
      exact ⟨hk, h3, fun H2 => by rw [h1]; exact h2 H2⟩
    · obtain ⟨v, h1, _⟩ := pure_any hk e; simp at h1
    · obtain ⟨v, h1, _⟩ := pure_any hk e; simp at h1
  · right; left
    rcases (h.yes hw).2 with e | ⟨e, _⟩ | ⟨f, args, H1, e, _⟩
    · obtain ⟨v, h1⟩ := read_any hk e
      simp only [ARes.val.injEq] at h1
      obtain ⟨h1, h3⟩ := h1
      exact ⟨hk, h3, by rw [h3] at e; exact e⟩
    · obtain ⟨v, h1⟩ := read_any hk e; simp at h1
    · obtain ⟨v, h1⟩ := read_any hk e; simp at h1
  · right; right
    rcases (h.yes hw).2 with e | ⟨e, _⟩ | ⟨f, args, H1, e, _⟩
    · exact ⟨hk, e⟩
    · exact absurd e (alloc_not_skip hk)
    · exact absurd e (alloc_not_enter hk)

end B
end Go.Proofs.Ytnjoaffnfjlcaaa
