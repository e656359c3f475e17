/-
  Regions that draw their order: a plan, its trace, what is asked of it; plain facts on lists.
-/
import Derived.Test.YtnjoaffnfjlcaaaB13
import Derived.OrdersIn
namespace Go.Proofs.Ytnjoaffnfjlcaaa
namespace B
open Go

def emask (acc : List Nat) (o : Oper) : Nat :=
  o.after.toList.foldl (fun s e => if Region.binds .any e then s ||| 2 ^ e.on ||| acc.getD e.on 0 else s) 0

def befs : List Oper → List Nat → List Nat
  | [], acc => acc
  | o :: r, acc => befs r (acc ++ [emask acc o])

def befOf (ops : List Oper) : List Nat := befs ops []
def bit (B : List Nat) (j i : Nat) : Bool := (B.getD j 0).testBit i

def slotOf : Operand → Option Nat
  | .tmp t => some t
  | _ => none

def names (ops : List Oper) (o : Oper) : List Nat :=
  o.dst.toList ++ o.op.operands.toList.filterMap slotOf ++ (match o.guard with
    | some (g, _) => match ops[g]? with
      | some og => og.dst.toList
      | none => []
    | none => [])

def conf (ops : List Oper) (x y : Oper) : Bool :=
  (match x.dst with | some d => (names ops y).contains d | none => false) || (match y.dst with | some d => (names ops x).contains d | none => false)

def isEff (o : Oper) : Bool := okind o.op == .effect

def effAt (ops : List Oper) (i : Nat) : Bool := match ops[i]? with
  | some o => isEff o
  | none => false

def pairOK (ops : List Oper) (B : List Nat) (i j : Nat) : Bool :=
  match ops[i]?, ops[j]? with
  | some x, some y => (!(conf ops x y) || bit B j i) && (!(isEff x && isEff y) || bit B j i)
  | _, _ => true

def planOK (ops : List Oper) (B : List Nat) (done : List Nat) : List Nat → Bool
  | [] => true
  | j :: rest => !(done.contains j) && (List.range ops.length).all (fun i => !(bit B j i) || done.contains i) && (effAt ops j || done.all (fun e => !(effAt ops e) || bit B j e)) &&
      planOK ops B (done ++ [j]) rest

def okStatic (ops : List Oper) (B : List Nat) (plan : List Nat) : Bool :=
  (List.range ops.length).all (fun j => (List.range j).all fun i => pairOK ops B i j) && planOK ops B [] plan && plan.length == ops.length && (List.range ops.length).all (fun i => plan.contains i) &&
  plan.all (fun i => decide (i < ops.length))

def planGo (ops : List Oper) (B : List Nat) : Nat → List Nat → List Nat → List Nat
  | 0, _, done => done
  | k + 1, left, done =>
    let ready := left.filter fun j => (List.range ops.length).all fun i => !(bit B j i) || done.contains i
    match ready.filter fun j => !(effAt ops j) with
    | j :: _ => planGo ops B k (left.filter (· != j)) (done ++ [j])
    | [] => match ready with
      | j :: _ => planGo ops B k (left.filter (· != j)) (done ++ [j])
      | [] => done

def planOf (ops : List Oper) : List Nat := planGo ops (befOf ops) ops.length (List.range ops.length) []

structure Tr where
  j : Nat
  o : Oper
  tm : List Value
  H : AHeap
  v : Value
  H' : AHeap
  w : Bool

def consT (t : Tr) : Option (List Tr × AHeap × AExit × St) → Option (List Tr × AHeap × AExit × St)
  | some (T, r) => some (t :: T, r)
  | none => none

def runPlan (P : Program) (call : CallT) (ops : List Oper) (dfs : List ADef) : List Nat → List Value → AHeap → Option (List Tr × AHeap × AExit × St)
  | [], tm, H => some ([], H, .normal, ⟨tm, dfs, H⟩)
  | j :: rest, tm, H => match ops[j]? with
    | none => none
    | some o => if wantedA ops tm o then
        match evalAny P H (aev tm) o with
        | some (.val v H') => consT ⟨j, o, tm, H, v, H', true⟩ (runPlan P call ops dfs rest (putT o.dst v tm) H')
        | some (.skip H') => consT ⟨j, o, tm, H, undef, H', true⟩ (runPlan P call ops dfs rest (putT o.dst undef tm) H')
        | some (.enter f args H1) => match call f args H1 with
          | some (.ret v, H') => consT ⟨j, o, tm, H, v, H', true⟩ (runPlan P call ops dfs rest (putT o.dst v tm) H')
          | some (.panic v, H') => some ([], H, .panic v, ⟨[], dfs, H'⟩)
          | none => none
        | some (.panic v H1) => some ([], H, .panic v, ⟨[], dfs, H1⟩)
        | _ => none
      else consT ⟨j, o, tm, H, undef, H, false⟩ (runPlan P call ops dfs rest (putT o.dst undef tm) H)

/-- What an operation found still stands in another heap. -/
def same (P : Program) (t : Tr) (H : AHeap) : Prop :=
  match okind t.o.op with
  | .read => evalAny P H (aev t.tm) t.o = some (.val t.v H)
  | .alloc => H.get t.H.next = t.H'.get t.H.next
  | _ => True

def stableFrom (P : Program) (B : List Nat) (t : Tr) : List Tr → AHeap → Prop
  | [], He => same P t He
  | u :: us, He => if isEff u.o then same P t u.H ∧ (bit B u.j t.j = true ∨ stableFrom P B t us He) else stableFrom P B t us He

def readsOK (P : Program) (B : List Nat) : List Tr → AHeap → Prop
  | [], _ => True
  | t :: ts, He => (t.w = true → isEff t.o = false → stableFrom P B t ts He) ∧ readsOK P B ts He

/-- No operation waits for one that is not there. -/
def edgesOK (ops : List Oper) : Bool := ops.all fun o => o.after.toList.all fun e => !(Region.binds .any e) || decide (e.on < ops.length)

def pureAt (ops : List Oper) (i : Nat) : Bool := match ops[i]? with
  | some o => okind o.op == .pure
  | none => false

/-- What acts behind a reading or making operation in the plan stands behind it in every order. -/
def quietOK (ops : List Oper) (B : List Nat) : List Nat → Bool
  | [] => true
  | j :: rest => (effAt ops j || pureAt ops j || (rest.all fun u => !(effAt ops u) || bit B u j)) && quietOK ops B rest

open Classical in
noncomputable def drawRun (P : Program) (call : CallT) (ops : List Oper) (s : St) : Option (AExit × St) :=
  match runPlan P call ops s.dfs (planOf ops) s.tmps s.H with
  | some (T, He, x, s') => if edgesOK ops = true ∧ okStatic ops (befOf ops) (planOf ops) = true ∧ (quietOK ops (befOf ops) (planOf ops) = true ∨ readsOK P (befOf ops) T He) then some (x, s') else none
  | none => none

/-! ### Which stands ahead of which -/
theorem emask_bit (acc : List Nat) (o : Oper) (i : Nat) (h : (emask acc o).testBit i = true) : ∃ e ∈ o.after.toList, Region.binds .any e = true ∧ (e.on = i ∨ (acc.getD e.on 0).testBit i = true) := by
  have key : ∀ (l : List Edge) (s : Nat), (l.foldl (fun s e => if Region.binds .any e then s ||| 2 ^ e.on ||| acc.getD e.on 0 else s) s).testBit i = true →
      s.testBit i = true ∨ ∃ e ∈ l, Region.binds .any e = true ∧ (e.on = i ∨ (acc.getD e.on 0).testBit i = true) := by
    intro l
    induction l with
    | nil => intro s h; exact .inl h
    | cons e l ih =>
      intro s h
      simp only [List.foldl_cons] at h
      rcases ih _ h with h1 | ⟨e', he', h2⟩
      · split at h1
        · rename_i hb
          rw [Nat.testBit_or, Nat.testBit_or, Bool.or_eq_true, Bool.or_eq_true, Nat.testBit_two_pow] at h1
          rcases h1 with (h1 | h1) | h1
          · exact .inl h1
          · exact .inr ⟨e, by simp, hb, .inl (by simpa using h1)⟩
          · exact .inr ⟨e, by simp, hb, .inr h1⟩
        · exact .inl h1
      · exact .inr ⟨e', by simp [he'], h2⟩
  rcases key _ _ h with h1 | h1
  · simp at h1
  · exact h1

theorem befs_take (ops : List Oper) : ∀ (acc : List Nat) (j : Nat), j < acc.length → (befs ops acc).getD j 0 = acc.getD j 0 := by
  induction ops with
  | nil => intro acc j _; rfl
  | cons o r ih =>
    intro acc j hj
    unfold befs
    rw [ih _ _ (by simp; omega)]
    simp only [List.getD_eq_getElem?_getD]
    rw [List.getElem?_append_left hj]

theorem befs_at (ops : List Oper) : ∀ (acc : List Nat) (k : Nat) (o : Oper), ops[k]? = some o → ∃ acc', acc'.length = acc.length + k ∧ (∀ j, j < acc.length + k → (befs ops acc).getD j 0 = acc'.getD j 0) ∧
    (befs ops acc).getD (acc.length + k) 0 = emask acc' o := by
  induction ops with
  | nil => intro acc k o h; simp at h
  | cons x r ih =>
    intro acc k o h
    cases k with
    | zero =>
      simp at h; subst h
      refine ⟨acc, rfl, fun j hj => ?_, ?_⟩
      · exact befs_take _ _ _ (by simpa using hj)
      · unfold befs
        rw [Nat.add_zero, befs_take _ _ _ (by simp)]
        simp [List.getD_eq_getElem?_getD]
    | succ k =>
      obtain ⟨acc', h1, h2, h3⟩ := ih (acc ++ [emask acc x]) k o (by simpa using h)
      simp only [List.length_append, List.length_singleton] at h1 h2 h3
      refine ⟨acc', by omega, fun j hj => h2 j (by omega), ?_⟩
      unfold befs
      rw [show acc.length + (k + 1) = acc.length + 1 + k by omega]
      exact h3

theorem bef_step {ops : List Oper} {j : Nat} {o : Oper} (ho : ops[j]? = some o) {i : Nat} (h : bit (befOf ops) j i = true) :
    ∃ e ∈ o.after.toList, Region.binds .any e = true ∧ (e.on = i ∨ (e.on < j ∧ bit (befOf ops) e.on i = true)) := by
  obtain ⟨acc', h1, h2, h3⟩ := befs_at ops [] j o ho
  simp only [List.length_nil, Nat.zero_add] at h1 h2 h3
  unfold bit befOf at h
  rw [h3] at h
  obtain ⟨e, he, hb, hh⟩ := emask_bit _ _ _ h
  refine ⟨e, he, hb, ?_⟩
  rcases hh with hh | hh
  · exact .inl hh
  · rcases Nat.lt_or_ge e.on j with hl | hl
    · refine .inr ⟨hl, ?_⟩
      unfold bit befOf
      rw [h2 _ hl]; exact hh
    · rw [List.getD_eq_getElem?_getD, List.getElem?_eq_none (by omega)] at hh
      simp at hh

theorem emask_of (acc : List Nat) (o : Oper) {e : Edge} (he : e ∈ o.after.toList) (hb : Region.binds .any e = true) : (emask acc o).testBit e.on = true := by
  have keep : ∀ (l : List Edge) (s : Nat), s.testBit e.on = true → (l.foldl (fun s e => if Region.binds .any e then s ||| 2 ^ e.on ||| acc.getD e.on 0 else s) s).testBit e.on = true := by
    intro l
    induction l with
    | nil => intro s h; exact h
    | cons x l ih =>
      intro s h
      simp only [List.foldl_cons]
      refine ih _ ?_
      split
      · rw [Nat.testBit_or, Nat.testBit_or, h]; simp
      · exact h
  have key : ∀ (l : List Edge) (s : Nat), e ∈ l → (l.foldl (fun s e => if Region.binds .any e then s ||| 2 ^ e.on ||| acc.getD e.on 0 else s) s).testBit e.on = true := by
    intro l
    induction l with
    | nil => intro s h; simp at h
    | cons x l ih =>
      intro s h
      simp only [List.foldl_cons]
      rcases List.mem_cons.1 h with rfl | h
      · refine keep _ _ ?_
        rw [if_pos hb, Nat.testBit_or, Nat.testBit_or, Nat.testBit_two_pow]; simp
      · exact ih _ h
  exact key _ _ he

theorem bef_direct {ops : List Oper} {j : Nat} {o : Oper} (ho : ops[j]? = some o) {e : Edge} (he : e ∈ o.after.toList) (hb : Region.binds .any e = true) : bit (befOf ops) j e.on = true := by
  obtain ⟨acc', h1, h2, h3⟩ := befs_at ops [] j o ho
  simp only [List.length_nil, Nat.zero_add] at h1 h2 h3
  unfold bit befOf
  rw [h3]
  exact emask_of _ _ he hb

/-- A set of operations that holds what its own stand behind. -/
def ClosedD (ops : List Oper) (D : Nat → Bool) : Prop := ∀ (j : Nat) (o : Oper), D j = true → ops[j]? = some o → ∀ e ∈ o.after.toList, Region.binds .any e = true → D e.on = true

theorem closed_bit {ops : List Oper} {D : Nat → Bool} (hD : ClosedD ops D) {i : Nat} : ∀ (n j : Nat), j ≤ n → D j = true → bit (befOf ops) j i = true → j < ops.length → D i = true := by
  intro n
  induction n with
  | zero =>
    intro j hj hd hb hl
    obtain ⟨e, he, hbb, hh⟩ := bef_step (List.getElem?_eq_getElem hl) hb
    have := hD _ _ hd (List.getElem?_eq_getElem hl) e he hbb
    rcases hh with rfl | ⟨h, _⟩
    · exact this
    · omega
  | succ n ih =>
    intro j hj hd hb hl
    obtain ⟨e, he, hbb, hh⟩ := bef_step (List.getElem?_eq_getElem hl) hb
    have := hD _ _ hd (List.getElem?_eq_getElem hl) e he hbb
    rcases hh with rfl | ⟨h, h2⟩
    · exact this
    · exact ih e.on (by omega) this h2 (by omega)

theorem ready_bit {ops : List Oper} {D : Nat → Bool} (hD : ClosedD ops D) {i j : Nat} {o : Oper} (ho : ops[j]? = some o) (hr : ∀ e ∈ o.after.toList, Region.binds .any e = true → D e.on = true) (hb : bit (befOf ops) j i = true) : D i = true := by
  obtain ⟨e, he, hbb, hh⟩ := bef_step ho hb
  have := hr e he hbb
  rcases hh with rfl | ⟨h, h2⟩
  · exact this
  · exact closed_bit hD _ _ (Nat.le_refl _) this h2 (by have := (List.getElem?_eq_some_iff.1 ho).1; omega)

/-! ### Slots -/
def tmD (D : Nat → Bool) : List Tr → List Value → List Value
  | [], tm => tm
  | t :: ts, tm => tmD D ts (if D t.j then putT t.o.dst t.v tm else tm)

theorem putT_get (dst : Option Nat) (v : Value) (tm : List Value) (x : Nat) : (putT dst v tm)[x]? = if dst = some x then (if x < tm.length then some v else none) else tm[x]? := by
  unfold putT
  cases dst with
  | none => simp
  | some d =>
    simp only [Option.some.injEq, List.getElem?_set]
    split
    · rename_i e; subst e; rfl
    · rfl

theorem putT_length (dst : Option Nat) (v : Value) (tm : List Value) : (putT dst v tm).length = tm.length := by
  unfold putT; cases dst <;> simp

theorem tmD_append (D : Nat → Bool) : ∀ (T1 T2 : List Tr) (tm : List Value), tmD D (T1 ++ T2) tm = tmD D T2 (tmD D T1 tm)
  | [], _, _ => rfl
  | t :: T1, T2, tm => by simp only [List.cons_append, tmD]; exact tmD_append D T1 T2 _

theorem tmD_length (D : Nat → Bool) : ∀ (T : List Tr) (tm : List Value), (tmD D T tm).length = tm.length
  | [], _ => rfl
  | t :: T, tm => by
    simp only [tmD]; rw [tmD_length]
    split
    · exact putT_length _ _ _
    · rfl

theorem tmD_slot {D1 D2 : Nat → Bool} {x : Nat} : ∀ (T : List Tr) (tm1 tm2 : List Value), tm1.length = tm2.length → tm1[x]? = tm2[x]? → (∀ t ∈ T, t.o.dst = some x → D1 t.j = D2 t.j) → (tmD D1 T tm1)[x]? = (tmD D2 T tm2)[x]?
  | [], _, _, _, h, _ => h
  | t :: T, tm1, tm2, hl, h, hh => by
    simp only [tmD]
    refine tmD_slot T _ _ ?_ ?_ (fun u hu => hh u (by simp [hu]))
    · by_cases h1 : D1 t.j <;> by_cases h2 : D2 t.j <;> simp [h1, h2, putT_length, hl]
    · by_cases hd : t.o.dst = some x
      · rw [hh t (by simp) hd]
        by_cases h2 : D2 t.j
        · simp only [h2, if_true, putT_get, hd, hl]
        · simp only [h2, Bool.false_eq_true, if_false, h]
      · by_cases h1 : D1 t.j <;> by_cases h2 : D2 t.j <;> simp [h1, h2, putT_get, hd, h]

theorem tmD_put {D : Nat → Bool} {dst : Option Nat} {v : Value} : ∀ (T : List Tr) (tm : List Value), (∀ u ∈ T, D u.j = true → ∀ d, dst = some d → u.o.dst ≠ some d) → tmD D T (putT dst v tm) = putT dst v (tmD D T tm)
  | [], _, _ => rfl
  | t :: T, tm, h => by
    simp only [tmD]
    rw [← tmD_put T _ (fun u hu => h u (by simp [hu]))]
    congr 1
    split
    · rename_i hd
      have := h t (by simp) hd
      unfold putT
      cases hdst : dst with
      | none => rfl
      | some d =>
        cases htd : t.o.dst with
        | none => rfl
        | some e =>
          simp only
          rw [List.set_comm]
          intro e0; subst e0
          exact this d hdst htd
    · rfl

theorem tmD_congr {D1 D2 : Nat → Bool} : ∀ (T : List Tr) (tm : List Value), (∀ t ∈ T, D1 t.j = D2 t.j) → tmD D1 T tm = tmD D2 T tm
  | [], _, _ => rfl
  | t :: T, tm, h => by
    simp only [tmD]
    rw [h t (by simp)]
    exact tmD_congr T _ fun u hu => h u (by simp [hu])

def heapAt (D : Nat → Bool) : List Tr → AHeap → AHeap
  | [], He => He
  | t :: ts, He => if isEff t.o && !(D t.j) then t.H else heapAt D ts He

theorem heapAt_congr {D1 D2 : Nat → Bool} {He : AHeap} : ∀ (T : List Tr), (∀ t ∈ T, isEff t.o = true → D1 t.j = D2 t.j) → heapAt D1 T He = heapAt D2 T He
  | [], _ => rfl
  | t :: T, h => by
    simp only [heapAt]
    rw [heapAt_congr T fun u hu => h u (by simp [hu])]
    by_cases he : isEff t.o = true
    · rw [h t (by simp) he]
    · simp [he]

theorem heapAt_skip {D : Nat → Bool} {He : AHeap} : ∀ (T1 T2 : List Tr), (∀ t ∈ T1, isEff t.o = true → D t.j = true) → heapAt D (T1 ++ T2) He = heapAt D T2 He
  | [], _, _ => rfl
  | t :: T1, T2, h => by
    simp only [List.cons_append, heapAt]
    rw [heapAt_skip T1 T2 fun u hu => h u (by simp [hu])]
    by_cases he : isEff t.o = true
    · simp [h t (by simp) he]
    · simp [he]

end B
end Go.Proofs.Ytnjoaffnfjlcaaa
