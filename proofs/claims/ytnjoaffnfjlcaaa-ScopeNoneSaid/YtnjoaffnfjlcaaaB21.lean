/-
  Functions: the run of a call, its limit, its contract.
-/
import Derived.Test.YtnjoaffnfjlcaaaB20
namespace Go.Proofs.Ytnjoaffnfjlcaaa
namespace B
open Go

def RisingC (c : Nat → CallT) : Prop := ∀ k k', k ≤ k' → CallT.le (c k) (c k')

theorem RisingC.at {c : Nat → CallT} (h : RisingC c) (f : FuncId) (args : List Value) (H : AHeap) : Rising fun k => c k f args H := fun k k' r hk hr => h k k' hk f args H r hr

noncomputable def limC (c : Nat → CallT) : CallT := fun f args H => lim fun k => c k f args H

theorem limC_some {c : Nat → CallT} (h : RisingC c) {f : FuncId} {args : List Value} {H : AHeap} {r : AEnd × AHeap} : limC c f args H = some r ↔ ∃ k, c k f args H = some r := lim_some (h.at f args H)

theorem le_limC {c : Nat → CallT} (h : RisingC c) (k : Nat) : CallT.le (c k) (limC c) := fun _ _ _ _ hr => (limC_some h).2 ⟨k, hr⟩

section
variable {P : Program} {c : Nat → CallT}

theorem evalIdx_cont (hc : RisingC c) {rnd : Bool} {ops : List Oper} {r : AExit × St} : ∀ (is : List Nat) (s : St), evalIdx P (limC c) rnd ops is s = some r → ∃ k, evalIdx P (c k) rnd ops is s = some r
  | [], s, h => ⟨0, h⟩
  | i :: rest, s, h => by
    unfold evalIdx at h
    unfold evalIdx
    cases ho : ops[i]? with
    | none => rw [ho] at h; exact evalIdx_cont hc rest s h
    | some o =>
      rw [ho] at h
      dsimp only at h ⊢
      split at h
      · rename_i hw
        simp only [if_pos hw]
        split at h
        · rename_i cc hop
          split at h
          case isFalse => simp at h
          rename_i hcc
          simp only [if_pos hcc]
          split at h
          case h_2 => simp at h
          rename_i d hd
          exact evalIdx_cont hc rest _ h
        · rename_i hnd
          split at h
          · exact evalIdx_cont hc rest _ h
          · exact evalIdx_cont hc rest _ h
          · rename_i f args H hev
            split at h
            · rename_i v H' hcall
              obtain ⟨k1, h1⟩ := (limC_some hc).1 hcall
              obtain ⟨k2, h2⟩ := evalIdx_cont hc rest _ h
              refine ⟨max k1 k2, ?_⟩
              rw [hc k1 _ (by omega) _ _ _ _ h1]
              exact evalIdx_mono (hc k2 _ (by omega)) _ _ h2
            · rename_i v H' hcall
              obtain ⟨k1, h1⟩ := (limC_some hc).1 hcall
              exact ⟨k1, by rw [h1]; exact h⟩
            · simp at h
          · exact ⟨0, h⟩
          · simp at h
      · rename_i hw
        simp only [if_neg hw]
        exact evalIdx_cont hc rest _ h

theorem consT_some {t : Tr} {x : Option (List Tr × AHeap × AExit × St)} {r : List Tr × AHeap × AExit × St} (h : consT t x = some r) : ∃ q, x = some q ∧ consT t (some q) = some r := by
  cases x with
  | none => simp [consT] at h
  | some q => exact ⟨q, rfl, h⟩

theorem runPlan_cont (hc : RisingC c) {ops : List Oper} {dfs : List ADef} : ∀ (plan : List Nat) (tm : List Value) (H : AHeap) (r : List Tr × AHeap × AExit × St),
    runPlan P (limC c) ops dfs plan tm H = some r → ∃ k, runPlan P (c k) ops dfs plan tm H = some r := by
  intro plan
  induction plan with
  | nil => intro tm H r h; exact ⟨0, h⟩
  | cons j rest ih =>
    intro tm H r h
    unfold runPlan at h
    unfold runPlan
    cases ho : ops[j]? with
    | none => rw [ho] at h; simp at h
    | some o =>
      rw [ho] at h
      dsimp only at h ⊢
      split at h
      · rename_i hw
        simp only [if_pos hw]
        split at h
        · obtain ⟨q, h1, h2⟩ := consT_some h
          obtain ⟨k, hk⟩ := ih _ _ _ h1
          exact ⟨k, by rw [hk]; exact h2⟩
        · obtain ⟨q, h1, h2⟩ := consT_some h
          obtain ⟨k, hk⟩ := ih _ _ _ h1
          exact ⟨k, by rw [hk]; exact h2⟩
        · split at h
          · rename_i v H' hcall
            obtain ⟨k1, h1⟩ := (limC_some hc).1 hcall
            obtain ⟨q, h3, h4⟩ := consT_some h
            obtain ⟨k2, h2⟩ := ih _ _ _ h3
            refine ⟨max k1 k2, ?_⟩
            rw [hc k1 _ (by omega) _ _ _ _ h1]
            dsimp only
            rw [runPlan_mono (hc k2 (max k1 k2) (by omega)) _ _ _ h2]
            exact h4
          · rename_i v H' hcall
            obtain ⟨k1, h1⟩ := (limC_some hc).1 hcall
            exact ⟨k1, by rw [h1]; exact h⟩
          · simp at h
        · exact ⟨0, h⟩
        · simp at h
      · rename_i hw
        simp only [if_neg hw]
        obtain ⟨q, h1, h2⟩ := consT_some h
        obtain ⟨k, hk⟩ := ih _ _ _ h1
        exact ⟨k, by rw [hk]; exact h2⟩

theorem drawRun_cont (hc : RisingC c) {ops : List Oper} {s : St} {r : AExit × St} (h : drawRun P (limC c) ops s = some r) : ∃ k, drawRun P (c k) ops s = some r := by
  unfold drawRun at h
  split at h
  case h_2 => simp at h
  rename_i T He x s' hr
  obtain ⟨k, hk⟩ := runPlan_cont hc _ _ _ _ hr
  refine ⟨k, ?_⟩
  unfold drawRun
  rw [hk]
  exact h

end

/-! ### Functions -/
def resultA (P : Program) (H : AHeap) (tmps : List Value) : ResultVar → Option Value
  | .tmp t => some (tmps.getD t undef)
  | .cell a t => match tmps.getD a undef with
    | .pointer (some ad) => H.loadV P t ad
    | _ => none

def resultsA (P : Program) (H : AHeap) (tmps : List Value) : List ResultVar → Option (List Value)
  | [] => some []
  | r :: rs => match resultA P H tmps r with
    | some v => match resultsA P H tmps rs with
      | some vs => some (v :: vs)
      | none => none
    | none => none

def packA : List Value → Value
  | [v] => v
  | vs => .tuple vs.toArray

/-- What a function hands back. -/
def leaveA (P : Program) (fn : Func) : Option (AExit × St) → Option (AEnd × AHeap)
  | some (.normal, ⟨tmps, [], H⟩) => match resultsA P H tmps fn.results.toList with
    | some vs => some (.ret (packA vs), H)
    | none => none
  | some (.ret, ⟨tmps, [], H⟩) => match resultsA P H tmps fn.results.toList with
    | some vs => some (.ret (packA vs), H)
    | none => none
  | some (.panic v, ⟨_, [], H⟩) => some (.panic v, H)
  | _ => none

def enterA (fn : Func) (args : List Value) (H : AHeap) : St := ⟨args ++ List.replicate (fn.ntmps - args.length) undef, [], H⟩

def setAll (ps : List Tmp) (args tmps : List Value) : List Value := (ps.zip args).foldl (fun tmps p => tmps.set p.1 p.2) tmps

/-- A round of a range over a function, its body left. -/
def roundB (K : Nat) : Option (AExit × St) → Option (AEnd × AHeap)
  | some (x, s2) => match jumpOf x with
    | some j => match s2.H.get K with
      | some (.loop r2) => some (.ret (.bool j.isNone), s2.H.set K (.loop { r2 with state := if j.isNone then .ready else .done, pending := j }))
      | _ => none
    | none => none
  | none => none

def roundA (K : Nat) (x : Option (AExit × St)) (k : St → Option (AExit × St)) : Option (AEnd × AHeap) :=
  match x with
  | some (.normal, s1) => match s1.H.get K with
    | some (.loop r1) => if r1.state = .ready then roundB K (k ⟨s1.tmps, s1.dfs, s1.H.set K (.loop { r1 with state := .busy })⟩) else none
    | _ => none
  | _ => none

noncomputable def evalRound (P : Program) (call : CallT) (k : Nat) (K : Nat) (args : List Value) (H : AHeap) : Option (AEnd × AHeap) :=
  match H.get K with
  | some (.loop r) => roundA K (evalCode P call true k r.assign ⟨setAll r.params.toList args r.tmps, [], H⟩) (fun s => evalCode P call true k r.body s)
  | _ => none

noncomputable def evalBody (P : Program) (call : CallT) (k : Nat) (f : FuncId) (args : List Value) (H : AHeap) : Option (AEnd × AHeap) :=
  match P.funcs[f]? with
  | some fn => match fn.body with
    | some c => leaveA P fn (evalCode P call false k c (enterA fn args H))
    | none => none
  | none => evalRound P call k (f - P.funcs.size) args H

noncomputable def evalFn (P : Program) (ext : CallT) : Nat → CallT
  | 0 => ext
  | k + 1 => fun f args H => match ext f args H with
    | some r => some r
    | none => evalBody P (evalFn P ext k) k f args H

noncomputable def theCall (P : Program) (ext : CallT) : CallT := limC (evalFn P ext)

noncomputable def theCode (P : Program) (ext : CallT) (rnd : Bool) (c : Code) (s : St) : Option (AExit × St) := lim fun k => evalCode P (evalFn P ext k) rnd k c s

section
variable {P : Program} {ext : CallT}

theorem roundA_mono {K : Nat} {x x' : Option (AExit × St)} {k k' : St → Option (AExit × St)} {r : AEnd × AHeap} (hx : ∀ q, x = some q → x' = some q) (hk : ∀ s q, k s = some q → k' s = some q) (h : roundA K x k = some r) : roundA K x' k' = some r := by
  unfold roundA at h ⊢
  split at h
  case h_2 => simp at h
  rename_i s1
  rw [hx _ rfl]
  dsimp only
  split at h
  case h_2 => simp at h
  rename_i r1 hr1
  split at h
  case isFalse => simp at h
  rename_i hst
  try rw [hr1]
  try dsimp only
  rw [if_pos hst]
  generalize (⟨s1.tmps, s1.dfs, s1.H.set K (.loop { r1 with state := .busy })⟩ : St) = s at h
  cases he : k s with
  | none => rw [he] at h; simp [roundB] at h
  | some q => rw [hk _ _ he]; rw [he] at h; exact h

theorem evalRound_mono {call call' : CallT} {k k' : Nat} (hle : CallT.le call call') (hk : k ≤ k') {K : Nat} {args : List Value} {H : AHeap} {r : AEnd × AHeap} (h : evalRound P call k K args H = some r) : evalRound P call' k' K args H = some r := by
  unfold evalRound at h ⊢
  split at h
  case h_2 => simp at h
  exact roundA_mono (fun q hq => evalCode_mono _ _ _ _ _ _ _ hle hk hq) (fun s q hq => evalCode_mono _ _ _ _ _ _ _ hle hk hq) h

theorem evalBody_mono {call call' : CallT} {k k' : Nat} (hle : CallT.le call call') (hk : k ≤ k') {f : FuncId} {args : List Value} {H : AHeap} {r : AEnd × AHeap} (h : evalBody P call k f args H = some r) : evalBody P call' k' f args H = some r := by
  unfold evalBody at h ⊢
  split at h
  case h_2 => exact evalRound_mono hle hk h
  rename_i fn hf
  split at h
  case h_2 => simp at h
  rename_i c hb
  try rw [hf]
  try dsimp only
  try rw [hb]
  try dsimp only
  cases he : evalCode P call false k c (enterA fn args H) with
  | none => rw [he] at h; simp [leaveA] at h
  | some q => rw [he] at h; rw [evalCode_mono _ _ _ _ _ _ _ hle hk he]; exact h

theorem evalFn_rising : RisingC (evalFn P ext) := by
  have step : ∀ k, CallT.le (evalFn P ext k) (evalFn P ext (k + 1)) := by
    intro k
    induction k with
    | zero => intro f args H r h; unfold evalFn; rw [show ext f args H = some r from h]
    | succ k ih =>
      intro f args H r h
      rw [evalFn] at h ⊢
      dsimp only at h ⊢
      split at h
      · exact h
      · exact evalBody_mono ih (Nat.le_succ _) h
  intro k k' hk
  induction k' with
  | zero => obtain rfl : k = 0 := by omega
            exact CallT.le_refl _
  | succ k' ih =>
    rcases Nat.lt_or_ge k (k' + 1) with h | h
    · exact fun f args H r hr => step k' _ _ _ _ (ih (by omega) _ _ _ _ hr)
    · obtain rfl : k = k' + 1 := by omega
      exact CallT.le_refl _

theorem theCode_rising {rnd : Bool} {c : Code} {s : St} : Rising fun k => evalCode P (evalFn P ext k) rnd k c s := fun k k' r hk h => evalCode_mono _ _ _ _ _ _ _ (evalFn_rising k k' hk) hk h

theorem theCall_some {f : FuncId} {args : List Value} {H : AHeap} {r : AEnd × AHeap} : theCall P ext f args H = some r ↔ ∃ k, evalFn P ext k f args H = some r := limC_some evalFn_rising

theorem theCode_some {rnd : Bool} {c : Code} {s : St} {r : AExit × St} : theCode P ext rnd c s = some r ↔ ∃ k, evalCode P (evalFn P ext k) rnd k c s = some r := lim_some theCode_rising

/-! ### The limit's equations -/
theorem theCode_skip {rnd : Bool} {s : St} : theCode P ext rnd .skip s = some (.normal, s) := theCode_some.2 ⟨0, by rw [evalCode]⟩
theorem theCode_exit {rnd : Bool} {id : Nat} {s : St} : theCode P ext rnd (.exit id) s = some (.exit id, s) := theCode_some.2 ⟨0, by rw [evalCode]⟩
theorem theCode_ret {rnd : Bool} {s : St} : theCode P ext rnd .ret s = some (.ret, s) := theCode_some.2 ⟨0, by rw [evalCode]⟩
theorem theCode_label {rnd : Bool} {l : Nat} {s : St} : theCode P ext rnd (.label l) s = some (.normal, s) := theCode_some.2 ⟨0, by rw [evalCode]⟩

theorem theCode_region {rnd : Bool} {id : Nat} {ops : Array Oper} {s : St} : theCode P ext rnd (.region id ops false) s = evalIdx P (theCall P ext) rnd ops.toList (List.range ops.size) s := by
  refine opt_ext fun r => ?_
  rw [theCode_some]
  constructor
  · rintro ⟨k, hk⟩
    rw [evalCode] at hk
    exact evalIdx_mono (le_limC evalFn_rising k) _ _ (by simpa using hk)
  · intro h
    obtain ⟨k, hk⟩ := evalIdx_cont evalFn_rising _ _ h
    exact ⟨k, by rw [evalCode]; simpa using hk⟩

theorem theCode_draw {rnd : Bool} {id : Nat} {ops : Array Oper} {s : St} : theCode P ext rnd (.region id ops true) s = drawRun P (theCall P ext) ops.toList s := by
  refine opt_ext fun r => ?_
  rw [theCode_some]
  constructor
  · rintro ⟨k, hk⟩
    rw [evalCode] at hk
    exact drawRun_mono (le_limC evalFn_rising k) (by simpa using hk)
  · intro h
    obtain ⟨k, hk⟩ := drawRun_cont evalFn_rising h
    exact ⟨k, by rw [evalCode]; simpa using hk⟩

/-- On behind a normal end. -/
def thenA (x : Option (AExit × St)) (k : St → Option (AExit × St)) : Option (AExit × St) :=
  match x with
  | some (.normal, s1) => k s1
  | r => r

def inBlockA (id : Nat) (x : Option (AExit × St)) : Option (AExit × St) :=
  match x with
  | some (.exit i, s1) => if i = id then some (.normal, s1) else some (.exit i, s1)
  | r => r

theorem thenA_some {x : Option (AExit × St)} {k : St → Option (AExit × St)} {r : AExit × St} : thenA x k = some r ↔ (∃ s1, x = some (.normal, s1) ∧ k s1 = some r) ∨ (x = some r ∧ r.1 ≠ .normal) := by
  unfold thenA
  split
  · rename_i s1
    constructor
    · intro h; exact .inl ⟨s1, rfl, h⟩
    · rintro (⟨s2, h1, h2⟩ | ⟨h1, h2⟩)
      · simp at h1; subst h1; exact h2
      · simp at h1; subst h1; exact absurd rfl h2
  · rename_i hne
    constructor
    · intro h
      refine .inr ⟨h, ?_⟩
      intro hr
      obtain ⟨r1, r2⟩ := r
      simp only at hr
      subst hr
      exact hne _ h
    · rintro (⟨s2, h1, h2⟩ | ⟨h1, h2⟩)
      · exact absurd h1 (hne _)
      · exact h1

theorem evalCode_seq {call : CallT} {rnd : Bool} {k : Nat} {a b : Code} {s : St} : evalCode P call rnd k (.seq a b) s = thenA (evalCode P call rnd k a s) fun s1 => evalCode P call rnd k b s1 := by
  rw [evalCode]; unfold thenA; rfl

theorem theCode_seq {rnd : Bool} {a b : Code} {s : St} : theCode P ext rnd (.seq a b) s = thenA (theCode P ext rnd a s) fun s1 => theCode P ext rnd b s1 := by
  refine opt_ext fun r => ?_
  rw [theCode_some, thenA_some]
  constructor
  · rintro ⟨k, hk⟩
    rw [evalCode_seq, thenA_some] at hk
    rcases hk with ⟨s1, h1, h2⟩ | ⟨h1, h2⟩
    · exact .inl ⟨s1, theCode_some.2 ⟨k, h1⟩, theCode_some.2 ⟨k, h2⟩⟩
    · exact .inr ⟨theCode_some.2 ⟨k, h1⟩, h2⟩
  · rintro (⟨s1, h1, h2⟩ | ⟨h1, h2⟩)
    · obtain ⟨k1, h1⟩ := theCode_some.1 h1
      obtain ⟨k2, h2⟩ := theCode_some.1 h2
      refine ⟨max k1 k2, ?_⟩
      rw [evalCode_seq, thenA_some]
      exact .inl ⟨s1, theCode_rising _ _ _ (by omega) h1, theCode_rising _ _ _ (by omega) h2⟩
    · obtain ⟨k1, h1⟩ := theCode_some.1 h1
      refine ⟨k1, ?_⟩
      rw [evalCode_seq, thenA_some]
      exact .inr ⟨h1, h2⟩

theorem theCode_cond {rnd : Bool} {c : Operand} {a b : Code} {s : St} {t : Bool} (hok : operandOk c = true) (hc : aev s.tmps c = .bool t) : theCode P ext rnd (.cond c a b) s = if t then theCode P ext rnd a s else theCode P ext rnd b s := by
  refine opt_ext fun r => ?_
  have h : ∀ k, evalCode P (evalFn P ext k) rnd k (.cond c a b) s = if t then evalCode P (evalFn P ext k) rnd k a s else evalCode P (evalFn P ext k) rnd k b s := by
    intro k; rw [evalCode, hok, hc]; cases t <;> rfl
  rw [theCode_some]
  simp only [h]
  cases t
  · simp only [Bool.false_eq_true, if_false]; exact theCode_some.symm
  · simp only [if_true]; exact theCode_some.symm

theorem theCode_block {rnd : Bool} {id : Nat} {a : Code} {s : St} : theCode P ext rnd (.block id a) s = inBlockA id (theCode P ext rnd a s) := by
  refine opt_ext fun r => ?_
  have h : ∀ k, evalCode P (evalFn P ext k) rnd k (.block id a) s = inBlockA id (evalCode P (evalFn P ext k) rnd k a s) := by
    intro k; rw [evalCode]; rfl
  rw [theCode_some]
  simp only [h]
  constructor
  · rintro ⟨k, hk⟩
    cases he : evalCode P (evalFn P ext k) rnd k a s with
    | none => rw [he] at hk; simp [inBlockA] at hk
    | some q => rw [theCode_some.2 ⟨k, he⟩]; rw [he] at hk; exact hk
  · intro hh
    cases he : theCode P ext rnd a s with
    | none => rw [he] at hh; simp [inBlockA] at hh
    | some q =>
      obtain ⟨k, hk⟩ := theCode_some.1 he
      exact ⟨k, by rw [hk]; rw [he] at hh; exact hh⟩

theorem evalCode_loop {call : CallT} {rnd : Bool} {k : Nat} {a : Code} {s : St} : evalCode P call rnd (k + 1) (.loop a) s = thenA (evalCode P call rnd k a s) fun s1 => evalCode P call rnd k (.loop a) s1 := by
  rw [evalCode]; unfold thenA; rfl

theorem theCode_loop {rnd : Bool} {a : Code} {s : St} : theCode P ext rnd (.loop a) s = thenA (theCode P ext rnd a s) fun s1 => theCode P ext rnd (.loop a) s1 := by
  refine opt_ext fun r => ?_
  rw [theCode_some, thenA_some]
  constructor
  · rintro ⟨k, hk⟩
    cases k with
    | zero => rw [evalCode] at hk; simp at hk
    | succ k =>
      rw [evalCode_loop, thenA_some] at hk
      have up : ∀ c s r, evalCode P (evalFn P ext (k + 1)) rnd k c s = some r → theCode P ext rnd c s = some r := fun c s r h => theCode_some.2 ⟨k + 1, evalCode_mono _ _ _ _ _ _ _ (CallT.le_refl _) (Nat.le_succ _) h⟩
      rcases hk with ⟨s1, h1, h2⟩ | ⟨h1, h2⟩
      · exact .inl ⟨s1, up _ _ _ h1, up _ _ _ h2⟩
      · exact .inr ⟨up _ _ _ h1, h2⟩
  · rintro (⟨s1, h1, h2⟩ | ⟨h1, h2⟩)
    · obtain ⟨k1, h1⟩ := theCode_some.1 h1
      obtain ⟨k2, h2⟩ := theCode_some.1 h2
      refine ⟨max k1 k2 + 1, ?_⟩
      rw [evalCode_loop, thenA_some]
      exact .inl ⟨s1, evalCode_mono _ _ _ _ _ _ _ (evalFn_rising _ _ (by omega)) (by omega) h1, evalCode_mono _ _ _ _ _ _ _ (evalFn_rising _ _ (by omega)) (by omega) h2⟩
    · obtain ⟨k1, h1⟩ := theCode_some.1 h1
      refine ⟨k1 + 1, ?_⟩
      rw [evalCode_loop, thenA_some]
      exact .inr ⟨evalCode_mono _ _ _ _ _ _ _ (evalFn_rising _ _ (by omega)) (by omega) h1, h2⟩

theorem theCode_range {g : Operand} {ps : Array Tmp} {as body : Code} {s : St} : theCode P ext false (.rangeFunc g ps as body) s =
    match rangeCallA P s g ps as body with
    | some (f, args, H1) => rangeEnd s.H.next s (theCall P ext f args H1)
    | none => none := by
  refine opt_ext fun r => ?_
  rw [theCode_some]
  cases hrc : rangeCallA P s g ps as body with
  | none =>
    constructor
    · rintro ⟨k, hk⟩; rw [evalCode] at hk; simp [hrc] at hk
    · intro h; simp at h
  | some q =>
    obtain ⟨f, args, H1⟩ := q
    constructor
    · rintro ⟨k, hk⟩
      rw [evalCode] at hk
      simp only [Bool.false_eq_true, if_false, hrc] at hk
      dsimp only
      cases hc : evalFn P ext k f args H1 with
      | none => rw [hc] at hk; simp [rangeEnd] at hk
      | some q => rw [theCall_some.2 ⟨k, hc⟩]; rw [hc] at hk; exact hk
    · intro h
      dsimp only at h
      cases hc : theCall P ext f args H1 with
      | none => rw [hc] at h; simp [rangeEnd] at h
      | some q =>
        obtain ⟨k, hk⟩ := theCall_some.1 hc
        refine ⟨k, ?_⟩
        rw [evalCode]
        simp only [Bool.false_eq_true, if_false, hrc]
        rw [hk]; rw [hc] at h; exact h

theorem theCall_ext {f : FuncId} {args : List Value} {H : AHeap} {r : AEnd × AHeap} (h : ext f args H = some r) : theCall P ext f args H = some r := theCall_some.2 ⟨0, h⟩

theorem theCall_body {f : FuncId} {fn : Func} {c : Code} {args : List Value} {H : AHeap} (hx : ext f args H = none) (hf : P.funcs[f]? = some fn) (hb : fn.body = some c) :
    theCall P ext f args H = leaveA P fn (theCode P ext false c (enterA fn args H)) := by
  refine opt_ext fun r => ?_
  rw [theCall_some]
  have hbody : ∀ call k, evalBody P call k f args H = leaveA P fn (evalCode P call false k c (enterA fn args H)) := by
    intro call k; unfold evalBody; rw [hf]; dsimp only; rw [hb]
  constructor
  · rintro ⟨k, hk⟩
    cases k with
    | zero => rw [evalFn, hx] at hk; simp at hk
    | succ k =>
      rw [evalFn] at hk
      simp only [hx] at hk
      rw [hbody] at hk
      cases he : evalCode P (evalFn P ext k) false k c (enterA fn args H) with
      | none => rw [he] at hk; simp [leaveA] at hk
      | some q => rw [theCode_some.2 ⟨k, he⟩]; rw [he] at hk; exact hk
  · intro hh
    cases he : theCode P ext false c (enterA fn args H) with
    | none => rw [he] at hh; simp [leaveA] at hh
    | some q =>
      obtain ⟨k, hk⟩ := theCode_some.1 he
      refine ⟨k + 1, ?_⟩
      rw [evalFn]
      simp only [hx]
      rw [hbody, hk]
      rw [he] at hh; exact hh

theorem theCall_round {K : Nat} {r : ALoop} {args : List Value} {H : AHeap} (hx : ext (P.funcs.size + K) args H = none) (hr : H.get K = some (.loop r)) :
    theCall P ext (P.funcs.size + K) args H = roundA K (theCode P ext true r.assign ⟨setAll r.params.toList args r.tmps, [], H⟩) (fun s => theCode P ext true r.body s) := by
  refine opt_ext fun q => ?_
  rw [theCall_some]
  have hf : P.funcs[P.funcs.size + K]? = none := Array.getElem?_eq_none (by omega)
  have hbody : ∀ call k, evalBody P call k (P.funcs.size + K) args H = roundA K (evalCode P call true k r.assign ⟨setAll r.params.toList args r.tmps, [], H⟩) (fun s => evalCode P call true k r.body s) := by
    intro call k; unfold evalBody; rw [hf]; dsimp only; rw [Nat.add_sub_cancel_left]; unfold evalRound; rw [hr]
  constructor
  · rintro ⟨k, hk⟩
    cases k with
    | zero => rw [evalFn, hx] at hk; simp at hk
    | succ k =>
      rw [evalFn] at hk
      simp only [hx] at hk
      rw [hbody] at hk
      exact roundA_mono (fun _ h => theCode_some.2 ⟨k, h⟩) (fun _ _ h => theCode_some.2 ⟨k, h⟩) hk
  · intro hh
    have key : ∃ k, roundA K (evalCode P (evalFn P ext k) true k r.assign ⟨setAll r.params.toList args r.tmps, [], H⟩) (fun s => evalCode P (evalFn P ext k) true k r.body s) = some q := by
      unfold roundA at hh
      split at hh
      case h_2 => simp at hh
      rename_i s1 h1
      obtain ⟨k1, h1⟩ := theCode_some.1 h1
      split at hh
      case h_2 => simp at hh
      rename_i r1 hr1
      split at hh
      case isFalse => simp at hh
      rename_i hst
      dsimp only at hh
      cases h2 : theCode P ext true r.body ⟨s1.tmps, s1.dfs, s1.H.set K (.loop { r1 with state := .busy })⟩ with
      | none => rw [h2] at hh; simp [roundB] at hh
      | some p =>
        obtain ⟨k2, h3⟩ := theCode_some.1 h2
        refine ⟨max k1 k2, ?_⟩
        unfold roundA
        rw [evalCode_mono _ _ _ _ _ _ _ (evalFn_rising k1 (max k1 k2) (by omega)) (Nat.le_max_left k1 k2) h1]
        try dsimp only
        try rw [hr1]
        try dsimp only
        rw [if_pos hst, evalCode_mono _ _ _ _ _ _ _ (evalFn_rising k2 (max k1 k2) (by omega)) (Nat.le_max_right k1 k2) h3]
        rw [h2] at hh; exact hh
    obtain ⟨k, hk⟩ := key
    refine ⟨k + 1, ?_⟩
    rw [evalFn]
    simp only [hx]
    rw [hbody]; exact hk

end
end B
end Go.Proofs.Ytnjoaffnfjlcaaa
