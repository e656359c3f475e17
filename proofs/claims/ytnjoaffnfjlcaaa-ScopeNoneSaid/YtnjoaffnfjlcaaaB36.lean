/-
  Loops by an invariant; ranges over functions and their rounds, run; results out of cells.
-/
import Derived.Test.YtnjoaffnfjlcaaaB35
namespace Go.Proofs.Ytnjoaffnfjlcaaa
namespace B
open Go

theorem AHeap.ext' {H H' : AHeap} (h1 : H.next = H'.next) (h2 : ∀ j, H.get j = H'.get j) : H = H' := by
  cases H; cases H'
  simp only at h1 h2
  subst h1
  congr
  exact funext h2
theorem AHeap.set_set {H : AHeap} {i : Nat} {o o' : AObj} : (H.set i o).set i o' = H.set i o' := AHeap.ext' rfl fun j => by
  by_cases h : j = i <;> simp [AHeap.set, h]
theorem AHeap.set_self {H : AHeap} {i : Nat} {o : AObj} (h : H.get i = some o) : H.set i o = H := AHeap.ext' rfl fun j => by
  by_cases hj : j = i
  · subst hj; simp [AHeap.set, h]
  · simp [AHeap.set, hj]
theorem AHeap.set_comm {H : AHeap} {i j : Nat} {o o' : AObj} (h : i ≠ j) : (H.set i o).set j o' = (H.set j o').set i o := AHeap.ext' rfl fun k => by
  by_cases h1 : k = i
  · subst h1; simp [AHeap.set, h]
  · simp [AHeap.set, h1]
theorem AHeap.set_next {H : AHeap} {i : Nat} {o : AObj} : (H.set i o).next = H.next := rfl
theorem AHeap.push_next {H : AHeap} {o : AObj} : (H.push o).next = H.next + 1 := rfl

section
variable {P : Program} {ext : CallT} {rnd : Bool}

theorem theCode_loop_inv {c : Code} (I : Nat → St → Prop) (Q : AExit → St → Prop)
    (hstep : ∀ k s, I k s → (∃ s', theCode P ext rnd c s = some (.normal, s') ∧ ∃ k', k' < k ∧ I k' s') ∨ (∃ x s', theCode P ext rnd c s = some (x, s') ∧ x ≠ .normal ∧ Q x s')) :
    ∀ k s, I k s → ∃ x s', theCode P ext rnd (.loop c) s = some (x, s') ∧ x ≠ .normal ∧ Q x s' := by
  intro k
  induction k using Nat.strongRecOn with
  | _ k ih =>
    intro s hI
    rw [theCode_loop]
    rcases hstep k s hI with ⟨s', h1, k', hk, hI'⟩ | ⟨x, s', h1, hx, hq⟩
    · rw [h1, thenA_normal]; exact ih k' hk s' hI'
    · refine ⟨x, s', ?_, hx, hq⟩
      rw [h1]
      cases x <;> first | exact absurd rfl hx | rfl

/-- A loop met in a goal. -/
theorem loop_goal {c : Code} {F : Option (AExit × St) → Prop} (I : Nat → St → Prop) (Q : AExit → St → Prop) {s : St}
    (k : Nat) (h0 : I k s)
    (hstep : ∀ k s, I k s → (∃ s', theCode P ext rnd c s = some (.normal, s') ∧ ∃ k', k' < k ∧ I k' s') ∨ (∃ x s', theCode P ext rnd c s = some (x, s') ∧ x ≠ .normal ∧ Q x s'))
    (hF : ∀ x s', x ≠ .normal → Q x s' → F (some (x, s'))) : F (theCode P ext rnd (.loop c) s) := by
  obtain ⟨x, s', h, hx, hq⟩ := theCode_loop_inv I Q hstep k s h0
  rw [h]; exact hF x s' hx hq

theorem theCall_goal {F : Option (AEnd × AHeap) → Prop} {f : FuncId} {fn : Func} {c : Code} {rs : List ResultVar} {n : Nat} {args : List Value} {H : AHeap} (hx : ext f args H = none) (hf : P.funcs[f]? = some fn) (hb : fn.body = some c)
    (hr : fn.results.toList = rs) (hn : fn.ntmps = n) (hl : args.length ≤ n) (h : ∀ tm : List Value, tm.length = n → (∀ i, tm.getD i undef = args.getD i undef) → F (leaveR P rs (theCode P ext false c ⟨tm, [], H⟩))) :
    F (theCall P ext f args H) := by
  have hl' : (args ++ List.replicate (n - args.length) undef).length = n := by simp; omega
  have hi : ∀ i, (args ++ List.replicate (n - args.length) undef).getD i undef = args.getD i undef := fun i => by
    rw [List.getD_eq_getElem?_getD, List.getD_eq_getElem?_getD]
    rcases Nat.lt_or_ge i args.length with hi | hi
    · rw [List.getElem?_append_left hi]
    · rw [List.getElem?_append_right hi, List.getElem?_eq_none hi, List.getElem?_replicate]
      split <;> rfl
  have := h _ hl' hi
  rw [theCall_run hx hf hb hr hn hl fun tm h1 h2 => ?_]
  · exact this
  · have e : tm = args ++ List.replicate (n - args.length) undef := by
      apply List.ext_getElem?
      intro i
      have h3 := h2 i
      have h4 := hi i
      rw [← h4, List.getD_eq_getElem?_getD, List.getD_eq_getElem?_getD] at h3
      rcases Nat.lt_or_ge i n with h5 | h5
      · rw [List.getElem?_eq_getElem (by omega), List.getElem?_eq_getElem (by omega)] at h3 ⊢
        simpa using h3
      · rw [List.getElem?_eq_none (by omega), List.getElem?_eq_none (by omega)]
    rw [e]

/-! ### A range over a function -/
noncomputable def rangeS (P : Program) (ext : CallT) (s : St) (ps : Array Tmp) (as body : Code) : Value → Option (AExit × St)
  | .func (.func f) first cap => if enterB P f then rangeEnd s.H.next s (theCall P ext f (first.toList ++ [.func (.yield s.H.next) #[] #[]] ++ cap.toList) (s.H.push (.loop ⟨.ready, none, s.tmps, ps, as, body⟩))) else none
  | _ => none

theorem theCode_rangeS {g : Operand} {ps : Array Tmp} {as body : Code} {s : St} (hg : operandOk g = true) : theCode P ext false (.rangeFunc g ps as body) s = rangeS P ext s ps as body (aev s.tmps g) := by
  rw [theCode_range]
  unfold rangeCallA rangeS
  rw [if_pos hg]
  cases aev s.tmps g <;> try rfl
  rename_i fv first cap
  cases fv <;> try rfl
  rename_i f
  dsimp only
  unfold enterB
  cases P.funcs[f]? with
  | none => rfl
  | some fn =>
    dsimp only
    split <;> rename_i h
    · split at h
      · rename_i he
        simp only [Option.some.injEq, Prod.mk.injEq] at h
        obtain ⟨rfl, rfl, rfl⟩ := h
        rw [if_pos he]
      · simp at h
    · split at h
      · simp at h
      · rename_i he; rw [if_neg he]

theorem rangeS_func {s : St} {ps : Array Tmp} {as body : Code} {f : FuncId} {first cap : List Value} (h : enterB P f = true) : rangeS P ext s ps as body (.func (.func f) first.toArray cap.toArray) =
    rangeEnd s.H.next s (theCall P ext f (first ++ [.func (.yield s.H.next) #[] #[]] ++ cap) (s.H.push (.loop ⟨.ready, none, s.tmps, ps, as, body⟩))) := by
  unfold rangeS; dsimp only; rw [if_pos h]

theorem rangeS_cap {s : St} {ps : Array Tmp} {as body : Code} {f : FuncId} {cap : List Value} (h : enterB P f = true) : rangeS P ext s ps as body (.func (.func f) #[] cap.toArray) =
    rangeEnd s.H.next s (theCall P ext f (.func (.yield s.H.next) #[] #[] :: cap) (s.H.push (.loop ⟨.ready, none, s.tmps, ps, as, body⟩))) := by
  have := rangeS_func (P := P) (ext := ext) (s := s) (ps := ps) (as := as) (body := body) (first := []) (cap := cap) h
  simpa using this
theorem callS_cap {H : AHeap} {args : List Value} {g : FuncId} {cap : List Value} (h : enterB P g = true) : callS P H args (.func (.func g) #[] cap.toArray) = some (.enter g (args ++ cap) H) := by
  unfold callS; simp [h]

theorem rangeEnd_of {K : Nat} {s : St} {v : Value} {H' : AHeap} {r : ALoop} {x : AExit} (h : H'.get K = some (.loop r)) (hs : r.state ≠ .busy) (hx : exitOf r.pending = some x) :
    rangeEnd K s (some (.ret v, H')) = some (x, ⟨s.tmps, s.dfs, H'.set K (.loop { r with state := .exhausted })⟩) := by
  unfold rangeEnd
  dsimp only
  rw [h]
  dsimp only
  rw [if_neg hs, hx]

theorem roundA_normal {K : Nat} {tm : List Value} {dfs : List ADef} {H : AHeap} {r1 : ALoop} {k : St → Option (AExit × St)} (h : H.get K = some (.loop r1)) (hs : r1.state = .ready) :
    roundA K (some (.normal, ⟨tm, dfs, H⟩)) k = roundB K (k ⟨tm, dfs, H.set K (.loop { r1 with state := .busy })⟩) := by
  unfold roundA
  dsimp only
  rw [h]
  dsimp only
  rw [if_pos hs]
theorem roundB_normal {K : Nat} {tm : List Value} {dfs : List ADef} {H : AHeap} {r2 : ALoop} (h : H.get K = some (.loop r2)) :
    roundB K (some (.normal, ⟨tm, dfs, H⟩)) = some (.ret (.bool true), H.set K (.loop { r2 with state := .ready, pending := none })) := by
  unfold roundB jumpOf; dsimp only; rw [h]; rfl
theorem roundB_ret {K : Nat} {tm : List Value} {dfs : List ADef} {H : AHeap} {r2 : ALoop} (h : H.get K = some (.loop r2)) :
    roundB K (some (.ret, ⟨tm, dfs, H⟩)) = some (.ret (.bool false), H.set K (.loop { r2 with state := .done, pending := some .ret })) := by
  unfold roundB jumpOf; dsimp only; rw [h]; rfl
theorem roundB_exit {K id : Nat} {tm : List Value} {dfs : List ADef} {H : AHeap} {r2 : ALoop} (h : H.get K = some (.loop r2)) :
    roundB K (some (.exit id, ⟨tm, dfs, H⟩)) = some (.ret (.bool false), H.set K (.loop { r2 with state := .done, pending := some (.exit id) })) := by
  unfold roundB jumpOf; dsimp only; rw [h]; rfl

theorem setAll_nil {as tmps : List Value} : setAll [] as tmps = tmps := rfl
theorem setAll_cons {p : Tmp} {ps : List Tmp} {a : Value} {as tmps : List Value} : setAll (p :: ps) (a :: as) tmps = setAll ps as (tmps.set p a) := rfl

theorem opA_makeFunc0 {H : AHeap} {ρ : Operand → Value} {ty : TypeId} {f : FuncId} {v : List Operand} (hv : v.all operandOk = true) : opA P H ρ (.makeFunc (.func f) #[] v.toArray) ty = some (.val (.func (.func f) #[] (v.map ρ).toArray) H) := by
  rw [opA_makeFunc (by simp) (by simpa using hv)]
  simp
theorem opA_makeFunc00 {H : AHeap} {ρ : Operand → Value} {ty : TypeId} {f : FuncId} : opA P H ρ (.makeFunc (.func f) #[] #[]) ty = some (.val (.func (.func f) #[] #[]) H) := by
  rw [opA_makeFunc (by simp) (by simp)]
  simp

/-! ### Results out of cells -/
def cellRes (P : Program) (H : AHeap) (t : TypeId) : Value → Option Value
  | .pointer (some a) => H.loadV P t a
  | _ => none
theorem cellRes_ptr {H : AHeap} {t : TypeId} {a : Addr} : cellRes P H t (.pointer (some a)) = H.loadV P t a := rfl
theorem resA_cell {H : AHeap} {tm : List Value} {a t : Nat} {rs : List ResultVar} : resultsA P H tm (.cell a t :: rs) = (cellRes P H t (tm.getD a undef)).bind fun v => (resultsA P H tm rs).map fun vs => v :: vs := by
  conv => lhs; unfold resultsA
  simp only [resultA, cellRes]
  cases tm.getD a undef <;> try rfl
  rename_i p
  cases p with
  | none => rfl
  | some ad =>
    dsimp only
    cases H.loadV P t ad with
    | none => rfl
    | some v => cases resultsA P H tm rs <;> rfl

/-- Nothing that stood has turned. -/
structure Grown (H H' : AHeap) : Prop where
  get : ∀ j, j < H.next → H'.get j = H.get j
  next : H.next ≤ H'.next
  fresh : H'.Fresh

theorem Grown.refl {H : AHeap} (h : H.Fresh) : Grown H H := ⟨fun _ _ => rfl, Nat.le_refl _, h⟩
theorem Grown.trans {H H1 H2 : AHeap} (h : Grown H H1) (g : Grown H1 H2) : Grown H H2 := ⟨fun j hj => (g.get j (Nat.lt_of_lt_of_le hj h.next)).trans (h.get j hj), Nat.le_trans h.next g.next, g.fresh⟩
theorem Grown.push {H : AHeap} (h : H.Fresh) (o : AObj) : Grown H (H.push o) := ⟨fun j hj => get_push_old (by omega), Nat.le_succ _, (AHeap.le_push H o).fresh h⟩
theorem Grown.push2 {H H1 : AHeap} (h : Grown H H1) (o : AObj) : Grown H (H1.push o) := h.trans (Grown.push h.fresh o)
/-- What is new may turn. -/
theorem Grown.set2 {H H1 : AHeap} (h : Grown H H1) {i : Nat} {x : AObj} (o : AObj) (hx : H1.get i = some x) (hi : H.next ≤ i) : Grown H (H1.set i o) :=
  ⟨fun j hj => by rw [get_set_ne (by omega)]; exact h.get j hj, h.next, (AHeap.le_set hx).fresh h.fresh⟩
theorem Grown.has {H H1 : AHeap} (h : Grown H H1) (hf : H.Fresh) {i : Nat} {x : AObj} (hx : H.get i = some x) : H1.get i = some x := by rw [h.get i (get_lt hf hx)]; exact hx
theorem Grown.own {H H1 : AHeap} (h : Grown H H1) (hf : H.Fresh) {e sz : Nat} {v : Value} {n : Nat} {cells : List Value} (ho : Own H e sz v n cells) : Own H1 e sz v n cells := ho.mono fun i hi => h.get i (ho.id_lt hf i hi)
theorem Grown.upd {H H1 : AHeap} (h : Grown H H1) (F : Nat → Prop) : Upd H F H1 F := ⟨fun j _ hj => h.get j hj, fun _ hj => .inl hj, h.fresh, h.next⟩

/-- The last index below n of which p is true. -/
def lastI (p : Nat → Bool) : Nat → Option Nat
  | 0 => none
  | n + 1 => if p n then some n else lastI p n

theorem lastI_succ {p : Nat → Bool} {n : Nat} : lastI p (n + 1) = if p n then some n else lastI p n := rfl

theorem lastI_some {p : Nat → Bool} : ∀ {n i : Nat}, lastI p n = some i → i < n ∧ p i = true ∧ ∀ j, i < j → j < n → p j = false
  | 0, i, h => by simp [lastI] at h
  | n + 1, i, h => by
    unfold lastI at h
    split at h
    · rename_i hp
      simp only [Option.some.injEq] at h
      subst h
      exact ⟨Nat.lt_succ_self _, hp, fun j h1 h2 => by omega⟩
    · rename_i hp
      obtain ⟨h1, h2, h3⟩ := lastI_some h
      refine ⟨by omega, h2, fun j h4 h5 => ?_⟩
      rcases Nat.lt_or_ge j n with h6 | h6
      · exact h3 j h4 h6
      · obtain rfl : j = n := by omega
        simpa using hp
theorem lastI_none {p : Nat → Bool} : ∀ {n : Nat}, lastI p n = none → ∀ j, j < n → p j = false
  | 0, _, j, hj => by omega
  | n + 1, h, j, hj => by
    unfold lastI at h
    split at h
    · simp at h
    · rename_i hp
      rcases Nat.lt_or_ge j n with h6 | h6
      · exact lastI_none h j h6
      · obtain rfl : j = n := by omega
        simpa using hp

end
end B
end Go.Proofs.Ytnjoaffnfjlcaaa
