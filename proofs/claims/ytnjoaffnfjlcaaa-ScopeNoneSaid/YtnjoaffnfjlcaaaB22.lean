/-
  Functions: what the abstract machine answers, the model answers.
-/
import Derived.Test.YtnjoaffnfjlcaaaB21
import Derived.RangeFuncLeaves
namespace Go.Proofs.Ytnjoaffnfjlcaaa
namespace B
open Go

section
variable {P : Program} {call : CallT}

theorem evalIdx_next (hcall : CallOK P call) {rnd : Bool} {ops : List Oper} {x : AExit} {s' : St} : ∀ (is : List Nat) (s : St), evalIdx P call rnd ops is s = some (x, s') → AHeap.le s.H s'.H
  | [], s, h => by
    simp only [evalIdx, Option.some.injEq, Prod.mk.injEq] at h
    obtain ⟨_, rfl⟩ := h
    exact AHeap.le_refl _
  | i :: rest, s, h => by
    unfold evalIdx at h
    cases ho : ops[i]? with
    | none => rw [ho] at h; exact evalIdx_next hcall rest s h
    | some o =>
      rw [ho] at h
      dsimp only at h
      split at h
      · rename_i hw
        split at h
        · rename_i c hop
          split at h
          case isFalse => simp at h
          split at h
          case h_2 => simp at h
          have := evalIdx_next hcall rest _ h
          exact this
        · rename_i hnd
          split at h
          · rename_i v H he
            exact AHeap.le_trans (evalAny_next he) (evalIdx_next hcall rest _ h)
          · rename_i H he
            exact AHeap.le_trans (evalAny_next he) (evalIdx_next hcall rest _ h)
          · rename_i f args H he
            split at h
            · rename_i v H' hc
              exact AHeap.le_trans (evalAny_next he) (AHeap.le_trans (hcall _ _ _ _ _ hc).1 (evalIdx_next hcall rest _ h))
            · rename_i v H' hc
              simp only [Option.some.injEq, Prod.mk.injEq] at h
              obtain ⟨_, rfl⟩ := h
              exact AHeap.le_trans (evalAny_next he) (hcall _ _ _ _ _ hc).1
            · simp at h
          · rename_i v H he
            simp only [Option.some.injEq, Prod.mk.injEq] at h
            obtain ⟨_, rfl⟩ := h
            exact evalAny_next he
          · simp at h
      · have := evalIdx_next hcall rest _ h
        exact this

theorem drawRun_next (hcall : CallOK P call) {ops : List Oper} {s : St} {x : AExit} {s' : St} (h : drawRun P call ops s = some (x, s')) : AHeap.le s.H s'.H := by
  unfold drawRun at h
  split at h
  case h_2 => simp at h
  rename_i T He x1 s1 hr
  split at h
  case isFalse => simp at h
  simp only [Option.some.injEq, Prod.mk.injEq] at h
  obtain ⟨_, rfl⟩ := h
  obtain ⟨tmE, rest, _, hch, hend⟩ := runPlan_spec _ _ _ _ _ _ _ hr
  have h1 := (Chain.next hcall T hch).1
  rcases hend with ⟨_, _, rfl⟩ | ⟨j, r, v, H', _, _, rfl, hp⟩
  · exact h1
  · obtain ⟨o, _, _, hh⟩ := hp.ex
    rcases hh with ⟨f, args, H1, he, hc⟩ | he
    · exact AHeap.le_trans h1 (AHeap.le_trans (evalAny_next he) (hcall _ _ _ _ _ hc).1)
    · exact AHeap.le_trans h1 (evalAny_next he)

theorem evalCode_next (hcall : CallOK P call) {rnd : Bool} : ∀ (k : Nat) (c : Code) (s : St) (x : AExit) (s' : St), evalCode P call rnd k c s = some (x, s') → AHeap.le s.H s'.H := by
  intro k
  induction k using Nat.strongRecOn with
  | _ k ihk =>
    intro c
    induction c with
    | seq c1 c2 ih1 ih2 =>
      intro s x s' h
      rw [evalCode] at h
      split at h
      · rename_i s1 h1
        exact AHeap.le_trans (ih1 _ _ _ h1) (ih2 _ _ _ h)
      · exact ih1 _ _ _ h
    | cond c c1 c2 ih1 ih2 =>
      intro s x s' h
      rw [evalCode] at h
      split at h
      case isFalse => simp at h
      split at h
      · exact ih1 _ _ _ h
      · exact ih2 _ _ _ h
      · simp at h
    | block id c1 ih1 =>
      intro s x s' h
      rw [evalCode] at h
      split at h
      · rename_i i s1 h1
        have := ih1 _ _ _ h1
        split at h <;> (obtain ⟨_, rfl⟩ := (by simpa using h); exact this)
      · exact ih1 _ _ _ h
    | loop c1 ih1 =>
      intro s x s' h
      cases k with
      | zero => rw [evalCode] at h; simp at h
      | succ k =>
        rw [evalCode] at h
        split at h
        · rename_i s1 h1
          exact AHeap.le_trans (ihk k (by omega) _ _ _ _ h1) (ihk k (by omega) _ _ _ _ h)
        · exact ihk k (by omega) _ _ _ _ h
    | region id ops draw =>
      intro s x s' h
      rw [evalCode] at h
      split at h
      · exact drawRun_next hcall h
      · exact evalIdx_next hcall _ _ h
    | skip => intro s x s' h; rw [evalCode] at h; obtain ⟨_, rfl⟩ := (by simpa using h : AExit.normal = x ∧ s = s'); exact AHeap.le_refl _
    | rangeFunc f ps as b _ _ =>
      intro s x s' h
      rw [evalCode] at h
      split at h
      case isTrue => simp at h
      split at h
      case h_2 => simp at h
      rename_i f0 args H1 hrc
      have h1 : AHeap.le s.H H1 := by
        unfold rangeCallA at hrc
        repeat' (split at hrc)
        all_goals first | (simp at hrc; done) | skip
        simp only [Option.some.injEq, Prod.mk.injEq] at hrc
        obtain ⟨_, _, rfl⟩ := hrc
        exact AHeap.le_push _ _
      unfold rangeEnd at h
      split at h
      case h_2 => simp at h
      rename_i v H' hc
      split at h
      case h_2 => simp at h
      rename_i r hr
      split at h
      case isTrue => simp at h
      split at h
      case h_2 => simp at h
      simp only [Option.some.injEq, Prod.mk.injEq] at h
      obtain ⟨_, rfl⟩ := h
      exact AHeap.le_trans h1 (AHeap.le_trans (hcall _ _ _ _ _ hc).1 (AHeap.le_set hr))
    | exit id => intro s x s' h; rw [evalCode] at h; obtain ⟨_, rfl⟩ := (by simpa using h : AExit.exit id = x ∧ s = s'); exact AHeap.le_refl _
    | scope b _ => intro s x s' h; rw [evalCode] at h; simp at h
    | label l => intro s x s' h; rw [evalCode] at h; obtain ⟨_, rfl⟩ := (by simpa using h : AExit.normal = x ∧ s = s'); exact AHeap.le_refl _
    | goto l => intro s x s' h; rw [evalCode] at h; simp at h
    | ret => intro s x s' h; rw [evalCode] at h; obtain ⟨_, rfl⟩ := (by simpa using h : AExit.ret = x ∧ s = s'); exact AHeap.le_refl _
    | refuse why => intro s x s' h; rw [evalCode] at h; simp at h

/-! ### Results -/
def resultSem (tmps : Array Value) : ResultVar → Sem Value
  | .tmp t => pure (tmps.getD t undef)
  | .cell a t => asAddr (tmps.getD a undef) >>= fun ad => loadVar t ad

def packC (vs : Array Value) : Value := if h : vs.size = 1 then vs[0] else .tuple vs

theorem results_eq (fn : Func) (tmps : Array Value) : results fn tmps = fn.results.mapM (resultSem tmps) >>= fun vs => pure (packC vs) := by
  unfold results
  congr 1

theorem resultA_run {N0 : Fz} {β : Emb} {H : AHeap} {w : World} (h : HRel P N0 β H w) {tmps : List Value} {tmps' : Array Value} (ht : VRels β tmps tmps'.toList) : ∀ {r : ResultVar} {v : Value}, resultA P H tmps r = some v →
    ∃ v', (resultSem tmps' r).run P w = .ok v' w ∧ VRel β v v' := by
  have hget : ∀ t, VRel β (tmps.getD t undef) (tmps'.getD t undef) := by
    intro t
    rw [List.getD_eq_getElem?_getD, Array.getD_eq_getD_getElem?, ← Array.getElem?_toList]
    cases hg : tmps[t]? with
    | none =>
      have : tmps'.toList[t]? = none := by
        have hl := VRels.length ht
        rw [List.getElem?_eq_none_iff] at hg ⊢
        omega
      rw [this]
      exact .closed rfl
    | some v =>
      obtain ⟨v', h1, h2⟩ := VRels.get ht hg
      rw [h1]; exact h2
  intro r v hr
  cases r with
  | tmp t =>
    simp only [resultA, Option.some.injEq] at hr
    subst hr
    exact ⟨_, rfl, hget t⟩
  | cell a t =>
    unfold resultA at hr
    dsimp only at hr
    split at hr
    · rename_i ad had
      have := hget a
      rw [had] at this
      obtain ⟨c, hc, ha⟩ := this.inv_pointer
      obtain ⟨v', h1, h2⟩ := h.loadV_run hr ha
      refine ⟨v', ?_, h2⟩
      show ((asAddr (tmps'.getD a undef) >>= fun ad => loadVar t ad) : Sem Value).run P w = _
      rw [hc]
      simp [asAddr, h1]
    · simp at hr

theorem resultsA_run {N0 : Fz} {β : Emb} {H : AHeap} {w : World} (h : HRel P N0 β H w) {tmps : List Value} {tmps' : Array Value} (ht : VRels β tmps tmps'.toList) : ∀ {rs : List ResultVar} {vs : List Value}, resultsA P H tmps rs = some vs →
    ∃ vs', (rs.mapM (resultSem tmps')).run P w = .ok vs' w ∧ VRels β vs vs'
  | [], vs, hr => by
    simp only [resultsA, Option.some.injEq] at hr
    subst hr
    exact ⟨[], by simp, .nil⟩
  | r :: rs, vs, hr => by
    unfold resultsA at hr
    split at hr
    case h_2 => simp at hr
    rename_i v hv
    split at hr
    case h_2 => simp at hr
    rename_i vs0 hvs
    simp only [Option.some.injEq] at hr
    subst hr
    obtain ⟨v', h1, h2⟩ := resultA_run h ht hv
    obtain ⟨vs', h3, h4⟩ := resultsA_run h ht hvs
    refine ⟨v' :: vs', ?_, .cons h2 h4⟩
    simp only [List.mapM_cons, Sem.run_bind, h1, h3, Result.andThen_ok, Sem.run_pure]

theorem results_run {N0 : Fz} {β : Emb} {H : AHeap} {w : World} (h : HRel P N0 β H w) {fn : Func} {tmps : List Value} {tmps' : Array Value} (ht : VRels β tmps tmps'.toList) {vs : List Value} (hr : resultsA P H tmps fn.results.toList = some vs) :
    ∃ v', (results fn tmps').run P w = .ok v' w ∧ VRel β (packA vs) v' := by
  obtain ⟨vs', h1, h2⟩ := resultsA_run h ht hr
  rw [results_eq, Array.mapM_eq_mapM_toList]
  simp only [Sem.run_bind, map_eq_pure_bind, h1, Result.andThen_ok, Sem.run_pure]
  refine ⟨_, rfl, ?_⟩
  cases h2 with
  | nil => exact .closed rfl
  | cons h g =>
    cases g with
    | nil => exact h
    | cons h' g' => exact .tuple (.cons h (.cons h' g'))

theorem enterA_rel {β : Emb} {fn : Func} {args : List Value} {args' : Array Value} (h : VRels β args args'.toList) (H : AHeap) : VRels β (enterA fn args H).tmps (args' ++ Array.replicate (fn.ntmps - args'.size) undef).toList := by
  unfold enterA
  have hl := VRels.length h
  simp only [Array.length_toList] at hl
  simp only [Array.toList_append, Array.toList_replicate, hl]
  exact VRels.append h (VRels.replicate (.closed rfl) _)

theorem leaves_marks {N0 N1 : Fz} {γ : Emb} {H : AHeap} {F : Fence} {n : Nat} {fn : Func} {tmps : Array Value} {R : Ending → World → Prop} {u : FrameMode} (hu : u ≠ .run) (hlt : ∀ b, N0.low b → b < N1.b) : ∀ (ds : List Deferred) (w : World), DRels P N1 γ w [] ds → HRel P N0 γ H w →
    (∀ w', HRel P N0 γ H w' → Fr N0 w w' → LeavesIn F n P fn tmps R [] u w') → LeavesInM F n P fn tmps R ds u w
  | [], w, _, hh, h => h w hh (Fr.refl _ _)
  | d :: ds, w, hd, hh, h => by
    cases hd with
    | mark h1 h2 h3 h4 g =>
      rename_i r
      have hf : Fr N0 w (w.putObj r (.deferred none)) := ⟨by simp, fun b hb => World.putObj_heap_other (by have := hlt b hb; omega), rfl, rfl⟩
      exact ⟨hu, .inl ⟨r, _, rfl, run_takeDeferred h3, leaves_marks hu hlt ds _ (g.put h4) (hh.putDeferred h3 _) fun w' hh' hf' => h w' hh' (hf.trans hf')⟩⟩

theorem setAll_rel {γ : Emb} {ps : Array Tmp} {args : List Value} {args' : Array Value} {tmps : List Value} {tmps' : Array Value} (ha : VRels γ args args'.toList) (ht : VRels γ tmps tmps'.toList) :
    VRels γ (setAll ps.toList args tmps) ((ps.zip args').foldl (fun tmps (t, a) => tmps.setIfInBounds t a) tmps').toList := by
  unfold setAll
  rw [← Array.foldl_toList, Array.toList_zip]
  generalize args'.toList = as at ha
  generalize ps.toList = qs
  induction qs generalizing args as tmps tmps' with
  | nil => exact ht
  | cons p qs ih =>
    cases ha with
    | nil => exact ht
    | cons h g =>
      simp only [List.zip_cons_cons, List.foldl_cons]
      refine ih ?_ _ g
      rw [Array.toList_setIfInBounds]
      exact VRels.set ht p h

theorem evalFun_ok (hcall : CallOK P call) (hm : P.follows .mixedOrders = true) (k : Nat) {f : FuncId} {fn : Func} (hf : P.funcs[f]? = some fn) {args : List Value} {H : AHeap} {e : AEnd} {H' : AHeap} (h : evalBody P call k f args H = some (e, H')) :
    AHeap.le H H' ∧ ∀ (N0 : Fz) (β : Emb) (w : World) (args' : Array Value), HRel P N0 β H w → VRels β args args'.toList → ∀ n, CallsIn (WF none) n P f args' w (CallRel P N0 β w e H') := by
  unfold evalBody at h
  rw [hf] at h
  dsimp only at h
  split at h
  case h_2 => simp at h
  rename_i c hb
  cases he : evalCode P call false k c (enterA fn args H) with
  | none => rw [he] at h; simp [leaveA] at h
  | some q =>
    obtain ⟨x, s'⟩ := q
    rw [he] at h
    have hnext : AHeap.le H s'.H := evalCode_next hcall k c _ _ _ he
    have key : (x = .normal ∨ x = .ret) ∧ (∃ vs, resultsA P s'.H s'.tmps fn.results.toList = some vs ∧ e = .ret (packA vs)) ∧ s'.dfs = [] ∧ H' = s'.H ∨ (∃ v, x = .panic v ∧ e = .panic v) ∧ s'.dfs = [] ∧ H' = s'.H := by
      unfold leaveA at h
      split at h
      · rename_i tmps H2 hq
        simp only [Option.some.injEq, Prod.mk.injEq] at hq
        obtain ⟨rfl, rfl⟩ := hq
        split at h
        case h_2 => simp at h
        rename_i vs hvs
        simp only [Option.some.injEq, Prod.mk.injEq] at h
        obtain ⟨rfl, rfl⟩ := h
        exact .inl ⟨.inl rfl, ⟨vs, hvs, rfl⟩, rfl, rfl⟩
      · rename_i tmps H2 hq
        simp only [Option.some.injEq, Prod.mk.injEq] at hq
        obtain ⟨rfl, rfl⟩ := hq
        split at h
        case h_2 => simp at h
        rename_i vs hvs
        simp only [Option.some.injEq, Prod.mk.injEq] at h
        obtain ⟨rfl, rfl⟩ := h
        exact .inl ⟨.inr rfl, ⟨vs, hvs, rfl⟩, rfl, rfl⟩
      · rename_i v tmps H2 hq
        simp only [Option.some.injEq, Prod.mk.injEq] at hq
        obtain ⟨rfl, rfl⟩ := hq
        simp only [Option.some.injEq, Prod.mk.injEq] at h
        obtain ⟨rfl, rfl⟩ := h
        exact .inr ⟨⟨v, rfl, rfl⟩, rfl, rfl⟩
      · simp at h
    have hH : H' = s'.H := by rcases key with ⟨_, _, _, h⟩ | ⟨_, _, h⟩ <;> exact h
    refine ⟨by rw [hH]; exact hnext, fun N0 β w args' hh ha n => ?_⟩
    refine callsIn_of_wp_marks hf hb trivial ?_
    let N0' : Fz := ⟨N0.low, w.heap.size⟩
    have hh' : HRel P N0' β H w := hh.weaken fun b hb => hb
    refine (code_sound hcall hm k).1 c none n _ _ _ N0' β _ w he ⟨enterA_rel ha H, .nil, hh'⟩ (Nat.le_refl _) _ ?_
    intro e' a' w' ho
    obtain ⟨N1, γ, g1, g2, le, hs, hfr, hx⟩ := ho
    have hfr0 : Fr N0 w w' := hfr.weaken (N1 := N0') fun b hb => hb
    have hlt : ∀ b, N0.low b → b < N1.b := fun b hb => by rw [g1]; exact hh.base b hb
    have hh1 : HRel P N0 γ s'.H w' := hs.heap.weaken fun b hb => g2 b hb
    rcases key with ⟨hxx, ⟨vs, hvs, rfl⟩, hd, rfl⟩ | ⟨⟨v, rfl, rfl⟩, hd, rfl⟩
    · have hdd : DRels P N1 γ w' [] a'.defers := by rw [← hd]; exact hs.dfs
      have htm : VRels γ s'.tmps a'.tmps.toList := by
        rcases hs.tmps with h | ⟨_, v, hv⟩
        · exact h
        · rcases hxx with h | h <;> (rw [h] at hv; cases hv)
      have fin : LeavesInM (WF none) n P fn a'.tmps (CallRel P N0 β w (.ret (packA vs)) s'.H) a'.defers .returning w' := by
        refine leaves_marks (by simp) hlt _ _ hdd hh1 fun w'' hh2 hf2 => ?_
        obtain ⟨v', h1, h2⟩ := results_run hh2 htm hvs
        exact ⟨v', h1, γ, le, hh2, h2, hfr0.trans hf2⟩
      rcases hxx with rfl | rfl
      · cases e' <;> first | exact hx.elim | skip
        exact fin
      · cases e' <;> first | exact hx.elim | skip
        exact fin
    · have hdd : DRels P N1 γ w' [] a'.defers := by rw [← hd]; exact hs.dfs
      cases e' <;> first | exact hx.elim | skip
      exact leaves_marks (by simp) hlt _ _ hdd hh1 fun w'' hh2 hf2 => ⟨γ, le, hh2, hx, hfr0.trans hf2⟩

theorem roundA_some {K : Nat} {x : Option (AExit × St)} {k : St → Option (AExit × St)} {e : AEnd} {H' : AHeap} (h : roundA K x k = some (e, H')) : ∃ s1 r1 y s2 j r2, x = some (.normal, s1) ∧ s1.H.get K = some (.loop r1) ∧ r1.state = .ready ∧
    k ⟨s1.tmps, s1.dfs, s1.H.set K (.loop { r1 with state := .busy })⟩ = some (y, s2) ∧ jumpOf y = some j ∧ s2.H.get K = some (.loop r2) ∧ e = .ret (.bool j.isNone) ∧ H' = s2.H.set K (.loop { r2 with state := if j.isNone then .ready else .done, pending := j }) := by
  unfold roundA at h
  split at h
  case h_2 => simp at h
  rename_i s1
  split at h
  case h_2 => simp at h
  rename_i r1 hr1
  split at h
  case isFalse => simp at h
  rename_i hst
  unfold roundB at h
  split at h
  case h_2 => simp at h
  rename_i y s2 hk
  split at h
  case h_2 => simp at h
  rename_i j hj
  split at h
  case h_2 => simp at h
  rename_i r2 hr2
  simp only [Option.some.injEq, Prod.mk.injEq] at h
  exact ⟨s1, r1, y, s2, j, r2, rfl, hr1, hst, hk, hj, hr2, h.1.symm, h.2.symm⟩

theorem evalRound_ok (hcall : CallOK P call) (hm : P.follows .mixedOrders = true) (k : Nat) {K : Nat} {args : List Value} {H : AHeap} {e : AEnd} {H' : AHeap} (h : evalRound P call k K args H = some (e, H')) :
    AHeap.le H H' ∧ ∀ (N0 : Fz) (β : Emb) (w : World) (l : Nat) (r' : Loop) (args' : Array Value), HRel P N0 β H w → β.loop K = some l → w.heap[l]? = some (.loop r') → VRels β args args'.toList →
      ∀ ro n, RoundIn (WF ro) n P l r'.fn ((r'.params.zip args').foldl (fun tmps (t, a) => tmps.setIfInBounds t a) r'.tmps) r'.assign r'.body w (CallRel P N0 β w e H') := by
  unfold evalRound at h
  split at h
  case h_2 => simp at h
  rename_i r hr
  obtain ⟨s1, r1, y, s2, j, r2, h1, hr1, hst, h2, hj, hr2, rfl, rfl⟩ := roundA_some h
  have n1 := evalCode_next hcall k _ _ _ _ h1
  have n2 := evalCode_next hcall k _ _ _ _ h2
  refine ⟨AHeap.le_trans n1 (AHeap.le_trans (AHeap.le_set hr1) (AHeap.le_trans n2 (AHeap.le_set hr2))), ?_⟩
  intro N0 β w l r' args' hh hl hw ha ro n
  obtain ⟨q, q', a1, a2, a3, a4⟩ := hh.lp _ _ hl
  rw [hr] at a1
  obtain rfl : r = q := by simpa using a1
  rw [hw] at a3
  obtain rfl : r' = q' := by simpa using a3
  refine roundIn_of_wpIn trivial ?_
  let N0' : Fz := ⟨N0.low, w.heap.size⟩
  have hh' : HRel P N0' β H w := hh.weaken fun b hb => hb
  rw [a4.assign, a4.body]
  refine (code_sound hcall hm k).1 r.assign (some l) n _ _ _ N0' β _ w h1 ⟨by rw [a4.params]; exact setAll_rel ha a4.tmps, .nil, hh'⟩ (Nat.le_refl _) _ ?_
  intro e1 b1 w1 ho
  obtain ⟨rfl, N1, γ, g1, g2, le, hs1, hf1, hb1⟩ := ho.normal (Nat.le_refl _)
  have hl1 := le.loop _ _ hl
  obtain ⟨p, p', c1, c2, c3, c4⟩ := hs1.heap.lp _ _ hl1
  rw [hr1] at c1
  obtain rfl : r1 = p := by simpa using c1
  refine ⟨_, run_beginRound c3 (by rw [c4.state]; exact hst), ?_⟩
  obtain ⟨hh2, hf2⟩ := hs1.heap.setLoop (r := { r1 with state := .busy }) (r' := { p' with state := .busy }) hl1 ⟨rfl, c4.pending, c4.tmps, c4.params, c4.assign, c4.body⟩
  refine (code_sound hcall hm k).1 r.body (some l) n _ _ _ N1 γ _ _ h2 ⟨hs1.tmps, hs1.dfs.mono (Emb.le.refl _) hf2, hh2⟩ (by simpa using hb1) _ ?_
  intro e2 b2 w3 ho2
  obtain ⟨N2, δ, g3, g4, le2, hs2, hf3, hx⟩ := ho2
  have hl2 := le2.loop _ _ hl1
  obtain ⟨p2, p2', d1, d2, d3, d4⟩ := hs2.heap.lp _ _ hl2
  rw [hr2] at d1
  obtain rfl : r2 = p2 := by simpa using d1
  obtain ⟨hh4, hf4⟩ := hs2.heap.setLoop (r := { r2 with state := if j.isNone then .ready else .done, pending := j }) (r' := { p2' with state := if j.isNone then .ready else .done, pending := j }) hl2 ⟨rfl, rfl, d4.tmps, d4.params, d4.assign, d4.body⟩
  have hfr : Fr N0 w (w3.putObj l (.loop { p2' with state := if j.isNone then .ready else .done, pending := j })) :=
    ((hf1.weaken (N1 := N0') fun b hb => hb : Fr N0 w w1).trans (((hf2.trans hf3).weaken g2 : Fr N0' _ _).weaken (N1 := N0') fun b hb => hb)).trans (hf4.weaken fun b hb => g4 b (g2 b hb))
  have fin : CallRel P N0 β w (.ret (.bool j.isNone)) (s2.H.set K (.loop { r2 with state := if j.isNone then .ready else .done, pending := j })) (.returned (.bool j.isNone)) (w3.putObj l (.loop { p2' with state := if j.isNone then .ready else .done, pending := j })) :=
    ⟨δ, le.trans le2, hh4.weaken fun b hb => g4 b (g2 b hb), .closed rfl, hfr⟩
  have hrun := run_endRound (P := P) j d3
  cases y with
  | normal =>
    obtain rfl : none = j := by simpa [jumpOf] using hj
    cases e2 <;> first | exact hx.elim | skip
    exact ⟨_, _, hrun, fin⟩
  | ret =>
    obtain rfl : some Code.ret = j := by simpa [jumpOf] using hj
    cases e2 <;> first | exact hx.elim | skip
    exact ⟨_, _, hrun, fin⟩
  | exit i =>
    obtain rfl : some (Code.exit i) = j := by simpa [jumpOf] using hj
    cases e2 <;> first | exact hx.elim | skip
    obtain rfl := (hx : i = _)
    exact ⟨_, _, hrun, fin⟩
  | panic v => simp [jumpOf] at hj

theorem evalBody_ok (hcall : CallOK P call) (hm : P.follows .mixedOrders = true) (k : Nat) {f : FuncId} {args : List Value} {H : AHeap} {e : AEnd} {H' : AHeap} (h : evalBody P call k f args H = some (e, H')) :
    AHeap.le H H' ∧ ∀ (N0 : Fz) (β : Emb) (w : World) (nx : Next), HRel P N0 β H w → Comes P β w f args nx → ∀ (ro : Option Nat) (n : Nat), NextIn (WF ro) n P nx w (CallRel P N0 β w e H') := by
  cases hf : P.funcs[f]? with
  | some fn =>
    obtain ⟨h1, h2⟩ := evalFun_ok hcall hm k hf h
    refine ⟨h1, fun N0 β w nx hh hc ro n => ?_⟩
    cases hc with
    | fn hf' ha =>
      have := h2 N0 β w _ hh ha n
      cases ro <;> exact this
    | round he _ _ _ _ =>
      rw [he, Array.getElem?_eq_none (by omega)] at hf; simp at hf
  | none =>
    unfold evalBody at h
    rw [hf] at h
    obtain ⟨h1, h2⟩ := evalRound_ok hcall hm k h
    refine ⟨h1, fun N0 β w nx hh hc ro n => ?_⟩
    cases hc with
    | fn hf' ha => rw [hf] at hf'; simp at hf'
    | round he hl hw hs ha =>
      subst he
      rw [Nat.add_sub_cancel_left] at h2
      exact h2 N0 β w _ _ _ hh hl hw ha ro n

theorem evalFn_ok {ext : CallT} (hext : CallOK P ext) (hm : P.follows .mixedOrders = true) : ∀ k, CallOK P (evalFn P ext k) := by
  intro k
  induction k with
  | zero => exact hext
  | succ k ih =>
    intro f args H e H' h
    rw [evalFn] at h
    dsimp only at h
    split at h
    · rename_i q hq
      rw [h] at hq
      exact hext f args H e H' hq
    · exact evalBody_ok ih hm k h

theorem theCall_ok {ext : CallT} (hext : CallOK P ext) (hm : P.follows .mixedOrders = true) : CallOK P (theCall P ext) := by
  intro f args H e H' h
  obtain ⟨k, hk⟩ := theCall_some.1 h
  exact evalFn_ok hext hm k f args H e H' hk

end
end B
end Go.Proofs.Ytnjoaffnfjlcaaa
