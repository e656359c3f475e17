/-
  Reads in a heap that holds more.
-/
import Derived.Test.YtnjoaffnfjlcaaaB17
namespace Go.Proofs.Ytnjoaffnfjlcaaa
namespace B
open Go

def AHeap.More (H H2 : AHeap) : Prop := ∀ i x, H.get i = some x → H2.get i = some x

theorem AHeap.more_push {H : AHeap} (hf : H.Fresh) (o : AObj) : AHeap.More H (H.push o) := by
  intro i x h
  show (if i = H.next then some o else H.get i) = some x
  rw [if_neg]
  · exact h
  · intro e; subst e; rw [hf _ (Nat.le_refl _)] at h; simp at h

section
variable {P : Program} {H H2 : AHeap}

theorem view_more (hm : AHeap.More H H2) {i : Nat} {r : RowV} (h : H.view i = some r) : H2.view i = some r := by
  unfold AHeap.view at h ⊢
  cases hg : H.get i with
  | none => rw [hg] at h; simp at h
  | some x => rw [hg] at h; rw [hm _ _ hg]; exact h

theorem cell_more (hm : AHeap.More H H2) {a : Addr} {v : Value} (h : H.cell a = some v) : H2.cell a = some v := by
  unfold AHeap.cell at h ⊢
  cases hv : H.view a.block with
  | none => rw [hv] at h; simp at h
  | some r => rw [hv] at h; rw [view_more hm hv]; exact h

theorem readN_more (hm : AHeap.More H H2) : ∀ {n : Nat} {a : Addr} {vs : List Value}, H.readN a n = some vs → H2.readN a n = some vs
  | 0, _, _, h => h
  | n + 1, a, vs, h => by
    unfold AHeap.readN at h ⊢
    cases h1 : H.cell a with
    | none => rw [h1] at h; simp at h
    | some v =>
      rw [h1] at h
      rw [cell_more hm h1]
      dsimp only at h ⊢
      cases h2 : H.readN (addA a 1) n with
      | none => rw [h2] at h; simp at h
      | some us => rw [h2] at h; rw [readN_more hm h2]; exact h

theorem loadV_more (hm : AHeap.More H H2) {t : TypeId} {a : Addr} {v : Value} (h : H.loadV P t a = some v) : H2.loadV P t a = some v := by
  unfold AHeap.loadV at h ⊢
  split at h
  · split at h
    · rename_i i hi
      split at h
      · rename_i vs hvs; simp only [hi, readN_more hm hvs]; exact h
      · simp at h
    · simp at h
  · exact cell_more hm h
  · simp at h

theorem elemOk_more (hm : AHeap.More H H2) {i : Nat} {e : TypeId} (h : H.elemOk i e = true) : H2.elemOk i e = true := by
  unfold AHeap.elemOk at h ⊢
  cases hv : H.view i with
  | none => rw [hv] at h; simp at h
  | some r => rw [hv] at h; rw [view_more hm hv]; exact h

theorem sliceOf_more (hm : AHeap.More H H2) {ee : TypeId} {sz : Nat} {s v : Value} {lo hi : Option Value} (h : sliceOf H ee sz s lo hi = some v) : sliceOf H2 ee sz s lo hi = some v := by
  unfold sliceOf at h ⊢
  cases s <;> first | (simp at h; done) | skip
  rename_i a len cap
  dsimp only at h ⊢
  cases hb1 : boundOf 0 lo with
  | none => rw [hb1] at h; simp at h
  | some l =>
    cases hb2 : boundOf len hi with
    | none => rw [hb1, hb2] at h; simp at h
    | some u =>
      rw [hb1, hb2] at h
      dsimp only at h ⊢
      split at h
      case isFalse => simp at h
      rename_i hlh
      rw [if_pos hlh]
      cases a with
      | none => exact h
      | some a =>
        dsimp only at h ⊢
        split at h
        case isFalse => simp at h
        rename_i hel
        rw [if_pos]
        · exact h
        · rcases hel with e | e
          · exact .inl e
          · exact .inr (elemOk_more hm e)

theorem entries_more (hm : AHeap.More H H2) {m : Value} {es : List (Value × Value)} (h : H.entries m = some es) : H2.entries m = some es := by
  unfold AHeap.entries at h ⊢
  split at h
  · exact h
  · split at h
    · rename_i hg; simp only [hm _ _ hg]; exact h
    · simp at h
  · simp at h

theorem look_more (hm : AHeap.More H H2) {t : TypeId} {m k : Value} {r : Value × Bool} (h : H.look P t m k = some r) : H2.look P t m k = some r := by
  unfold AHeap.look at h ⊢
  cases hu : P.underlying t with
  | none => rw [hu] at h; simp at h
  | some d =>
    rw [hu] at h
    cases d <;> first | (simp at h; done) | skip
    dsimp only at h ⊢
    cases he : H.entries m with
    | none => rw [he] at h; simp at h
    | some es => rw [he] at h; rw [entries_more hm he]; exact h

theorem lenOp_more (hm : AHeap.More H H2) {t : TypeId} {x : Value} {n : Int} (h : lenOp P H t x = some n) : lenOp P H2 t x = some n := by
  unfold lenOp at h ⊢
  split at h
  · exact h
  · exact h
  · split at h
    · rename_i hmm
      rw [if_pos hmm]
      split at h
      · rename_i es hes; rw [entries_more hm hes]; exact h
      · simp at h
    · simp at h
  · simp at h

theorem lenOp_closed {t : TypeId} {x : Value} (hc : closedV x = true) : lenOp P H2 t x = lenOp P H t x := by
  by_cases hm : ∃ m, x = .map m
  · obtain ⟨m, rfl⟩ := hm
    cases m with
    | none => rfl
    | some r => simp [closedV] at hc
  · unfold lenOp
    split
    · rfl
    · rfl
    · exact absurd ⟨_, rfl⟩ hm
    · rfl

set_option maxHeartbeats 1000000 in
theorem read_more (hm : AHeap.More H H2) {ρ : Operand → Value} {o : Oper} (hk : okind o.op = .read) {v : Value} (e : evalAny P H ρ o = some (.val v H)) : evalAny P H2 ρ o = some (.val v H2) := by
  unfold evalAny at e ⊢
  cases hop : o.op <;> rw [hop] at hk <;> first | (simp [okind] at hk; done) | skip
  case load t x =>
    simp only [hop] at e ⊢
    unfold evalOp at e ⊢
    simp only [hop] at e ⊢
    split at e
    case isFalse => simp at e
    rename_i hok
    rw [if_pos hok]
    (repeat' split at e) <;> first | (simp at e; done) | skip
    rename_i a ha _ u hu
    simp only [Option.some.injEq, ARes.val.injEq, and_true] at e
    subst e
    simp only [loadV_more hm hu]
  case slice t x lo hi mx =>
    simp only [hop] at e ⊢
    unfold evalOp at e ⊢
    simp only [hop] at e ⊢
    split at e
    case isFalse => simp at e
    rename_i hok
    rw [if_pos hok]
    cases mx with
    | some m => simp at e
    | none =>
      simp only at e ⊢
      (repeat' split at e) <;> first | (simp at e; done) | skip
      · simp only [Option.some.injEq, ARes.val.injEq, and_true] at e; simp_all
      · rename_i u hu
        simp only [Option.some.injEq, ARes.val.injEq, and_true] at e
        subst e
        simp only [sliceOf_more hm hu]
  case lookup t m k ok =>
    simp only [hop] at e ⊢
    split at e
    case isFalse => simp at e
    rename_i hok
    rw [if_pos hok]
    cases hl : H.look P t (ρ m) (ρ k) with
    | none => rw [hl] at e; simp at e
    | some r =>
      rw [hl] at e
      rw [look_more hm hl]
      simp only [Option.some.injEq, ARes.val.injEq, and_true] at e ⊢
      exact e
  case call c =>
    simp only [hop] at e ⊢
    split at e
    case isFalse => simp at e
    rename_i hok
    rw [if_pos hok]
    unfold evalCall at e ⊢
    cases hcal : c.callee with
    | value f => unfold okind at hk; split at hk <;> simp_all
    | invoke r n => rw [hcal] at e; simp at e
    | builtin b =>
      rw [hcal] at e
      cases b <;> first | (simp at e; done) | (unfold okind at hk; split at hk <;> simp_all; done) | skip
      case len =>
        dsimp only at e ⊢
        cases ha : c.args.toList with
        | nil => rw [ha] at e; simp at e
        | cons x l =>
          cases l with
          | cons _ _ => rw [ha] at e; simp at e
          | nil =>
            cases ht : c.argTypes.toList with
            | nil => rw [ha, ht] at e; simp at e
            | cons t l =>
              cases l with
              | cons _ _ => rw [ha, ht] at e; simp at e
              | nil =>
                rw [ha, ht] at e
                dsimp only at e ⊢
                cases hl : lenOp P H t (ρ x) with
                | some n =>
                  rw [hl] at e
                  simp only [Option.some.injEq, ARes.val.injEq, and_true] at e
                  rw [lenOp_more hm hl, ← e]
                | none =>
                  rw [hl] at e
                  dsimp only at e
                  cases hu : closedRun P ρ o with
                  | none => rw [hu] at e; simp at e
                  | some u =>
                    rw [hu] at e
                    simp only [Option.some.injEq, ARes.val.injEq, and_true] at e
                    have hcl : closedV (ρ x) = true := (closedRun_some hu).1 x (by
                      have := Array.one_of_toList ha
                      rw [hop]; simp [Op.operands, Call.operands, hcal, this])
                    rw [lenOp_closed (H := H) (H2 := H2) hcl, hl]
                    dsimp only
                    rw [← e]
      case min =>
        dsimp only at e ⊢
        split at e
        · rename_i u hu
          simp only [Option.some.injEq, ARes.val.injEq, and_true] at e
          rw [e]
        · simp at e
      case max =>
        dsimp only at e ⊢
        split at e
        · rename_i u hu
          simp only [Option.some.injEq, ARes.val.injEq, and_true] at e
          rw [e]
        · simp at e


/-! ### Regions in which nothing is read beside what acts -/
theorem same_pure {t : Tr} (hk : okind t.o.op = .pure ∨ okind t.o.op = .effect) (HH : AHeap) : same P t HH := by
  unfold same
  rcases hk with h | h <;> rw [h] <;> trivial

theorem stable_pure {B : List Nat} {t : Tr} (hk : okind t.o.op = .pure) : ∀ (ts : List Tr) (He : AHeap), stableFrom P B t ts He
  | [], He => same_pure (.inl hk) He
  | u :: us, He => by
    unfold stableFrom
    split
    · exact ⟨same_pure (.inl hk) _, .inr (stable_pure hk us He)⟩
    · exact stable_pure hk us He

theorem same_push {t : Tr} (hk : okind t.o.op = .read ∨ (okind t.o.op = .alloc ∧ t.H.next < H.next)) (hf : H.Fresh) (h : same P t H) (o : AObj) : same P t (H.push o) := by
  unfold same at h ⊢
  rcases hk with hk | ⟨hk, hn⟩
  · rw [hk] at h ⊢
    exact read_more (AHeap.more_push hf o) hk h
  · rw [hk] at h ⊢
    dsimp only at h ⊢
    rw [← h]
    show (if t.H.next = H.next then some o else H.get t.H.next) = _
    rw [if_neg (by omega)]

theorem stable_quiet {call : CallT} (hcall : CallOK P call) {ops : List Oper} {B : List Nat} {t : Tr} (hk : okind t.o.op = .read ∨ okind t.o.op = .alloc) : ∀ (ts : List Tr) {tm : List Value} {H : AHeap} {tmE : List Value} {He : AHeap},
    Chain P call ops ts tm H tmE He → H.Fresh → (okind t.o.op = .alloc → t.H.next < H.next) → same P t H → (∀ u ∈ ts, isEff u.o = true → bit B u.j t.j = true) → stableFrom P B t ts He
  | [], tm, H, tmE, He, hch, _, _, hs, _ => by
    obtain ⟨_, rfl⟩ := hch
    exact hs
  | u :: us, tm, H, tmE, He, hch, hf, hn, hs, hb => by
    obtain ⟨h1, h2, h3, h4⟩ := hch
    subst h2
    unfold stableFrom
    cases he : isEff u.o with
    | true =>
      simp only [if_true]
      exact ⟨hs, .inl (hb u (by simp) he)⟩
    | false =>
      simp only [Bool.false_eq_true, if_false]
      have hle := h3.next hcall
      refine stable_quiet hcall hk us h4 (hle.fresh hf) (fun e => Nat.lt_of_lt_of_le (hn e) hle.next) ?_ (fun v hv => hb v (by simp [hv]))
      cases hw : u.w with
      | false => rw [(h3.no hw).2.2]; exact hs
      | true =>
        rcases h3.quiet hw he with ⟨_, e, _⟩ | ⟨_, e, _⟩ | ⟨hka, e⟩
        · rw [e]; exact hs
        · rw [e]; exact hs
        · obtain ⟨obj, r, _, _, hp⟩ := alloc_push hka e
          rw [hp]
          refine same_push ?_ hf hs obj
          rcases hk with h | h
          · exact .inl h
          · exact .inr ⟨h, hn h⟩

theorem quietOK_at {ops : List Oper} {B : List Nat} {j : Nat} {P2 : List Nat} (h : quietOK ops B (j :: P2) = true) (he : effAt ops j = false) (hp : pureAt ops j = false) : ∀ u ∈ P2, effAt ops u = true → bit B u j = true := by
  intro u hu hue
  simp only [quietOK, Bool.and_eq_true, Bool.or_eq_true] at h
  rcases h.1 with (h1 | h1) | h1
  · rw [he] at h1; simp at h1
  · rw [hp] at h1; simp at h1
  · have := List.all_eq_true.1 h1 u hu
    rw [hue] at this
    simpa using this

theorem reads_quiet {call : CallT} (hcall : CallOK P call) {ops : List Oper} {B : List Nat} : ∀ (T : List Tr) {tm : List Value} {H : AHeap} {tmE : List Value} {He : AHeap} {rest : List Nat},
    Chain P call ops T tm H tmE He → H.Fresh → quietOK ops B (T.map (·.j) ++ rest) = true → readsOK P B T He
  | [], _, _, _, _, _, _, _, _ => trivial
  | t :: ts, tm, H, tmE, He, rest, hch, hf, hq => by
    obtain ⟨h1, h2, h3, h4⟩ := hch
    subst h2
    have hle := h3.next hcall
    have hq' : quietOK ops B (ts.map (·.j) ++ rest) = true := by
      simp only [List.map_cons, List.cons_append, quietOK, Bool.and_eq_true] at hq
      exact hq.2
    refine ⟨fun hw he => ?_, reads_quiet hcall ts h4 (hle.fresh hf) hq'⟩
    have hef : okind t.o.op ≠ .pure → ∀ u ∈ ts, isEff u.o = true → bit B u.j t.j = true := by
      intro hnp u hu hue
      have gu := (Chain.good ts h4 u hu).op
      refine quietOK_at (by simpa using hq) ?_ ?_ u.j ?_ ?_
      · unfold effAt; rw [h3.op]; exact he
      · unfold pureAt; rw [h3.op]; simpa using hnp
      · exact List.mem_append_left _ (List.mem_map.2 ⟨u, hu, rfl⟩)
      · unfold effAt; rw [gu]; exact hue
    rcases h3.quiet hw he with ⟨hk, _, _⟩ | ⟨hk, e, hev⟩ | ⟨hk, e⟩
    · exact stable_pure hk ts He
    · refine stable_quiet hcall (.inl hk) ts h4 (hle.fresh hf) (fun h => by rw [hk] at h; cases h) ?_ (hef (by rw [hk]; simp))
      unfold same; rw [hk, e]; exact hev
    · obtain ⟨obj, r, _, _, hp⟩ := alloc_push hk e
      refine stable_quiet hcall (.inr hk) ts h4 (hle.fresh hf) (fun _ => by rw [hp]; exact Nat.lt_succ_self _) ?_ (hef (by rw [hk]; simp))
      unfold same; rw [hk]

end
end B
end Go.Proofs.Ytnjoaffnfjlcaaa
