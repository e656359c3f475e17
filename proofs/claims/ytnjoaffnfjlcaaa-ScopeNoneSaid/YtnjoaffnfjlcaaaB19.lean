/-
  Code and functions: the abstract machine's run of a body; a function's contract out of it.
-/
import Derived.Test.YtnjoaffnfjlcaaaB18b
import Derived.LoopNIn
import Derived.RangeFuncIn
namespace Go.Proofs.Ytnjoaffnfjlcaaa
namespace B
open Go

def isNormal : AExit → Bool
  | .normal => true
  | _ => false

def jumpOf : AExit → Option (Option Code)
  | .normal => some none
  | .ret => some (some .ret)
  | .exit i => some (some (.exit i))
  | .panic _ => none

def exitOf : Option Code → Option AExit
  | none => some .normal
  | some .ret => some .ret
  | some (.exit i) => some (.exit i)
  | _ => none

/-- The call of a function that is ranged over, the record laid. -/
def rangeCallA (P : Program) (s : St) (g : Operand) (ps : Array Tmp) (as body : Code) : Option (FuncId × List Value × AHeap) :=
  if operandOk g then match aev s.tmps g with
    | .func (.func f) first cap => match P.funcs[f]? with
      | some fn => if Func.enters fn then some (f, first.toList ++ [.func (.yield s.H.next) #[] #[]] ++ cap.toList, s.H.push (.loop ⟨.ready, none, s.tmps, ps, as, body⟩)) else none
      | none => none
    | _ => none
  else none

def rangeEnd (K : Nat) (s : St) : Option (AEnd × AHeap) → Option (AExit × St)
  | some (.ret _, H') => match H'.get K with
    | some (.loop r) => if r.state = .busy then none else match exitOf r.pending with
      | some x => some (x, ⟨s.tmps, s.dfs, H'.set K (.loop { r with state := .exhausted })⟩)
      | none => none
    | _ => none
  | _ => none

noncomputable def evalCode (P : Program) (call : CallT) (rnd : Bool) : Nat → Code → St → Option (AExit × St)
  | _, .skip, s => some (.normal, s)
  | _, .region _ ops draw, s => if draw then drawRun P call ops.toList s else evalIdx P call rnd ops.toList (List.range ops.size) s
  | k, .seq a b, s => match evalCode P call rnd k a s with
    | some (.normal, s1) => evalCode P call rnd k b s1
    | r => r
  | k, .cond c a b, s => if operandOk c then match boolOf (aev s.tmps c) with
      | some true => evalCode P call rnd k a s
      | some false => evalCode P call rnd k b s
      | none => none
    else none
  | k, .block id a, s => match evalCode P call rnd k a s with
    | some (.exit i, s1) => if i = id then some (.normal, s1) else some (.exit i, s1)
    | r => r
  | 0, .loop _, _ => none
  | k + 1, .loop a, s => match evalCode P call rnd k a s with
    | some (.normal, s1) => evalCode P call rnd k (.loop a) s1
    | r => r
  | _, .exit id, s => some (.exit id, s)
  | _, .ret, s => some (.ret, s)
  | _, .label _, s => some (.normal, s)
  | _, .rangeFunc g ps as body, s => if rnd then none else match rangeCallA P s g ps as body with
    | some (f, args, H1) => rangeEnd s.H.next s (call f args H1)
    | none => none
  | _, .scope _, _ => none
  | _, .goto _, _ => none
  | _, .refuse _, _ => none
termination_by k c _ => (k, SizeOf.sizeOf c)

/-- At an end of code: what is frozen may have grown. -/
def OutC (P : Program) (N0 : Fz) (β : Emb) (w : World) (x : AExit) (s : St) : Exit → Act → World → Prop :=
  fun e a' w' => ∃ N1 γ, N1.b = N0.b ∧ (∀ b, N0.low b → N1.low b) ∧ Emb.le β γ ∧ SRelX P N1 γ x s a' w' ∧ Fr N0 w w' ∧ XRel γ x e

theorem OutRel.c {P : Program} {N0 : Fz} {β : Emb} {w : World} {x : AExit} {s : St} {e : Exit} {a : Act} {w' : World} (h : OutRel P N0 β w x s e a w') : OutC P N0 β w x s e a w' := by
  obtain ⟨γ, h1, h2, h3, h4⟩ := h
  exact ⟨N0, γ, rfl, fun _ h => h, h1, h2, h3, h4⟩

theorem Fr.weaken {N0 N1 : Fz} {w w' : World} (h : Fr N1 w w') (hl : ∀ b, N0.low b → N1.low b) : Fr N0 w w' := ⟨h.size, fun b hb => h.low b (hl b hb), h.os, h.out⟩

theorem OutC.trans {P : Program} {N0 N1 : Fz} {β γ : Emb} {w w1 : World} {x : AExit} {s : St} (hb : N1.b = N0.b) (hl : ∀ b, N0.low b → N1.low b) (le : Emb.le β γ) (hf : Fr N0 w w1) {e : Exit} {a : Act} {w' : World} (h : OutC P N1 γ w1 x s e a w') : OutC P N0 β w x s e a w' := by
  obtain ⟨N2, δ, a1, a2, h1, h2, h3, h4⟩ := h
  exact ⟨N2, δ, a1.trans hb, fun b h => a2 b (hl b h), le.trans h1, h2, hf.trans (h3.weaken hl), h4⟩

section
variable {P : Program} {N0 : Fz} {call : CallT}

def LoopOK (P : Program) (call : CallT) (k : Nat) : Prop := ∀ (ro : Option Nat) (n : Nat) (c : Code) (s : St) (x : AExit) (s' : St) (N0 : Fz) (β : Emb) (a : Act) (w : World), evalCode P call ro.isSome k (.loop c) s = some (x, s') → SRel P N0 β s a w → N0.b ≤ w.heap.size →
  ∀ Q : Exit → Act → World → Prop, (∀ e a' w', OutC P N0 β w x s' e a' w' → Q e a' w') → Code.roundsIn (WF ro) n P c Q k a w

def CodeOK (P : Program) (call : CallT) (k : Nat) (c : Code) : Prop := ∀ (ro : Option Nat) (n : Nat) (s : St) (x : AExit) (s' : St) (N0 : Fz) (β : Emb) (a : Act) (w : World), evalCode P call ro.isSome k c s = some (x, s') → SRel P N0 β s a w → N0.b ≤ w.heap.size →
  ∀ Q : Exit → Act → World → Prop, (∀ e a' w', OutC P N0 β w x s' e a' w' → Q e a' w') → c.wpIn (WF ro) n P Q a w

theorem OutC.normal {β : Emb} {w : World} {s : St} {e : Exit} {a' : Act} {w' : World} (h : OutC P N0 β w .normal s e a' w') (hb : N0.b ≤ w.heap.size) : e = .normal ∧ ∃ N1 γ, N1.b = N0.b ∧ (∀ b, N0.low b → N1.low b) ∧ Emb.le β γ ∧ SRel P N1 γ s a' w' ∧ Fr N0 w w' ∧ N1.b ≤ w'.heap.size := by
  obtain ⟨N1, γ, h1, h2, le, hs, hf, hx⟩ := h
  cases e <;> first | exact hx.elim | skip
  refine ⟨rfl, N1, γ, h1, h2, le, ⟨?_, hs.dfs, hs.heap⟩, hf, by rw [h1]; exact Nat.le_trans hb hf.size⟩
  rcases hs.tmps with h | ⟨_, v, hv⟩
  · exact h
  · cases hv

theorem OutC.not_normal {β : Emb} {w : World} {x : AExit} {s : St} {e : Exit} {a' : Act} {w' : World} (hx : x ≠ .normal) (h : OutC P N0 β w x s e a' w') : e ≠ .normal := by
  obtain ⟨N1, γ, _, _, le, hs, hf, hxr⟩ := h
  intro he; subst he
  cases x <;> first | exact hx rfl | exact hxr.elim

theorem then_of {Q : Exit → Act → World → Prop} {K : Act → World → Prop} {e : Exit} {a : Act} {w : World} (h : e ≠ .normal) (hq : Q e a w) : Exit.then K Q e a w := by
  cases e <;> first | exact absurd rfl h | exact hq

theorem outC_same {β : Emb} {s : St} {a : Act} {w : World} (hs : SRel P N0 β s a w) {x : AExit} {e : Exit} (hx : XRel β x e) : OutC P N0 β w x s e a w :=
  ⟨N0, β, rfl, fun _ h => h, Emb.le.refl _, hs.x _, Fr.refl _ _, hx⟩

theorem range_sound (hcall : CallOK P call) {n : Nat} {g : Operand} {ps : Array Tmp} {as body : Code} {s : St} {x : AExit} {s' : St} {β : Emb} {a : Act} {w : World} {f : FuncId} {args : List Value} {H1 : AHeap}
    (h1 : rangeCallA P s g ps as body = some (f, args, H1)) (h2 : rangeEnd s.H.next s (call f args H1) = some (x, s')) (hs : SRel P N0 β s a w) (hb : N0.b ≤ w.heap.size)
    (Q : Exit → Act → World → Prop) (hQ : ∀ e a' w', OutC P N0 β w x s' e a' w' → Q e a' w') : (Code.rangeFunc g ps as body).wpIn (WF none) n P Q a w := by
  unfold rangeCallA at h1
  split at h1
  case isFalse => simp at h1
  rename_i hok
  split at h1
  case h_2 => simp at h1
  rename_i f0 first cap hg
  split at h1
  case h_2 => simp at h1
  rename_i fn hfn
  split at h1
  case isFalse => simp at h1
  rename_i hen
  simp only [Option.some.injEq, Prod.mk.injEq] at h1
  obtain ⟨rfl, rfl, rfl⟩ := h1
  unfold rangeEnd at h2
  split at h2
  case h_2 => simp at h2
  rename_i v H' hc
  split at h2
  case h_2 => simp at h2
  rename_i r hr
  split at h2
  case isTrue => simp at h2
  rename_i hst
  split at h2
  case h_2 => simp at h2
  rename_i x0 hx0
  simp only [Option.some.injEq, Prod.mk.injEq] at h2
  obtain ⟨rfl, rfl⟩ := h2
  have hv := aev_rel hs.tmps hok
  rw [hg] at hv
  obtain ⟨first', cap', hg', hf1, hf2⟩ := hv.inv_func
  refine wpIn_rangeFunc fun fnid _ => ?_
  let r0 : Loop := { state := .ready, pending := none, fn := fnid, tmps := a.tmps, params := ps, assign := as, body := body, defers := w.heap.size }
  let wa := w.alloc (.deferred (some []))
  have hsz : wa.heap.size = w.heap.size + 1 := World.size_alloc _ _
  have hda : wa.heap[w.heap.size]? = some (.deferred (some [])) := World.alloc_heap_new _ _
  have hfa : Fr N0 w wa := ⟨by omega, fun b hb' => by have := hs.heap.base b hb'; show (w.heap.push _)[b]? = _; rw [Array.getElem?_push, if_neg (by omega)], rfl, rfl⟩
  let N1 : Fz := ⟨fun b => N0.low b ∨ b = w.heap.size, N0.b⟩
  have hra : HRel P N1 β s.H wa := (hs.heap.allocOther _).freeze hda _
  obtain ⟨le1, hrl, hlK⟩ := hra.pushLoop (r := ⟨.ready, none, s.tmps, ps, as, body⟩) (r' := r0) ⟨rfl, rfl, hs.tmps, rfl, rfl, rfl⟩
  generalize hγ : β.addLoop s.H.next wa.heap.size = γ at le1 hrl hlK
  have hfl : Fr N1 wa (wa.alloc (.loop r0)) := ⟨by have := World.size_alloc wa (.loop r0); omega, fun b hb' => by have := hra.base b hb'; show (wa.heap.push _)[b]? = _; rw [Array.getElem?_push, if_neg (by omega)], rfl, rfl⟩
  have hargs : VRels γ (first.toList ++ [Value.func (.yield s.H.next) #[] #[]] ++ cap.toList) (first' ++ #[Value.func (.yield (w.heap.size + 1)) #[] #[]] ++ cap').toList := by
    have := VRels.append (VRels.append (VRels.mono le1 hf1) (.cons (.yield (by rw [hlK, hsz])) .nil)) (VRels.mono le1 hf2)
    simpa [List.append_assoc] using this
  refine ⟨w.heap.size + 1, _, _, { target := .fn (.func f0) cap', args := first' ++ #[.func (.yield (w.heap.size + 1)) #[] #[]] }, wa.alloc (.loop r0), f0, first' ++ #[.func (.yield (w.heap.size + 1)) #[] #[]] ++ cap', wa.alloc (.loop r0),
    run_enterLoop_outer fnid a.tmps ps as body, ?_, fun _ _ => trivial, ?_, fun hx => by simp [WF, Fence.wide] at hx, ?_⟩
  · simp only [resolve, rangeCall, hg', Deferred.ofValue, Sem.run_pure, List.map_toArray, List.map_cons, List.map_nil]
    rfl
  · simp only [invoke, callFunc_run hfn hen]
  have hcl := (hcall _ _ _ _ _ hc).2 N1 γ (wa.alloc (.loop r0)) (.enter f0 (first' ++ #[.func (.yield (w.heap.size + 1)) #[] #[]] ++ cap')) hrl (.fn hfn hargs) none (n - 1)
  refine CallsIn.mono hcl ?_
  intro e w3 hcr
  obtain ⟨δ, le2, hh3, he3, hf3⟩ := hcr
  cases e with
  | panicked chain => exact he3.elim
  | outgrown => exact he3.elim
  | returned v' =>
    have hlK3 : δ.loop s.H.next = some (w.heap.size + 1) := by rw [← hsz]; exact le2.loop _ _ hlK
    obtain ⟨q, q', hq1, hq2, hq3, hq4⟩ := hh3.lp _ _ hlK3
    rw [hr] at hq1
    obtain rfl : r = q := by simpa using hq1
    have hst' : q'.state ≠ .busy := by rw [hq4.state]; exact hst
    obtain ⟨hh4, hf4⟩ := hh3.setLoop (r := { r with state := .exhausted }) (r' := { q' with state := .exhausted }) hlK3 ⟨rfl, hq4.pending, hq4.tmps, hq4.params, hq4.assign, hq4.body⟩
    have hw4 : Fr N0 w (w3.putObj (w.heap.size + 1) (.loop { q' with state := .exhausted })) := hfa.trans (((hfl.trans hf3).trans hf4).weaken fun b h => .inl h)
    have hd4 : (w3.putObj (w.heap.size + 1) (.loop { q' with state := .exhausted })).heap[w.heap.size]? = some (.deferred (some [])) := by
      rw [((hfl.trans hf3).trans hf4).low _ (.inr rfl)]; exact hda
    have le : Emb.le β δ := le1.trans le2
    have hs4 : SRel P N1 δ ⟨s.tmps, s.dfs, H'.set s.H.next (.loop { r with state := .exhausted })⟩ { a with defers := [{ target := .collected w.heap.size, args := #[] }] ++ a.defers } (w3.putObj (w.heap.size + 1) (.loop { q' with state := .exhausted })) := by
      refine ⟨hs.tmps.mono le, .mark (.inr rfl) hb hd4 (fun d hd e => by have := hs.dfs.marks_lt d hd _ e; omega) ?_, hh4⟩
      have : DRels P N0 δ (w3.putObj (w.heap.size + 1) (.loop { q' with state := .exhausted })) s.dfs a.defers := hs.dfs.mono le hw4
      revert this
      generalize (w3.putObj (w.heap.size + 1) (.loop { q' with state := .exhausted })) = W
      intro hd
      generalize s.dfs = l1 at hd
      generalize a.defers = l2 at hd
      induction hd with
      | nil => exact .nil
      | cons h _ ih => exact .cons h ih
      | mark h1 h2 h3 h4 _ ih => exact .mark (.inl h1) h2 h3 h4 ih
    have hout : ∀ {e : Exit}, XRel δ x0 e → OutC P N0 β w x0 ⟨s.tmps, s.dfs, H'.set s.H.next (.loop { r with state := .exhausted })⟩ e { a with defers := [{ target := .collected w.heap.size, args := #[] }] ++ a.defers } (w3.putObj (w.heap.size + 1) (.loop { q' with state := .exhausted })) :=
      fun hx => ⟨N1, δ, rfl, fun _ h => .inl h, le, hs4.x _, hw4, hx⟩
    have hend := run_endLoop (P := P) hq3 hst'
    generalize (w3.putObj (w.heap.size + 1) (.loop { q' with state := .exhausted })) = W4 at hend hout
    refine ⟨q'.pending, W4, hend, ?_⟩
    rw [hq4.pending]
    cases hp : r.pending with
    | none =>
      rw [hp] at hx0
      obtain rfl : AExit.normal = x0 := by simpa [exitOf] using hx0
      exact hQ .normal _ _ (hout (e := .normal) trivial)
    | some c =>
      rw [hp] at hx0
      cases c <;> simp [exitOf] at hx0
      · subst hx0; exact wpIn_exit (hQ (.exit _) _ _ (hout (e := .exit _) (rfl : _ = _)))
      · subst hx0; exact wpIn_ret (hQ .ret _ _ (hout (e := .ret) trivial))

theorem code_of_loop (hcall : CallOK P call) (hm : P.follows .mixedOrders = true) {k : Nat} (hl : LoopOK P call k) : ∀ c, CodeOK P call k c := by
  intro c
  induction c with
  | skip =>
    intro ro n s x s' N0 β a w he hs hb Q hQ
    simp only [evalCode, Option.some.injEq, Prod.mk.injEq] at he
    obtain ⟨rfl, rfl⟩ := he
    exact wpIn_skip (hQ _ _ _ (outC_same hs trivial))
  | region id ops draw =>
    intro ro n s x s' N0 β a w he hs hb Q hQ
    rw [evalCode] at he
    cases draw with
    | true => exact drawRun_sound hcall hm (by simpa using he) hs Q fun e a' w' ho => hQ _ _ _ ho.c
    | false => exact wpIn_region (evalIdx_sound hcall _ s β a w (by simpa using he) hs Q fun e a' w' ho => hQ _ _ _ ho.c)
  | seq c1 c2 ih1 ih2 =>
    intro ro n s x s' N0 β a w he hs hb Q hQ
    rw [evalCode] at he
    refine wpIn_seq ?_
    split at he
    · rename_i s1 h1
      refine ih1 ro n s _ _ N0 β a w h1 hs hb _ fun e a' w' ho => ?_
      obtain ⟨rfl, N1, γ, g1, g2, le, hs1, hf, hb1⟩ := ho.normal hb
      exact ih2 ro n s1 _ _ N1 γ a' w' he hs1 hb1 _ fun e2 a2 w2 ho2 => hQ _ _ _ (ho2.trans g1 g2 le hf)
    · rename_i hne
      cases hr : evalCode P call ro.isSome k c1 s with
      | none => rw [hr] at he; simp at he
      | some q =>
        obtain ⟨x1, s1⟩ := q
        rw [hr] at he
        obtain ⟨rfl, rfl⟩ := (by simpa using he : x1 = x ∧ s1 = s')
        refine ih1 ro n s _ _ N0 β a w hr hs hb _ fun e a' w' ho => then_of (ho.not_normal ?_) (hQ _ _ _ ho)
        intro hx; subst hx; exact hne _ hr
  | cond c c1 c2 ih1 ih2 =>
    intro ro n s x s' N0 β a w he hs hb0 Q hQ
    rw [evalCode] at he
    split at he
    case isFalse => simp at he
    rename_i hok
    have hv := aev_rel hs.tmps hok
    have hb := boolOf_rel hv
    split at he
    · rename_i ht
      rw [ht] at hb
      have hbv : a.eval c = .bool true := by
        cases hc : a.eval c <;> rw [hc] at hb <;> simp_all [boolOf]
      exact wpIn_cond_true hbv (ih1 ro n s _ _ N0 β a w he hs hb0 _ hQ)
    · rename_i ht
      rw [ht] at hb
      have hbv : a.eval c = .bool false := by
        cases hc : a.eval c <;> rw [hc] at hb <;> simp_all [boolOf]
      exact wpIn_cond_false hbv (ih2 ro n s _ _ N0 β a w he hs hb0 _ hQ)
    · simp at he
  | block id c1 ih1 =>
    intro ro n s x s' N0 β a w he hs hb Q hQ
    rw [evalCode] at he
    refine wpIn_block ?_
    split at he
    · rename_i i s1 h1
      refine ih1 ro n s _ _ N0 β a w h1 hs hb _ fun e a' w' ho => ?_
      obtain ⟨N1, γ, g1, g2, le, hs1, hf, hx⟩ := ho
      cases e <;> first | exact hx.elim | skip
      rename_i j
      obtain rfl : i = j := hx
      split at he
      · rename_i hid
        obtain ⟨rfl, rfl⟩ := (by simpa using he : AExit.normal = x ∧ s1 = s')
        simp only [Exit.inBlock, hid, if_true]
        refine hQ _ _ _ ⟨N1, γ, g1, g2, le, ⟨?_, hs1.dfs, hs1.heap⟩, hf, trivial⟩
        rcases hs1.tmps with h | ⟨_, v, hv⟩
        · exact .inl h
        · cases hv
      · rename_i hid
        obtain ⟨rfl, rfl⟩ := (by simpa using he : AExit.exit i = x ∧ s1 = s')
        simp only [Exit.inBlock, hid, if_false]
        exact hQ _ _ _ ⟨N1, γ, g1, g2, le, hs1, hf, rfl⟩
    · rename_i hne
      refine ih1 ro n s _ _ N0 β a w he hs hb _ fun e a' w' ho => ?_
      have hxx : ∀ i, x ≠ .exit i := by
        intro i hi; subst hi; exact hne _ _ he
      have hq := hQ _ _ _ ho
      obtain ⟨N1, γ, g1, g2, le, hs1, hf, hx⟩ := ho
      cases e <;> first | exact hq | skip
      rename_i j
      cases x <;> first | exact hx.elim | exact absurd rfl (hxx _)
  | loop c1 ih1 =>
    intro ro n s x s' N0 β a w he hs hb Q hQ
    exact wpIn_loop_rounds k (hl ro n c1 s x s' N0 β a w he hs hb Q hQ)
  | rangeFunc f ps as b _ _ =>
    intro ro n s x s' N0 β a w he hs hb Q hQ
    rw [evalCode] at he
    cases ro with
    | some l => simp at he
    | none =>
      simp only [Option.isSome_none, Bool.false_eq_true, if_false] at he
      split at he
      · rename_i f0 args H1 hrc
        exact range_sound hcall hrc he hs hb Q hQ
      · simp at he
  | exit id =>
    intro ro n s x s' N0 β a w he hs hb Q hQ
    simp only [evalCode, Option.some.injEq, Prod.mk.injEq] at he
    obtain ⟨rfl, rfl⟩ := he
    exact wpIn_exit (hQ _ _ _ (outC_same hs rfl))
  | scope b _ => intro ro n s x s' N0 β a w he; rw [evalCode] at he; simp at he
  | label l =>
    intro ro n s x s' N0 β a w he hs hb Q hQ
    simp only [evalCode, Option.some.injEq, Prod.mk.injEq] at he
    obtain ⟨rfl, rfl⟩ := he
    exact wpIn_label (hQ _ _ _ (outC_same hs trivial))
  | goto l => intro ro n s x s' N0 β a w he; rw [evalCode] at he; simp at he
  | ret =>
    intro ro n s x s' N0 β a w he hs hb Q hQ
    simp only [evalCode, Option.some.injEq, Prod.mk.injEq] at he
    obtain ⟨rfl, rfl⟩ := he
    exact wpIn_ret (hQ _ _ _ (outC_same hs trivial))
  | refuse why => intro ro n s x s' N0 β a w he; rw [evalCode] at he; simp at he

theorem code_sound (hcall : CallOK P call) (hm : P.follows .mixedOrders = true) : ∀ k, (∀ c, CodeOK P call k c) ∧ LoopOK P call k := by
  intro k
  induction k with
  | zero =>
    have hl : LoopOK P call 0 := by
      intro ro n c s x s' N0 β a w he
      rw [evalCode] at he
      simp at he
    exact ⟨code_of_loop hcall hm hl, hl⟩
  | succ k ih =>
    obtain ⟨ihc, ihl⟩ := ih
    have hl : LoopOK P call (k + 1) := by
      intro ro n c s x s' N0 β a w he hs hb Q hQ
      rw [evalCode] at he
      rw [roundsIn_succ]
      split at he
      · rename_i s1 h1
        refine ihc c ro n s _ _ N0 β a w h1 hs hb _ fun e a' w' ho => ?_
        obtain ⟨rfl, N1, γ, g1, g2, le, hs1, hf, hb1⟩ := ho.normal hb
        exact ihl ro n c s1 _ _ N1 γ a' w' he hs1 hb1 _ fun e2 a2 w2 ho2 => hQ _ _ _ (ho2.trans g1 g2 le hf)
      · rename_i hne
        refine ihc c ro n s _ _ N0 β a w he hs hb _ fun e a' w' ho => then_of (ho.not_normal ?_) (hQ _ _ _ ho)
        intro hx; subst hx; exact hne _ he
    exact ⟨code_of_loop hcall hm hl, hl⟩

end
end B
end Go.Proofs.Ytnjoaffnfjlcaaa
