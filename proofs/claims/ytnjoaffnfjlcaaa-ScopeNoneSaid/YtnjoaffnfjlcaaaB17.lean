/-
  Regions that draw: the theorem.
-/
import Derived.Test.YtnjoaffnfjlcaaaB16
namespace Go.Proofs.Ytnjoaffnfjlcaaa
namespace B
open Go

theorem stable_at {P : Program} {B : List Nat} {t : Tr} {He : AHeap} {D : Nat → Bool} : ∀ (ts : List Tr), stableFrom P B t ts He → (∀ u ∈ ts, bit B u.j t.j = true → D u.j = false) → same P t (heapAt D ts He)
  | [], h, _ => h
  | u :: us, h, hD => by
    unfold stableFrom at h
    unfold heapAt
    cases he : isEff u.o with
    | false =>
      rw [he] at h
      simp only [Bool.false_eq_true, if_false] at h
      simp only [Bool.false_and, Bool.false_eq_true, if_false]
      exact stable_at us h fun v hv => hD v (by simp [hv])
    | true =>
      rw [he] at h
      simp only [if_true] at h
      cases hd : D u.j with
      | false => simp only [Bool.not_false, Bool.and_self, if_true]; exact h.1
      | true =>
        simp only [Bool.not_true, Bool.and_false, Bool.false_eq_true, if_false]
        rcases h.2 with hb | hs
        · have := hD u (by simp) hb; rw [hd] at this; simp at this
        · exact stable_at us hs fun v hv => hD v (by simp [hv])

theorem readsOK_at {P : Program} {B : List Nat} {He : AHeap} : ∀ {T1 T2 : List Tr} {t : Tr}, readsOK P B (T1 ++ t :: T2) He → t.w = true → isEff t.o = false → stableFrom P B t T2 He
  | [], T2, t, h, hw, he => h.1 hw he
  | u :: T1, T2, t, h, hw, he => readsOK_at h.2 hw he

theorem panics_eff {P : Program} {call : CallT} {ops : List Oper} {j : Nat} {tm : List Value} {H : AHeap} {v : Value} {H' : AHeap} (h : PanicsAt P call ops j tm H v H') : effAt ops j = true := by
  obtain ⟨o, ho, _, hh⟩ := h.ex
  unfold effAt
  rw [ho]
  show isEff o = true
  unfold isEff
  have key : ∀ r, evalAny P H (aev tm) o = some r → (∀ V HH, r ≠ .val V HH) → (okind o.op == OKind.effect) = true := by
    intro r hr hn
    cases hk : okind o.op with
    | pure => obtain ⟨V, h1, _⟩ := pure_any hk hr; exact absurd h1 (hn _ _)
    | read => obtain ⟨V, h1⟩ := read_any hk hr; exact absurd h1 (hn _ _)
    | alloc => obtain ⟨V, HH, h1⟩ := alloc_val hk hr; exact absurd h1 (hn _ _)
    | effect => rfl
  rcases hh with ⟨f, args, H1, he, _⟩ | he
  · exact key _ he (by intro V HH e; simp at e)
  · exact key _ he (by intro V HH e; simp at e)

theorem evalAny_defer {P : Program} {H : AHeap} {ρ : Operand → Value} {o : Oper} {c : Call} (hcc : o.op = .defer c) : evalAny P H ρ o = none := by
  unfold evalAny
  simp only [hcc]
  unfold evalOp
  simp only [hcc]
  split <;> rfl

section
variable {P : Program} {N0 : Fz} {call : CallT} {ops : List Oper} {s : St} {T : List Tr} {tmE : List Value} {He : AHeap} {rest : List Nat}

theorem slot_end (hc : DCtx P call ops s T tmE He rest) {D : Nat → Bool} (hD : ClosedD ops D) {j : Nat} {r' : List Nat} (hrest : rest = j :: r') {o : Oper} (ho : ops[j]? = some o)
    (hr : ∀ e ∈ o.after.toList, Region.binds .any e = true → D e.on = true) {x : Nat} (hx : x ∈ names ops o) : (tmD D T s.tmps)[x]? = tmE[x]? := by
  rw [Chain.tm T hc.ch]
  refine tmD_slot T _ _ rfl rfl fun u hu hd => ?_
  have gu := (hc.ch.good T u hu).op
  have hcf : Go.Proofs.Ytnjoaffnfjlcaaa.B.conf ops u.o o = true := by
    unfold Go.Proofs.Ytnjoaffnfjlcaaa.B.conf
    rw [hd]
    simp [hx]
  obtain ⟨A1, A2, hT⟩ := List.append_of_mem hu
  rcases Nat.lt_trichotomy u.j j with hlt | heq | hgt
  · exact ready_bit hD ho hr (hc.st.conf _ _ _ _ hlt gu ho hcf)
  · exact absurd (by rw [← heq]; exact List.mem_map.2 ⟨u, hu, rfl⟩) (hc.st.nd (T.map (·.j)) j r' (by rw [hrest]))
  · have hb := hc.st.conf _ _ _ _ hgt ho gu (by rw [conf_symm]; exact hcf)
    have := hc.st.ahead (A1.map (·.j)) u.j (A2.map (·.j) ++ rest) (by rw [hT]; simp) j (List.getElem?_eq_some_iff.1 ho).1 hb
    exact absurd (by rw [hT]; simp only [List.map_append, List.mem_append]; exact .inl this) (hc.st.nd (T.map (·.j)) j r' (by rw [hrest]))

theorem aev_end {t1 t2 : List Value} {o : Oper} (h : ∀ x ∈ names ops o, t1[x]? = t2[x]?) : ∀ x ∈ o.op.operands, aev t1 x = aev t2 x := by
  intro x hx
  cases x with
  | tmp i =>
    simp only [aev, List.getD_eq_getElem?_getD]
    rw [h i]
    unfold names
    simp only [List.mem_append, List.mem_filterMap]
    exact .inl (.inr ⟨.tmp i, by simpa using hx, rfl⟩)
  | _ => rfl

theorem wanted_end {t1 t2 : List Value} {o : Oper} (h : ∀ x ∈ names ops o, t1[x]? = t2[x]?) : wantedA ops t1 o = wantedA ops t2 o := by
  unfold wantedA
  cases hg : o.guard with
  | none => rfl
  | some p =>
    obtain ⟨g, want⟩ := p
    dsimp only
    have : yieldA ops t1 g = yieldA ops t2 g := by
      unfold yieldA
      cases hog : ops[g]? with
      | none => rfl
      | some og =>
        dsimp only
        cases hdg : og.dst with
        | none => rfl
        | some d =>
          dsimp only
          rw [h d]
          unfold names
          rw [hg]
          simp [hog, hdg]
    rw [this]
end

section
variable {P : Program} {N0 : Fz} {call : CallT} {ops : Array Oper} {s : St} {T : List Tr} {tmE : List Value} {He : AHeap} {rest : List Nat}

theorem next_before (hcall : CallOK P call) {T1 T2 : List Tr} {u t : Tr} {tm : List Value} {H : AHeap} {l : List Oper} (hch : Chain P call l (T1 ++ t :: T2) tm H tmE He) (hu : u ∈ T1) (hk : okind u.o.op = .alloc) (hw : u.w = true) : u.H.next < t.H.next := by
  obtain ⟨A1, A2, rfl⟩ := List.append_of_mem hu
  rw [List.append_assoc] at hch
  obtain ⟨tm1, H1, _, h2⟩ := Chain.split A1 hch
  obtain ⟨_, h3, h4, h5⟩ := h2
  have he : isEff u.o = false := by unfold isEff; rw [hk]; rfl
  rcases h4.quiet hw he with ⟨h, _⟩ | ⟨h, _⟩ | ⟨_, e⟩
  · rw [hk] at h; cases h
  · rw [hk] at h; cases h
  · obtain ⟨obj, r, _, _, hp⟩ := alloc_push hk e
    have hn : u.H'.next = u.H.next + 1 := by rw [hp]; rfl
    have := ((Chain.next hcall _ h5).2 t (by simp)).next
    omega

theorem next_behind (hcall : CallOK P call) {T1 T2 : List Tr} {u t : Tr} {tm : List Value} {H : AHeap} {l : List Oper} (hch : Chain P call l (T1 ++ t :: T2) tm H tmE He) (hu : u ∈ T2) : t.H'.next ≤ u.H.next := by
  obtain ⟨tm1, H1, _, h2⟩ := Chain.split T1 hch
  obtain ⟨_, _, _, h5⟩ := h2
  exact ((Chain.next hcall _ h5).2 u hu).next

/-- The relation behind one more operation. -/
theorem Inv.more (hc : DCtx P call ops.toList s T tmE He rest) {β0 : Emb} {w0 : World} {D : Nat → Bool} {γ : Emb} {a : Act} {w : World} (hI : Inv P N0 ops.toList s T He β0 w0 D γ a w) {T1 T2 : List Tr} {t : Tr} (hT : T = T1 ++ t :: T2)
    (hnd : D t.j = false) (hr : ∀ e ∈ t.o.after.toList, Region.binds .any e = true → D e.on = true) {γ' : Emb} {w' : World} {v' : Value} (leU : Emb.leU γ γ') (le0 : Emb.le β0 γ') (hfr : Fr N0 w w') (hv : VRel γ' t.v v')
    (hheap : HRel P N0 γ' (heapAt (addD D t.j) T He) w') (hres : ∀ u ∈ T, okind u.o.op = .alloc → u.w = true → addD D t.j u.j = false → γ'.live u.H.next = false) :
    Inv P N0 ops.toList s T He β0 w0 (addD D t.j) γ' (a.put t.o.dst v') w' := by
  have gt := (hc.ch.good T t (by rw [hT]; simp)).op
  refine ⟨?_, ?_, ?_, ?_, hheap, le0, hI.fr.trans hfr, hres⟩
  · intro j o hj ho e he hb
    unfold addD at hj ⊢
    simp only [Bool.or_eq_true, beq_iff_eq] at hj ⊢
    rcases hj with rfl | hj
    · rw [gt] at ho; obtain rfl := (by simpa using ho : t.o = o)
      exact .inr (hr e he hb)
    · exact .inr (hI.closed j o hj ho e he hb)
  · intro j hj
    unfold addD at hj
    simp only [Bool.or_eq_true, beq_iff_eq] at hj
    rcases hj with rfl | hj
    · rw [hT]; simp
    · exact hI.inT j hj
  · rw [tm_after hc hI.closed hT hnd]
    exact putT_rel (VRels.monoU leU hI.tm) _ hv
  · rw [put_defers]; exact hI.dfs.monoU leU hfr

theorem heapAt_quiet (hc : DCtx P call ops.toList s T tmE He rest) {D : Nat → Bool} {t : Tr} (ht : t ∈ T) (he : isEff t.o = false) : heapAt (addD D t.j) T He = heapAt D T He := by
  refine heapAt_congr T fun u hu heu => ?_
  unfold addD
  have : u.j ≠ t.j := by
    intro e
    have g1 := (hc.ch.good T u hu).op
    have g2 := (hc.ch.good T t ht).op
    rw [e, g2] at g1
    obtain e2 := (by simpa using g1 : t.o = u.o)
    rw [← e2, he] at heu; simp at heu
  simp [this]

/-- Behind what acts. -/
theorem after_eff (hc : DCtx P call ops.toList s T tmE He rest) {D : Nat → Bool} (hD : ClosedD ops.toList D) {T1 T2 : List Tr} {t : Tr} (hT : T = T1 ++ t :: T2) (hnd : D t.j = false) (he : isEff t.o = true)
    (hb : ∀ u ∈ T1, isEff u.o = true → D u.j = true) {γ : Emb} {w : World} (h : HRel P N0 γ t.H' w) : ∃ γ', Emb.le γ γ' ∧ HRel P N0 γ' (heapAt (addD D t.j) T He) w ∧ ∀ i, γ'.live i = γ.live i := by
  have hne : ∀ u ∈ T2, u.j ≠ t.j := by
    intro u hu e
    obtain ⟨A1, A2, rfl⟩ := List.append_of_mem hu
    exact hc.st.nd ((T1 ++ t :: A1).map (·.j)) u.j (A2.map (·.j) ++ rest) (by rw [hT]; simp) (by rw [e]; simp)
  have h2 : ∀ u ∈ T2, addD D t.j u.j = false := by
    intro u hu
    unfold addD
    simp [hne u hu, none_behind hc hD hT hnd he u hu]
  have e1 : heapAt (addD D t.j) T He = heapAt (addD D t.j) T2 He := by
    rw [hT, heapAt_skip T1 (t :: T2) (fun u hu heu => by unfold addD; simp [hb u hu heu])]
    simp [heapAt, addD]
  rw [e1]
  have hch := hc.ch
  rw [hT] at hch
  obtain ⟨tm1, H1, _, h4⟩ := Chain.split T1 hch
  obtain ⟨_, _, _, h5⟩ := h4
  exact advance hc.hcall T2 h5 h2 h

theorem res_eff (hc : DCtx P call ops.toList s T tmE He rest) {β0 : Emb} {w0 : World} {D : Nat → Bool} {γ γ' : Emb} {a : Act} {w w' : World} (hI : Inv P N0 ops.toList s T He β0 w0 D γ a w) {T1 T2 : List Tr} {t : Tr} (hT : T = T1 ++ t :: T2)
    (he : isEff t.o = true) (hH : heapAt D T He = t.H) (le : Emb.le γ γ') (h : HRel P N0 γ' t.H' w') : ∀ u ∈ T, okind u.o.op = .alloc → u.w = true → addD D t.j u.j = false → γ'.live u.H.next = false := by
  intro u hu hk hw hd
  have hd' : D u.j = false := by unfold addD at hd; simp only [Bool.or_eq_false_iff] at hd; exact hd.2
  have h0 := hI.resv u hu hk hw hd'
  cases hl : γ'.live u.H.next with
  | false => rfl
  | true =>
    have h1 := h.live _ hl
    have h2 : t.H.next ≤ u.H.next := by
      rcases le.new _ hl with e | e
      · rw [h0] at e; simp at e
      · rw [hI.heap.nx, hH] at e; exact e
    have hch := hc.ch
    rw [hT] at hch hu
    rcases List.mem_append.1 hu with hu | hu
    · have := next_before hc.hcall hch hu hk hw; omega
    · rcases List.mem_cons.1 hu with rfl | hu
      · unfold isEff at he; rw [hk] at he; simp at he
      · have := next_behind hc.hcall hch hu; omega

set_option maxHeartbeats 1000000 in
theorem draw_step (hc : DCtx P call ops.toList s T tmE He rest) {β0 : Emb} {w0 : World} (hnx : β0.nx = s.H.next) {D : Nat → Bool} {γ : Emb} {a : Act} {w : World} (hI : Inv P N0 ops.toList s T He β0 w0 D γ a w)
    {x : AExit} {s' : St} (hend : (rest = [] ∧ x = .normal ∧ s' = ⟨tmE, s.dfs, He⟩) ∨ ∃ j rest' v H', rest = j :: rest' ∧ x = .panic v ∧ s' = ⟨[], s.dfs, H'⟩ ∧ PanicsAt P call ops.toList j tmE He v H')
    {ro : Option Nat} {n : Nat} {Q : Exit → Act → World → Prop} (hQ : ∀ e a' w', OutRel P N0 β0 w0 x s' e a' w' → Q e a' w')
    {j : Nat} {o : Oper} (ho : ops[j]? = some o) (hnd : D j = false) (hr : ∀ e ∈ o.after.toList, Region.binds .any e = true → D e.on = true) {K : Act → World → Prop}
    (hK : ∀ a' w' γ', Inv P N0 ops.toList s T He β0 w0 (addD D j) γ' a' w' → K a' w') : wpOpIn (WF ro) n P ops Q j K a w := by
  have ho' : ops.toList[j]? = some o := by rw [Array.getElem?_toList]; exact ho
  have hpan : ∀ j' r', rest = j' :: r' → effAt ops.toList j' = true := by
    intro j' r' hrr
    rcases hend with ⟨e, _⟩ | ⟨j2, r2, v, H', e, _, _, hp⟩
    · rw [e] at hrr; simp at hrr
    · rw [e] at hrr
      obtain ⟨rfl, rfl⟩ := (by simpa using hrr : j2 = j' ∧ r2 = r')
      exact panics_eff hp
  unfold wpOpIn
  rw [ho]
  dsimp only
  rw [wantedA_rel hI.tm]
  have hρ : ∀ x, operandOk x = true → VRel γ (aev (tmD D T s.tmps) x) (a.eval x) := fun x hx => aev_rel hI.tm hx
  rcases find_tr hc hI.closed hI.inT hpan ho' hr with ⟨T1, t, T2, hT, rfl, rfl, hb⟩ | ⟨⟨r', hrr⟩, hall⟩
  · have htm : t ∈ T := by rw [hT]; simp
    have hg := hc.ch.good T t htm
    rw [wanted_at hc hI.closed hT hnd hr]
    have hcg : ∀ H, evalAny P H (aev (tmD D T s.tmps)) t.o = evalAny P H (aev t.tm) t.o := fun H => evalAny_congr (aev_at hc hI.closed hT hnd hr)
    have hHeff : isEff t.o = true → heapAt D T He = t.H := by
      intro he
      rw [hT, heapAt_skip T1 (t :: T2) hb]
      simp [heapAt, he, hnd]
    have hnext0 : β0.nx ≤ t.H.next := by rw [hnx]; exact ((Chain.next hc.hcall T hc.ch).2 t htm).next
    cases hw : t.w with
    | false =>
      obtain ⟨h1, h2, h3⟩ := hg.no hw
      rw [h1]
      simp only [Bool.false_eq_true, if_false]
      refine ⟨wf_about, ?_⟩
      cases he : isEff t.o with
      | false =>
        refine hK _ _ γ (hI.more hc hT hnd hr (Emb.leU.refl _) hI.le (Fr.refl _ _) (by rw [h2]; exact .closed rfl) (by rw [heapAt_quiet hc htm he]; exact hI.heap) ?_)
        intro u hu hk hw' hd
        exact hI.resv u hu hk hw' (by unfold addD at hd; simp only [Bool.or_eq_false_iff] at hd; exact hd.2)
      | true =>
        have hh : HRel P N0 γ t.H' w := by rw [h3, ← hHeff he]; exact hI.heap
        obtain ⟨γ', le, hr', hl⟩ := after_eff hc hI.closed hT hnd he hb hh
        refine hK _ _ γ' (hI.more hc hT hnd hr le.u (hI.le.trans le) (Fr.refl _ _) (by rw [h2]; exact .closed rfl) hr' ?_)
        intro u hu hk hw' hd
        rw [hl]
        exact hI.resv u hu hk hw' (by unfold addD at hd; simp only [Bool.or_eq_false_iff] at hd; exact hd.2)
    | true =>
      obtain ⟨h1, h2⟩ := hg.yes hw
      rw [h1]
      simp only [if_true]
      refine ⟨wf_about, ?_⟩
      have hnodefer : ∀ c, t.o.op ≠ .defer c := by
        intro c hcc
        rw [evalAny_defer hcc] at h2
        simp at h2
      have hsem : (t.o.semAt (WF ro).round a.eval) = execOp a.eval t.o := Oper.semAt_eq _ _ _ hnodefer
      rw [hsem]
      cases he : isEff t.o with
      | true =>
        have hH := hHeff he
        have hIh : HRel P N0 γ t.H w := by rw [← hH]; exact hI.heap
        have finish : ∀ (γ1 : Emb) (w1 : World) (v' : Value), Emb.le γ γ1 → HRel P N0 γ1 t.H' w1 → VRel γ1 t.v v' → Fr N0 w w1 → K (a.put t.o.dst v') w1 := by
          intro γ1 w1 v' le1 hr1 hv1 hf1
          obtain ⟨γ2, le2, hr2, hl2⟩ := after_eff hc hI.closed hT hnd he hb hr1
          refine hK _ _ γ2 (hI.more hc hT hnd hr (le1.trans le2).u (hI.le.trans (le1.trans le2)) hf1 (hv1.mono le2) hr2 ?_)
          intro u hu hk hw' hd
          rw [hl2]
          exact res_eff hc hI hT he hH le1 hr1 u hu hk hw' hd
        rcases h2 with h2 | ⟨h2, hvu⟩ | ⟨f, args, H1, h2, hcl⟩
        · rw [← hcg] at h2
          obtain ⟨v', w1, γ1, hR, le1, hr1, hv1, hf1⟩ := (evalAny_sim hIh hρ h2).inv_val
          rw [hR]
          exact finish γ1 w1 v' le1 hr1 hv1 hf1
        · rw [← hcg] at h2
          obtain ⟨w1, γ1, hR, le1, hr1, hf1⟩ := (evalAny_sim hIh hρ h2).inv_skip
          rw [hR]
          exact finish γ1 w1 undef le1 hr1 (by rw [hvu]; exact .closed rfl) hf1
        · rw [← hcg] at h2
          obtain ⟨nx, w1, γ1, hR, le1, hr1, hv1, hf1⟩ := (evalAny_sim hIh hρ h2).inv_enter
          rw [hR]
          refine upon_next ((hc.hcall _ _ _ _ _ hcl).2 N0 γ1 w1 nx hr1 hv1 ro _) ?_
          intro e' w2 hcr
          obtain ⟨γ2, le2, hr2, he2, hf2⟩ := hcr
          cases e' with
          | returned v' => exact finish γ2 w2 v' (le1.trans le2) hr2 he2 (hf1.trans hf2)
          | panicked chain => exact he2.elim
          | outgrown => exact he2.elim
      | false =>
        have hDt : heapAt D T He = heapAt D T2 He := by
          rw [hT, heapAt_skip T1 (t :: T2) hb]
          simp [heapAt, he]
        have hstab : same P t (heapAt D T He) := by
          rw [hDt]
          refine stable_at T2 (readsOK_at (by rw [← hT]; exact hc.rd) hw he) ?_
          intro u hu hbt
          cases hdu : D u.j with
          | false => rfl
          | true =>
            have gu := (hc.ch.good T u (by rw [hT]; simp [hu])).op
            have := closed_bit hI.closed _ _ (Nat.le_refl _) hdu hbt (List.getElem?_eq_some_iff.1 gu).1
            rw [hnd] at this; simp at this
        have quiet : evalAny P (heapAt D T He) (aev (tmD D T s.tmps)) t.o = some (.val t.v (heapAt D T He)) → Oper.uponIn (WF ro) n P t.o a K Q ((execOp a.eval t.o).run P w) := by
          intro hev
          obtain ⟨v', w1, γ1, hR, le1, hr1, hv1, hf1⟩ := (evalAny_sim hI.heap hρ hev).inv_val
          rw [hR]
          refine hK _ _ γ1 (hI.more hc hT hnd hr le1.u (hI.le.trans le1) hf1 hv1 (by rw [heapAt_quiet hc htm he]; exact hr1) ?_)
          intro u hu hk hw' hd
          have h0 := hI.resv u hu hk hw' (by unfold addD at hd; simp only [Bool.or_eq_false_iff] at hd; exact hd.2)
          cases hl : γ1.live u.H.next with
          | false => rfl
          | true =>
            have h3 := hr1.live _ hl
            rcases le1.new _ hl with e | e
            · rw [h0] at e; simp at e
            · rw [hI.heap.nx] at e; omega
        rcases hg.quiet hw he with ⟨hk, _, hp⟩ | ⟨hk, _, _⟩ | ⟨hk, hev⟩
        · exact quiet (by rw [hcg]; exact hp _)
        · unfold same at hstab
          rw [hk] at hstab
          exact quiet (by rw [hcg]; exact hstab)
        · unfold same at hstab
          rw [hk] at hstab
          dsimp only at hstab
          have hev' := hev
          rw [← hcg] at hev'
          obtain ⟨V, H', hVH, har⟩ := alloc_any (w := w) hρ hk hev'
          simp only [ARes.val.injEq] at hVH
          obtain ⟨rfl, rfl⟩ := hVH
          obtain ⟨obj, r, c, i, V', w1, hov, hro, hgz, hst, hi, hpush, hcs, hrun, hheap, hV⟩ := har.ex
          have hview : (heapAt D T He).view t.H.next = some r := by
            unfold AHeap.view
            rw [hstab, hpush, AHeap.push_get_new]
            exact hov
          have hnl := hI.resv t htm hk hw hnd
          obtain ⟨leu, hr1, hf1, hrow, hbs, hbe, hlv, hli, hnx1⟩ := hI.heap.mapRow hview hnl hro hgz hi hcs w1 hheap
          rw [hrun]
          refine hK _ _ _ (hI.more hc hT hnd hr leu ?_ hf1 (hV _ hrow hli hbs hbe) (by rw [heapAt_quiet hc htm he]; exact hr1) ?_)
          · refine ⟨fun i' k p e => leu.row _ _ _ (hI.le.row _ _ _ e), fun i' b e => leu.map _ _ (hI.le.map _ _ e), fun i' b e => leu.loop _ _ (hI.le.loop _ _ e),
              fun i' k b o' e => (leu.bsz _ _ _ _ (hI.le.row _ _ _ e)).trans (hI.le.bsz _ _ _ _ e), fun i' k b o' e => (leu.bes _ _ _ _ (hI.le.row _ _ _ e)).trans (hI.le.bes _ _ _ _ e),
              fun i' e => leu.live _ (hI.le.live _ e), fun i' e => ?_, by rw [hnx1]; exact hI.le.nx⟩
            rcases hlv i' e with e | e
            · exact hI.le.new _ e
            · rw [e]; exact .inr hnext0
          · intro u hu hku hw' hd
            unfold addD at hd
            simp only [Bool.or_eq_false_iff] at hd
            have h0 := hI.resv u hu hku hw' hd.2
            cases hl : (γ.addRow t.H.next 0 w.heap.size c.size i.size).live u.H.next with
            | false => rfl
            | true =>
              rcases hlv _ hl with e | e
              · rw [h0] at e; simp at e
              · have hch := hc.ch
                rw [hT] at hch hu
                have hn1 : t.H'.next = t.H.next + 1 := by rw [hpush]; rfl
                rcases List.mem_append.1 hu with hu | hu
                · have := next_before hc.hcall hch hu hku hw'; omega
                · rcases List.mem_cons.1 hu with rfl | hu
                  · simp at hd
                  · have := next_behind hc.hcall hch hu; omega
  · -- the one that panics
    rcases hend with ⟨e, _⟩ | ⟨j2, r2, v, H', e, rfl, rfl, hp⟩
    · rw [e] at hrr; simp at hrr
    · rw [e] at hrr
      obtain ⟨rfl, rfl⟩ := (by simpa using hrr : j2 = j ∧ r2 = r')
      have hsl := fun x hx => slot_end hc hI.closed e ho' hr (x := x) hx
      obtain ⟨o2, ho2, hw2, hh2⟩ := hp.ex
      rw [ho'] at ho2
      obtain rfl := (by simpa using ho2 : o = o2)
      rw [wanted_end hsl, hw2]
      simp only [if_true]
      refine ⟨wf_about, ?_⟩
      have hcg : ∀ H, evalAny P H (aev (tmD D T s.tmps)) o = evalAny P H (aev tmE) o := fun H => evalAny_congr (aev_end hsl)
      have hnodefer : ∀ c, o.op ≠ .defer c := by
        intro c hcc
        rw [evalAny_defer hcc] at hh2
        simp at hh2
      have hsem : (o.semAt (WF ro).round a.eval) = execOp a.eval o := Oper.semAt_eq _ _ _ hnodefer
      rw [hsem]
      have hH : heapAt D T He = He := by
        have := heapAt_skip (D := D) (He := He) T [] hall
        simpa [heapAt] using this
      have hIh : HRel P N0 γ He w := by rw [← hH]; exact hI.heap
      rcases hh2 with ⟨f, args, H1, h2, hcl⟩ | h2
      · rw [← hcg] at h2
        obtain ⟨nx, w1, γ1, hR, le1, hr1, hv1, hf1⟩ := (evalAny_sim hIh hρ h2).inv_enter
        rw [hR]
        refine upon_next ((hc.hcall _ _ _ _ _ hcl).2 N0 γ1 w1 nx hr1 hv1 ro _) ?_
        intro e' w2 hcr
        obtain ⟨γ2, le2, hr2, he2, hf2⟩ := hcr
        cases e' with
        | returned v' => exact he2.elim
        | panicked chain => exact hQ _ _ _ ⟨γ2, hI.le.trans (le1.trans le2), ⟨.inr ⟨rfl, v, rfl⟩, hI.dfs.mono (le1.trans le2) (hf1.trans hf2), hr2⟩, (hI.fr.trans hf1).trans hf2, he2⟩
        | outgrown => exact he2.elim
      · rw [← hcg] at h2
        obtain ⟨v', w1, γ1, hR, le1, hr1, hv1, hf1⟩ := (evalAny_sim hIh hρ h2).inv_panic
        rw [hR]
        exact hQ _ _ _ ⟨γ1, hI.le.trans le1, ⟨.inr ⟨rfl, v, rfl⟩, hI.dfs.mono le1 hf1, hr1⟩, hI.fr.trans hf1, v', rfl, hv1⟩
end

end B
end Go.Proofs.Ytnjoaffnfjlcaaa
