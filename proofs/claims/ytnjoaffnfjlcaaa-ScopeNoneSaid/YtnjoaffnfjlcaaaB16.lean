/-
  Regions that draw: whatever order is drawn, the end is the plan's.
-/
import Derived.Test.YtnjoaffnfjlcaaaB15
namespace Go.Proofs.Ytnjoaffnfjlcaaa
namespace B
open Go

theorem tmD_false : ∀ (T : List Tr) (tm : List Value), tmD (fun _ => false) T tm = tm
  | [], _ => rfl
  | t :: T, tm => by simp only [tmD, Bool.false_eq_true, if_false]; exact tmD_false T tm

theorem tmD_skip {D : Nat → Bool} : ∀ (T : List Tr) (tm : List Value), (∀ t ∈ T, D t.j = false) → tmD D T tm = tm
  | T, tm, h => (tmD_congr T tm (D2 := fun _ => false) h).trans (tmD_false T tm)

/-- What stays fixed while a region is run. -/
structure DCtx (P : Program) (call : CallT) (ops : List Oper) (s : St) (T : List Tr) (tmE : List Value) (He : AHeap) (rest : List Nat) : Prop where
  hcall : CallOK P call
  st : StaticOK ops (befOf ops) (T.map (·.j) ++ rest)
  ch : Chain P call ops T s.tmps s.H tmE He
  rd : readsOK P (befOf ops) T He

structure Inv (P : Program) (N0 : Fz) (ops : List Oper) (s : St) (T : List Tr) (He : AHeap) (β0 : Emb) (w0 : World) (D : Nat → Bool) (γ : Emb) (a : Act) (w : World) : Prop where
  closed : ClosedD ops D
  inT : ∀ j, D j = true → j ∈ T.map (·.j)
  tm : VRels γ (tmD D T s.tmps) a.tmps.toList
  dfs : DRels P N0 γ w s.dfs a.defers
  heap : HRel P N0 γ (heapAt D T He) w
  le : Emb.le β0 γ
  fr : Fr N0 w0 w
  resv : ∀ t ∈ T, okind t.o.op = .alloc → t.w = true → D t.j = false → γ.live t.H.next = false

theorem conf_symm (ops : List Oper) (x y : Oper) : conf ops x y = conf ops y x := by unfold conf; exact Bool.or_comm _ _

section
variable {P : Program} {N0 : Fz} {call : CallT} {ops : List Oper} {s : St} {T : List Tr} {tmE : List Value} {He : AHeap} {rest : List Nat}

theorem Chain.good : ∀ (T : List Tr) {tm : List Value} {H : AHeap} {tmE : List Value} {He : AHeap}, Chain P call ops T tm H tmE He → ∀ t ∈ T, Good P call ops t
  | [], _, _, _, _, _, t, ht => by simp at ht
  | u :: T, tm, H, tmE, He, h, t, ht => by
    obtain ⟨_, _, h3, h4⟩ := h
    rcases List.mem_cons.1 ht with rfl | ht
    · exact h3
    · exact Chain.good T h4 t ht

/-- All that acts ahead of j in the plan has been done when j comes up. -/
theorem eff_before (hc : DCtx P call ops s T tmE He rest) {D : Nat → Bool} (hD : ClosedD ops D) {j : Nat} {o : Oper} (ho : ops[j]? = some o) (hr : ∀ e ∈ o.after.toList, Region.binds .any e = true → D e.on = true)
    {A C : List Nat} (hp : T.map (·.j) ++ rest = A ++ j :: C) : ∀ e ∈ A, effAt ops e = true → D e = true := by
  intro e he hef
  refine ready_bit hD ho hr ?_
  cases hj : effAt ops j with
  | false => exact hc.st.eager A j C hp hj e he hef
  | true =>
    unfold effAt at hef hj
    rw [ho] at hj
    cases hoe : ops[e]? with
    | none => rw [hoe] at hef; simp at hef
    | some oe =>
      rw [hoe] at hef
      rcases Nat.lt_trichotomy e j with hlt | heq | hgt
      · exact hc.st.eff e j oe o hlt hoe ho hef hj
      · subst heq; exact absurd he (hc.st.nd A e C hp)
      · have hb := hc.st.eff j e o oe hgt ho hoe hj hef
        obtain ⟨A1, A2, rfl⟩ := List.append_of_mem he
        have := hc.st.ahead A1 e (A2 ++ j :: C) (by rw [hp]; simp) j (List.getElem?_eq_some_iff.1 ho).1 hb
        exact absurd (List.mem_append_left _ this) (hc.st.nd _ j C hp)

/-- Where in the trace an operation that comes up stands. -/
theorem find_tr (hc : DCtx P call ops s T tmE He rest) {D : Nat → Bool} (hD : ClosedD ops D) (hin : ∀ j, D j = true → j ∈ T.map (·.j)) (hpan : ∀ j' r', rest = j' :: r' → effAt ops j' = true)
    {j : Nat} {o : Oper} (ho : ops[j]? = some o) (hr : ∀ e ∈ o.after.toList, Region.binds .any e = true → D e.on = true) :
    (∃ T1 t T2, T = T1 ++ t :: T2 ∧ t.j = j ∧ t.o = o ∧ ∀ u ∈ T1, isEff u.o = true → D u.j = true) ∨ ((∃ r', rest = j :: r') ∧ ∀ u ∈ T, isEff u.o = true → D u.j = true) := by
  have hmem := hc.st.all j (List.getElem?_eq_some_iff.1 ho).1
  have effs : ∀ (L : List Tr), (∀ u ∈ L, u ∈ T) → ∀ u ∈ L, isEff u.o = true → effAt ops u.j = true := by
    intro L hL u hu he
    unfold effAt
    rw [(hc.ch.good T u (hL u hu)).op]; exact he
  rcases List.mem_append.1 hmem with h | h
  · left
    obtain ⟨t, ht, rfl⟩ := List.mem_map.1 h
    obtain ⟨T1, T2, rfl⟩ := List.append_of_mem ht
    refine ⟨T1, t, T2, rfl, rfl, ?_, ?_⟩
    · have := (hc.ch.good _ t ht).op
      rw [ho] at this; simpa using this.symm
    · intro u hu he
      exact eff_before hc hD ho hr (A := T1.map (·.j)) (C := T2.map (·.j) ++ rest) (by simp) u.j (List.mem_map.2 ⟨u, hu, rfl⟩) (effs T1 (fun v hv => by simp [hv]) u hu he)
  · right
    cases hrest : rest with
    | nil => rw [hrest] at h; simp at h
    | cons j' r' =>
      have hj' := hpan j' r' hrest
      have heq : j = j' := by
        rw [hrest] at h
        rcases List.mem_cons.1 h with h | h
        · exact h
        · obtain ⟨r1, r2, rfl⟩ := List.append_of_mem h
          have hdone := eff_before hc hD ho hr (A := T.map (·.j) ++ j' :: r1) (C := r2) (by rw [hrest]; simp) j' (by simp) hj'
          have := hin j' hdone
          exact absurd this (hc.st.nd (T.map (·.j)) j' (r1 ++ j :: r2) (by rw [hrest]))
      subst heq
      refine ⟨⟨r', rfl⟩, fun u hu he => ?_⟩
      exact eff_before hc hD ho hr (A := T.map (·.j)) (C := r') (by rw [hrest]) u.j (List.mem_map.2 ⟨u, hu, rfl⟩) (effs T (fun v hv => hv) u hu he)

/-- Behind what acts, nothing has been done when it comes up. -/
theorem none_behind (hc : DCtx P call ops s T tmE He rest) {D : Nat → Bool} (hD : ClosedD ops D) {T1 T2 : List Tr} {t : Tr} (hT : T = T1 ++ t :: T2) (hnd : D t.j = false) (he : isEff t.o = true) : ∀ u ∈ T2, D u.j = false := by
  intro u hu
  cases hdu : D u.j with
  | false => rfl
  | true =>
    obtain ⟨A1, A2, rfl⟩ := List.append_of_mem hu
    subst hT
    have gt := (hc.ch.good _ t (by simp)).op
    have gu := (hc.ch.good _ u (by simp)).op
    have hp : (T1 ++ t :: (A1 ++ u :: A2)).map (·.j) ++ rest = (T1 ++ t :: A1).map (·.j) ++ u.j :: (A2.map (·.j) ++ rest) := by simp
    have heft : effAt ops t.j = true := by unfold effAt; rw [gt]; exact he
    have hb : bit (befOf ops) u.j t.j = true := by
      cases hu2 : effAt ops u.j with
      | false => exact hc.st.eager _ _ _ hp hu2 t.j (by simp) heft
      | true =>
        unfold effAt at hu2; rw [gu] at hu2
        rcases Nat.lt_trichotomy t.j u.j with hlt | heq | hgt
        · exact hc.st.eff _ _ _ _ hlt gt gu he hu2
        · exact absurd (by rw [← heq]; simp) (hc.st.nd _ _ _ hp)
        · have hb := hc.st.eff _ _ _ _ hgt gu gt hu2 he
          have := hc.st.ahead (T1.map (·.j)) t.j ((A1 ++ u :: A2).map (·.j) ++ rest) (by simp) u.j (List.getElem?_eq_some_iff.1 gu).1 hb
          exact absurd (by simp only [List.map_append, List.mem_append]; exact .inl this) (hc.st.nd _ _ _ hp)
    have := closed_bit hD _ _ (Nat.le_refl _) hdu hb (List.getElem?_eq_some_iff.1 gu).1
    rw [hnd] at this; simp at this

/-- Two operations on one slot: one ahead of the other, in every order. -/
theorem slot_order (hc : DCtx P call ops s T tmE He rest) {T1 T2 : List Tr} {t u : Tr} (hT : T = T1 ++ t :: T2) (hcf : conf ops u.o t.o = true) :
    (u ∈ T1 → bit (befOf ops) t.j u.j = true) ∧ (u ∈ T2 → bit (befOf ops) u.j t.j = true) := by
  subst hT
  have gt := (hc.ch.good _ t (by simp)).op
  constructor
  · intro hu
    obtain ⟨A1, A2, rfl⟩ := List.append_of_mem hu
    have gu := (hc.ch.good _ u (by simp)).op
    have hp : ((A1 ++ u :: A2) ++ t :: T2).map (·.j) ++ rest = (A1 ++ u :: A2).map (·.j) ++ t.j :: (T2.map (·.j) ++ rest) := by simp
    rcases Nat.lt_trichotomy u.j t.j with hlt | heq | hgt
    · exact hc.st.conf _ _ _ _ hlt gu gt hcf
    · exact absurd (by rw [← heq]; simp) (hc.st.nd _ _ _ hp)
    · have hb := hc.st.conf _ _ _ _ hgt gt gu (by rw [conf_symm]; exact hcf)
      have := hc.st.ahead (A1.map (·.j)) u.j (A2.map (·.j) ++ t.j :: (T2.map (·.j) ++ rest)) (by simp) t.j (List.getElem?_eq_some_iff.1 gt).1 hb
      exact absurd (by simp only [List.map_append, List.mem_append]; exact .inl this) (hc.st.nd _ _ _ hp)
  · intro hu
    obtain ⟨A1, A2, rfl⟩ := List.append_of_mem hu
    have gu := (hc.ch.good _ u (by simp)).op
    have hp : (T1 ++ t :: (A1 ++ u :: A2)).map (·.j) ++ rest = (T1 ++ t :: A1).map (·.j) ++ u.j :: (A2.map (·.j) ++ rest) := by simp
    rcases Nat.lt_trichotomy t.j u.j with hlt | heq | hgt
    · exact hc.st.conf _ _ _ _ hlt gt gu (by rw [conf_symm]; exact hcf)
    · exact absurd (by rw [← heq]; simp) (hc.st.nd _ _ _ hp)
    · have hb := hc.st.conf _ _ _ _ hgt gu gt hcf
      have := hc.st.ahead (T1.map (·.j)) t.j ((A1 ++ u :: A2).map (·.j) ++ rest) (by simp) u.j (List.getElem?_eq_some_iff.1 gu).1 hb
      exact absurd (by simp only [List.map_append, List.mem_append]; exact .inl this) (hc.st.nd _ _ _ hp)

theorem conf_of_dst {u t : Tr} {x : Nat} (hd : u.o.dst = some x) (hx : x ∈ names ops t.o) : conf ops u.o t.o = true := by
  unfold conf
  rw [hd]
  simp [hx]

/-- The slots that an operation names hold what the plan's run has in them. -/
theorem slot_at (hc : DCtx P call ops s T tmE He rest) {D : Nat → Bool} (hD : ClosedD ops D) {T1 T2 : List Tr} {t : Tr} (hT : T = T1 ++ t :: T2) (hnd : D t.j = false)
    (hr : ∀ e ∈ t.o.after.toList, Region.binds .any e = true → D e.on = true) {x : Nat} (hx : x ∈ names ops t.o) : (tmD D T s.tmps)[x]? = t.tm[x]? := by
  have gt := (hc.ch.good T t (by rw [hT]; simp)).op
  have h1 : ∀ u ∈ T1, u.o.dst = some x → D u.j = true := fun u hu hd => ready_bit hD gt hr ((slot_order hc hT (conf_of_dst hd hx)).1 hu)
  have h2 : ∀ u ∈ t :: T2, u.o.dst = some x → D u.j = false := by
    intro u hu hd
    rcases List.mem_cons.1 hu with rfl | hu
    · exact hnd
    · have hb := (slot_order hc hT (conf_of_dst hd hx)).2 hu
      cases hdu : D u.j with
      | false => rfl
      | true =>
        have gu := (hc.ch.good T u (by rw [hT]; simp [hu])).op
        have := closed_bit hD _ _ (Nat.le_refl _) hdu hb (List.getElem?_eq_some_iff.1 gu).1
        rw [hnd] at this; simp at this
  have ht : t.tm = tmD (fun _ => true) T1 s.tmps := by
    have hch := hc.ch
    rw [hT] at hch
    obtain ⟨tm1, H1, h3, h4⟩ := Chain.split T1 hch
    rw [← Chain.tm T1 h3]
    exact h4.1
  rw [ht, hT, tmD_append]
  rw [tmD_slot (t :: T2) (D1 := D) (D2 := fun _ => false) _ (tmD D T1 s.tmps) rfl rfl h2, tmD_false]
  exact tmD_slot T1 _ _ rfl rfl h1

theorem aev_at (hc : DCtx P call ops s T tmE He rest) {D : Nat → Bool} (hD : ClosedD ops D) {T1 T2 : List Tr} {t : Tr} (hT : T = T1 ++ t :: T2) (hnd : D t.j = false)
    (hr : ∀ e ∈ t.o.after.toList, Region.binds .any e = true → D e.on = true) : ∀ x ∈ t.o.op.operands, aev (tmD D T s.tmps) x = aev t.tm x := by
  intro x hx
  cases x with
  | tmp i =>
    simp only [aev, List.getD_eq_getElem?_getD]
    rw [slot_at hc hD hT hnd hr]
    unfold names
    simp only [List.mem_append, List.mem_filterMap]
    exact .inl (.inr ⟨.tmp i, by simpa using hx, rfl⟩)
  | _ => rfl

theorem wanted_at (hc : DCtx P call ops s T tmE He rest) {D : Nat → Bool} (hD : ClosedD ops D) {T1 T2 : List Tr} {t : Tr} (hT : T = T1 ++ t :: T2) (hnd : D t.j = false)
    (hr : ∀ e ∈ t.o.after.toList, Region.binds .any e = true → D e.on = true) : wantedA ops (tmD D T s.tmps) t.o = wantedA ops t.tm t.o := by
  unfold wantedA
  cases hg : t.o.guard with
  | none => rfl
  | some p =>
    obtain ⟨g, want⟩ := p
    dsimp only
    have : yieldA ops (tmD D T s.tmps) g = yieldA ops t.tm g := by
      unfold yieldA
      cases hog : ops[g]? with
      | none => rfl
      | some og =>
        dsimp only
        cases hdg : og.dst with
        | none => rfl
        | some d =>
          dsimp only
          rw [slot_at hc hD hT hnd hr]
          unfold names
          rw [hg]
          simp [hog, hdg]
    rw [this]

def addD (D : Nat → Bool) (j : Nat) : Nat → Bool := fun i => i == j || D i

/-- The slots behind an operation. -/
theorem tm_after (hc : DCtx P call ops s T tmE He rest) {D : Nat → Bool} (hD : ClosedD ops D) {T1 T2 : List Tr} {t : Tr} (hT : T = T1 ++ t :: T2) (hnd : D t.j = false) :
    tmD (addD D t.j) T s.tmps = putT t.o.dst t.v (tmD D T s.tmps) := by
  have hne : ∀ u, (u ∈ T1 ∨ u ∈ T2) → u.j ≠ t.j := by
    subst hT
    intro u hu e
    rcases hu with hu | hu
    · exact hc.st.nd (T1.map (·.j)) t.j (T2.map (·.j) ++ rest) (by simp) (by rw [← e]; exact List.mem_map.2 ⟨u, hu, rfl⟩)
    · obtain ⟨A1, A2, rfl⟩ := List.append_of_mem hu
      exact hc.st.nd ((T1 ++ t :: A1).map (·.j)) u.j (A2.map (·.j) ++ rest) (by simp) (by rw [e]; simp)
  have h2 : ∀ u ∈ T2, addD D t.j u.j = true → ∀ d, t.o.dst = some d → u.o.dst ≠ some d := by
    intro u hu hdu d hd hud
    have hdu' : D u.j = true := by
      unfold addD at hdu
      simp only [Bool.or_eq_true, beq_iff_eq] at hdu
      exact hdu.resolve_left (hne u (.inr hu))
    have hcf : conf ops u.o t.o = true := conf_of_dst hud (by unfold names; rw [hd]; simp)
    have hb := (slot_order hc hT hcf).2 hu
    have gu := (hc.ch.good T u (by rw [hT]; simp [hu])).op
    have := closed_bit hD _ _ (Nat.le_refl _) hdu' hb (List.getElem?_eq_some_iff.1 gu).1
    rw [hnd] at this; simp at this
  have e1 : ∀ L : List Tr, (∀ u ∈ L, u ∈ T1 ∨ u ∈ T2) → ∀ tm, tmD (addD D t.j) L tm = tmD D L tm := by
    intro L hL tm
    refine tmD_congr L tm fun u hu => ?_
    unfold addD
    have := hne u (hL u hu)
    simp [this]
  rw [hT, tmD_append, tmD_append, e1 T1 (fun u hu => .inl hu)]
  simp only [tmD]
  rw [show addD D t.j t.j = true by simp [addD], hnd]
  simp only [if_true, Bool.false_eq_true, if_false]
  rw [tmD_put T2 _ h2, e1 T2 (fun u hu => .inr hu)]

/-- On to what acts next, or to the end: what is made on the way has no block yet. -/
theorem advance (hcall : CallOK P call) {D : Nat → Bool} {w : World} : ∀ (ts : List Tr) {tm : List Value} {H : AHeap} {γ : Emb}, Chain P call ops ts tm H tmE He → (∀ t ∈ ts, D t.j = false) → HRel P N0 γ H w →
    ∃ γ', Emb.le γ γ' ∧ HRel P N0 γ' (heapAt D ts He) w ∧ ∀ i, γ'.live i = γ.live i
  | [], tm, H, γ, hch, _, h => by
    obtain ⟨_, rfl⟩ := hch
    exact ⟨γ, Emb.le.refl _, h, fun _ => rfl⟩
  | t :: ts, tm, H, γ, hch, hD, h => by
    obtain ⟨h1, h2, h3, h4⟩ := hch
    subst h2
    cases he : isEff t.o with
    | true =>
      refine ⟨γ, Emb.le.refl _, ?_, fun _ => rfl⟩
      simp only [heapAt, he, hD t (by simp), Bool.not_false, Bool.and_self, if_true]
      exact h
    | false =>
      have hh : heapAt D (t :: ts) He = heapAt D ts He := by simp [heapAt, he]
      rw [hh]
      have hDt : ∀ u ∈ ts, D u.j = false := fun u hu => hD u (by simp [hu])
      cases hw : t.w with
      | false =>
        rw [(h3.no hw).2.2] at h4
        exact advance hcall ts h4 hDt h
      | true =>
        rcases h3.quiet hw he with ⟨_, e, _⟩ | ⟨_, e, _⟩ | ⟨hk, e⟩
        · rw [e] at h4; exact advance hcall ts h4 hDt h
        · rw [e] at h4; exact advance hcall ts h4 hDt h
        · obtain ⟨obj, r, hov, hst, hpush⟩ := alloc_push hk e
          rw [hpush] at h4
          obtain ⟨le1, hr1, hnl⟩ := h.pushRes hov hst
          obtain ⟨γ', le2, hr2, hl2⟩ := advance hcall ts h4 hDt hr1
          exact ⟨γ', le1.trans le2, hr2, fun i => hl2 i⟩
end

end B
end Go.Proofs.Ytnjoaffnfjlcaaa
