/-
  Regions that draw: from the region to the plan.
-/
import Derived.Test.YtnjoaffnfjlcaaaB18a
import Derived.OrdersIn
namespace Go.Proofs.Ytnjoaffnfjlcaaa
namespace B
open Go

section
variable {P : Program} {N0 : Fz} {call : CallT} {ops : Array Oper} {s : St} {T : List Tr} {tmE : List Value} {He : AHeap} {rest : List Nat}

def DL (listed : Array Bool) : Nat → Bool := fun i => listed.getD i false

theorem DL_set {listed : Array Bool} {i : Nat} (hi : i < listed.size) : DL (listed.setIfInBounds i true) = addD (DL listed) i := by
  funext k
  unfold DL addD
  simp only [Array.getD_eq_getD_getElem?, Array.getElem?_setIfInBounds]
  by_cases h : i = k
  · subst h; simp [hi]
  · rw [if_neg h]
    have : (k == i) = false := by simpa using fun e => h e.symm
    rw [this]; simp

/-- Nothing can come up only when all has been done. -/
theorem all_done (hc : DCtx P call ops.toList s T tmE He rest) (hed : edgesOK ops.toList = true) {listed : Array Bool} (hsz : listed.size = ops.size) (hin : ∀ j, DL listed j = true → j ∈ T.map (·.j)) (hr : Region.ready .any ops listed = []) :
    rest = [] ∧ ∀ t ∈ T, DL listed t.j = true := by
  have key : ∀ (k : Nat) (P1 P2 : List Nat), P1.length = k → T.map (·.j) ++ rest = P1 ++ P2 → ∀ j ∈ P1, DL listed j = true := by
    intro k
    induction k with
    | zero => intro P1 P2 hk _ j hj; rw [List.length_eq_zero_iff.1 hk] at hj; simp at hj
    | succ k ih =>
      intro P1' P2 hk h j hj
      obtain ⟨P1, x, rfl⟩ : ∃ P1 x, P1' = P1 ++ [x] := by
        rcases List.eq_nil_or_concat P1' with e | ⟨L, b, e⟩
        · rw [e] at hk; simp at hk
        · exact ⟨L, b, by rw [e]; simp⟩
      have h' : T.map (·.j) ++ rest = P1 ++ x :: P2 := by rw [h]; simp
      have ih' := ih P1 (x :: P2) (by simpa using hk) h'
      rcases List.mem_append.1 hj with hj | hj
      · exact ih' j hj
      · obtain rfl : j = x := by simpa using hj
        have hlt := hc.st.lt j (by rw [h']; simp)
        have hlt' : j < ops.size := by simpa using hlt
        cases hd : DL listed j with
        | true => rfl
        | false =>
          exfalso
          have : j ∈ Region.ready .any ops listed := by
            rw [mem_ready]
            refine ⟨?_, ops[j], Array.getElem?_eq_getElem hlt', ?_⟩
            · unfold DL at hd
              rw [Array.getD_eq_getD_getElem?, Array.getElem?_eq_getElem (by omega)] at hd ⊢
              simpa using hd
            · intro e he hb
              have ho : ops.toList[j]? = some ops[j] := by rw [Array.getElem?_toList]; exact Array.getElem?_eq_getElem hlt'
              have hel : e.on < ops.toList.length := by
                unfold edgesOK at hed
                have h1 := List.all_eq_true.1 hed ops[j] (List.mem_of_getElem? ho)
                have h2 := List.all_eq_true.1 h1 e (by simpa using he)
                rw [hb] at h2
                simpa using h2
              exact ih' _ (hc.st.ahead P1 j P2 h' e.on hel (bef_direct ho (by simpa using he) hb))
          rw [hr] at this; simp at this
  have h := key _ (T.map (·.j) ++ rest) [] rfl (by simp)
  refine ⟨?_, fun t ht => h t.j (List.mem_append_left _ (List.mem_map.2 ⟨t, ht, rfl⟩))⟩
  cases hre : rest with
  | nil => rfl
  | cons j r =>
    have h1 := hin j (h j (by rw [hre]; simp))
    exact absurd h1 (hc.st.nd (T.map (·.j)) j r (by rw [hre]))

theorem count_set {listed : Array Bool} {i : Nat} (hi : i < listed.size) (h : listed.getD i true = false) : (listed.setIfInBounds i true).toList.count false + 1 = listed.toList.count false := by
  have hi' : i < listed.toList.length := by simpa using hi
  have hv : listed.toList[i] = false := by
    rw [Array.getD_eq_getD_getElem?, Array.getElem?_eq_getElem hi] at h
    simpa using h
  rw [Array.toList_setIfInBounds, List.count_set hi']
  have hpos : 0 < listed.toList.count false := List.count_pos_iff.2 (by rw [← hv]; exact List.getElem_mem hi')
  rw [hv]
  simp only [BEq.rfl, if_true, show ((true == false) = false) from rfl, Bool.false_eq_true, if_false]
  omega

theorem draw_any (hc : DCtx P call ops.toList s T tmE He rest) (hed : edgesOK ops.toList = true) {β0 : Emb} {w0 : World} (hnx : β0.nx = s.H.next)
    {x : AExit} {s' : St} (hend : (rest = [] ∧ x = .normal ∧ s' = ⟨tmE, s.dfs, He⟩) ∨ ∃ j rest' v H', rest = j :: rest' ∧ x = .panic v ∧ s' = ⟨[], s.dfs, H'⟩ ∧ PanicsAt P call ops.toList j tmE He v H')
    {ro : Option Nat} {n : Nat} {Q : Exit → Act → World → Prop} (hQ : ∀ e a' w', OutRel P N0 β0 w0 x s' e a' w' → Q e a' w') :
    ∀ (fuel : Nat) (listed : Array Bool) (γ : Emb) (a : Act) (w : World), listed.size = ops.size → listed.toList.count false ≤ fuel → Inv P N0 ops.toList s T He β0 w0 (DL listed) γ a w → wpAnyIn (WF ro) n P .any ops Q fuel listed a w := by
  have fin : ∀ (listed : Array Bool) (γ : Emb) (a : Act) (w : World), listed.size = ops.size → Inv P N0 ops.toList s T He β0 w0 (DL listed) γ a w → Region.ready .any ops listed = [] → Q .normal a w := by
    intro listed γ a w hsz hI hr
    obtain ⟨hre, hall⟩ := all_done hc hed hsz hI.inT hr
    rcases hend with ⟨_, rfl, rfl⟩ | ⟨j, r, v, H', e, _⟩
    · have h1 : tmD (DL listed) T s.tmps = tmE := by
        rw [Chain.tm T hc.ch]
        exact tmD_congr T _ fun t ht => hall t ht
      have h2 : heapAt (DL listed) T He = He := by
        have := heapAt_skip (D := DL listed) (He := He) T [] (fun t ht _ => hall t ht)
        simpa [heapAt] using this
      have h3 := hI.tm
      have h4 := hI.heap
      rw [h1] at h3
      rw [h2] at h4
      exact hQ _ _ _ ⟨γ, hI.le, ⟨.inl h3, hI.dfs, h4⟩, hI.fr, trivial⟩
    · rw [hre] at e; simp at e
  intro fuel
  induction fuel with
  | zero =>
    intro listed γ a w hsz hcnt hI
    have hr : Region.ready .any ops listed = [] := by
      cases hr : Region.ready .any ops listed with
      | nil => rfl
      | cons j l =>
        have hm : j ∈ Region.ready .any ops listed := by rw [hr]; simp
        obtain ⟨h0, o, ho, _⟩ := mem_ready.1 hm
        have hlt : j < listed.size := by rw [hsz]; exact (Array.getElem?_eq_some_iff.1 ho).1
        have := count_set hlt h0
        omega
    exact ⟨hr, fin listed γ a w hsz hI hr⟩
  | succ fuel ih =>
    intro listed γ a w hsz hcnt hI
    refine ⟨fin listed γ a w hsz hI, fun i hi => ?_⟩
    obtain ⟨h0, o, ho, hall⟩ := mem_ready.1 hi
    have hlt : i < listed.size := by rw [hsz]; exact (Array.getElem?_eq_some_iff.1 ho).1
    have hnd : DL listed i = false := by
      unfold DL
      rw [Array.getD_eq_getD_getElem?, Array.getElem?_eq_getElem hlt] at h0 ⊢
      simpa using h0
    refine draw_step hc hnx hI hend hQ ho hnd (fun e he hb => hall e (by simpa using he) hb) ?_
    intro a' w' γ' hI'
    rw [← DL_set hlt] at hI'
    refine ih _ γ' a' w' (by simpa using hsz) ?_ hI'
    have := count_set hlt h0
    omega

theorem drawRun_sound (hcall : CallOK P call) (hm : P.follows .mixedOrders = true) {ro : Option Nat} {n id : Nat} {x : AExit} {s' : St} {β : Emb} {a : Act} {w : World}
    (he : drawRun P call ops.toList s = some (x, s')) (hs : SRel P N0 β s a w) (Q : Exit → Act → World → Prop) (hQ : ∀ e a' w', OutRel P N0 β w x s' e a' w' → Q e a' w') : (Code.region id ops true).wpIn (WF ro) n P Q a w := by
  refine wpIn_region_any hm ?_
  unfold drawRun at he
  split at he
  case h_2 => simp at he
  rename_i T He x1 s1 hrun
  split at he
  case isFalse => simp at he
  rename_i hcond
  obtain ⟨hed, hst, hrd⟩ := hcond
  simp only [Option.some.injEq, Prod.mk.injEq] at he
  obtain ⟨rfl, rfl⟩ := he
  obtain ⟨tmE, rest, hp, hch, hend⟩ := runPlan_spec _ _ _ _ _ _ _ hrun
  have hrd' : readsOK P (befOf ops.toList) T He := by
    rcases hrd with h | h
    · rw [hp] at h; exact reads_quiet hcall T hch hs.heap.fresh h
    · exact h
  have hc : DCtx P call ops.toList s T tmE He rest := ⟨hcall, by rw [← hp]; exact StaticOK.of hst, hch, hrd'⟩
  have hh0 : HRel P N0 β s.H { w with drawn := w.drawn + 1 } := hs.heap.of_heap rfl
  have hDL : DL (Array.replicate ops.size false) = fun _ => false := by
    funext k
    unfold DL
    rw [Array.getD_eq_getD_getElem?, Array.getElem?_replicate]
    split <;> rfl
  obtain ⟨γ, le, hr, hl⟩ := advance hcall (D := fun _ => false) T hch (fun _ _ => rfl) hh0
  refine draw_any hc hed hs.heap.nx hend hQ ops.size _ γ a _ (by simp) (by simp) ?_
  rw [hDL]
  refine ⟨fun j o h => by simp at h, fun j h => by simp at h, ?_, DRels.mono le (Fr.of_heap (by rfl) (by rfl) (by rfl)) hs.dfs, hr, le, Fr.of_heap rfl rfl rfl, ?_⟩
  · rw [tmD_false]; exact hs.tmps.mono le
  · intro t ht _ _ _
    rw [hl]
    have h1 := ((Chain.next hcall T hch).2 t ht).next
    cases hb : β.live t.H.next with
    | false => rfl
    | true => have := hs.heap.live _ hb; omega

end
end B
end Go.Proofs.Ytnjoaffnfjlcaaa
