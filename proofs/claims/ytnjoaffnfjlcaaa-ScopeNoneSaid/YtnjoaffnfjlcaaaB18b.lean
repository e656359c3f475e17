/-
  The record of a range over a function, in the abstract heap and in the world; blocks for deferred calls.
-/
import Derived.Test.YtnjoaffnfjlcaaaB18
namespace Go.Proofs.Ytnjoaffnfjlcaaa
namespace B
open Go

section
variable {P : Program} {N0 : Fz} {β : Emb} {H : AHeap} {w : World}

theorem HRel.weaken {N1 : Fz} (h : HRel P N1 β H w) (hl : ∀ b, N0.low b → N1.low b) : HRel P N0 β H w := by
  constructor
  · intro i k b o r h1 h2
    obtain ⟨c, fz, hok⟩ := h.row _ _ _ _ _ h1 h2
    exact ⟨c, fz, { blk := hok.blk, size := hok.size, elem := hok.elem, robes := hok.robes, cell := hok.cell, own := fun e => ⟨(hok.own e).1, fun hb => (hok.own e).2.1 (hl _ hb), (hok.own e).2.2⟩, gen := hok.gen }⟩
  · intro i b es h1 h2
    obtain ⟨a, c⟩ := h.map _ _ _ h1 h2
    exact ⟨fun hb => a (hl _ hb), c⟩
  · exact h.dom
  · exact h.domM
  · exact h.fresh
  · exact h.stle
  · exact h.inj
  · exact h.injM
  · intro b hb; exact h.base b (hl _ hb)
  · exact h.nx
  · exact h.liveR
  · exact h.liveM
  · exact h.live
  · intro i b h1
    obtain ⟨q, q', h2, h3, h4, h5⟩ := h.lp _ _ h1
    exact ⟨q, q', h2, fun hb => h3 (hl _ hb), h4, h5⟩
  · exact h.injL

theorem HRel.freeze (h : HRel P N0 β H w) {r : Nat} {d : Option (List Deferred)} (hr : w.heap[r]? = some (.deferred d)) (n : Nat) : HRel P ⟨fun b => N0.low b ∨ b = r, n⟩ β H w := by
  constructor
  · intro i k b o rr h1 h2
    obtain ⟨c, fz, hok⟩ := h.row _ _ _ _ _ h1 h2
    refine ⟨c, fz, { blk := hok.blk, size := hok.size, elem := hok.elem, robes := hok.robes, cell := hok.cell, own := fun e => ⟨(hok.own e).1, ?_, (hok.own e).2.2⟩, gen := hok.gen }⟩
    rintro (hb | rfl)
    · exact (hok.own e).2.1 hb
    · have := hok.blk; rw [hr] at this; simp at this
  · intro i b es h1 h2
    obtain ⟨a, ces, cl, c, d⟩ := h.map _ _ _ h1 h2
    refine ⟨?_, ces, cl, c, d⟩
    rintro (hb | rfl)
    · exact a hb
    · rw [hr] at c; simp at c
  · exact h.dom
  · exact h.domM
  · exact h.fresh
  · exact h.stle
  · exact h.inj
  · exact h.injM
  · rintro b (hb | rfl)
    · exact h.base b hb
    · exact (Array.getElem?_eq_some_iff.1 hr).1
  · exact h.nx
  · exact h.liveR
  · exact h.liveM
  · exact h.live
  · intro i b h1
    obtain ⟨q, q', h2, h3, h4, h5⟩ := h.lp _ _ h1
    refine ⟨q, q', h2, ?_, h4, h5⟩
    rintro (hb | rfl)
    · exact h3 hb
    · rw [hr] at h4; simp at h4
  · exact h.injL

/-- The world grows, or a block for deferred calls turns. -/
theorem HRel.keep (h : HRel P N0 β H w) {w' : World} (hs : w.heap.size ≤ w'.heap.size) (hk : ∀ (b : Nat) (o : Obj), w.heap[b]? = some o → (∀ d, o ≠ .deferred d) → w'.heap[b]? = some o) : HRel P N0 β H w' := by
  constructor
  · intro i k b o r h1 h2
    obtain ⟨c, fz, hok⟩ := h.row _ _ _ _ _ h1 h2
    exact ⟨c, fz, { blk := hk _ _ hok.blk (fun d => by simp), size := hok.size, elem := hok.elem, robes := hok.robes, cell := hok.cell, own := hok.own, gen := hok.gen }⟩
  · intro i b es h1 h2
    obtain ⟨a, ces, cl, c, d⟩ := h.map _ _ _ h1 h2
    exact ⟨a, ces, cl, hk _ _ c (fun d => by simp), d⟩
  · exact h.dom
  · exact h.domM
  · exact h.fresh
  · exact h.stle
  · exact h.inj
  · exact h.injM
  · intro b hb; have := h.base b hb; omega
  · exact h.nx
  · exact h.liveR
  · exact h.liveM
  · exact h.live
  · intro i b h1
    obtain ⟨q, q', h2, h3, h4, h5⟩ := h.lp _ _ h1
    exact ⟨q, q', h2, h3, hk _ _ h4 (fun d => by simp), h5⟩
  · exact h.injL

theorem HRel.allocOther (h : HRel P N0 β H w) (o : Obj) : HRel P N0 β H (w.alloc o) :=
  h.keep (by rw [World.size_alloc]; omega) fun b o' hb _ => by
    have hlt := (Array.getElem?_eq_some_iff.1 hb).1
    show (w.heap.push o)[b]? = some o'
    rw [Array.getElem?_push, if_neg (by omega)]; exact hb

theorem HRel.putDeferred (h : HRel P N0 β H w) {r : Nat} {d : Option (List Deferred)} (hr : w.heap[r]? = some (.deferred d)) (d' : Option (List Deferred)) : HRel P N0 β H (w.putObj r (.deferred d')) :=
  h.keep (by simp) fun b o' hb hne => by
    have : b ≠ r := by rintro rfl; rw [hr] at hb; exact hne d (by simpa using hb.symm)
    rw [World.putObj_heap_other this]; exact hb

def Emb.addLoop (β : Emb) (i b : Nat) : Emb := { β with loop := fun i' => if i' = i then some b else β.loop i', nx := i + 1 }

theorem HRel.pushLoop (h : HRel P N0 β H w) {r : ALoop} {r' : Loop} (hr : LRel β r r') :
    let γ := β.addLoop H.next w.heap.size
    Emb.le β γ ∧ HRel P N0 γ (H.push (.loop r)) (w.alloc (.loop r')) ∧ γ.loop H.next = some w.heap.size := by
  intro γ
  have hnone : β.loop H.next = none := by
    cases e : β.loop H.next with
    | none => rfl
    | some b => exact absurd rfl (h.loop_ne e (.inl (h.fresh _ (Nat.le_refl _))))
  have le : Emb.le β γ := by
    refine ⟨fun _ _ _ e => e, fun _ _ e => e, ?_, fun _ _ _ _ _ => rfl, fun _ _ _ _ _ => rfl, fun _ e => e, fun _ e => .inl e, ?_⟩
    · intro i b e
      simp only [γ, Emb.addLoop]
      rw [if_neg]; exact e
      rintro rfl; rw [hnone] at e; simp at e
    · show β.nx ≤ H.next + 1
      rw [h.nx]; omega
  have hnl : β.live H.next = false := by
    cases e : β.live H.next with
    | false => rfl
    | true => have := h.live _ e; omega
  have hlow : ∀ b, b ≠ w.heap.size → (w.alloc (.loop r')).heap[b]? = w.heap[b]? := by
    intro b hb
    show (w.heap.push _)[b]? = _
    rw [Array.getElem?_push, if_neg hb]
  have hview : ∀ j, j ≠ H.next → (H.push (.loop r)).view j = H.view j := fun j hj => by unfold AHeap.view; rw [AHeap.push_get_old _ _ hj]
  have hvn : (H.push (.loop r)).view H.next = none := view_loop (AHeap.push_get_new _ _)
  have hne : ∀ i k p, β.row i k = some p → i ≠ H.next := by
    rintro i k p e rfl
    have := h.liveR _ _ _ e; rw [hnl] at this; simp at this
  have hneM : ∀ i b, β.map i = some b → i ≠ H.next := by
    rintro i b e rfl
    have := h.liveM _ _ e; rw [hnl] at this; simp at this
  refine ⟨le, ?_, by simp [γ, Emb.addLoop]⟩
  constructor
  · intro i k b o rr h1 h2
    have h1' : β.row i k = some (b, o) := h1
    rw [hview _ (hne _ _ _ h1')] at h2
    obtain ⟨c, fz, hok⟩ := h.row _ _ _ _ _ h1' h2
    exact ⟨c, fz, hok.mono le.u (hlow _ (by have := h.rowblk_lt h1'; omega)) rfl rfl⟩
  · intro i b es h1 h2
    have h1' : β.map i = some b := h1
    rw [AHeap.push_get_old _ _ (hneM _ _ h1')] at h2
    obtain ⟨a, ces, cl, c, d⟩ := h.map _ _ _ h1' h2
    exact ⟨a, ces, cl, by rw [hlow _ (by have := h.mapblk_lt h1'; omega)]; exact c, d.mono le⟩
  · intro i k p h1
    have h1' : β.row i k = some p := h1
    rw [hview _ (hne _ _ _ h1')]; exact h.dom _ _ _ h1'
  · intro i b h1
    have h1' : β.map i = some b := h1
    rw [AHeap.push_get_old _ _ (hneM _ _ h1')]; exact h.domM _ _ h1'
  · intro j hj
    have hj' : H.next + 1 ≤ j := hj
    rw [AHeap.push_get_old _ _ (by omega)]; exact h.fresh _ (by omega)
  · intro i rr h1 j
    have hi : i ≠ H.next := by rintro rfl; rw [hvn] at h1; simp at h1
    rw [hview _ hi] at h1; exact h.stle _ _ h1 j
  · intro i k b o1 i' k' o1' r1 r2 h1 h2 h3 h4
    have hi : i ≠ H.next := by rintro rfl; rw [hvn] at h3; simp at h3
    have hi' : i' ≠ H.next := by rintro rfl; rw [hvn] at h4; simp at h4
    rw [hview _ hi] at h3; rw [hview _ hi'] at h4
    exact h.inj _ _ _ _ _ _ _ _ _ h1 h2 h3 h4
  · exact h.injM
  · intro b hb; have := h.base b hb; rw [World.size_alloc]; omega
  · rfl
  · exact h.liveR
  · exact h.liveM
  · intro i hi; have := h.live i hi; show i < H.next + 1; omega
  · intro i b h1
    by_cases hi : i = H.next
    · subst hi
      simp only [γ, Emb.addLoop, if_true] at h1
      obtain rfl : w.heap.size = b := by simpa using h1
      exact ⟨r, r', AHeap.push_get_new _ _, fun hb => Nat.lt_irrefl _ (h.base _ hb), World.alloc_heap_new _ _, hr.monoU le.u⟩
    · simp only [γ, Emb.addLoop, if_neg hi] at h1
      obtain ⟨q, q', h2, h3, h4, h5⟩ := h.lp _ _ h1
      exact ⟨q, q', by rw [AHeap.push_get_old _ _ hi]; exact h2, h3, by rw [hlow _ (by have := h.loopblk_lt h1; omega)]; exact h4, h5.monoU le.u⟩
  · intro i i' b h1 h2
    simp only [γ, Emb.addLoop] at h1 h2
    split at h1
    · rename_i e
      split at h2
      · rename_i e'; exact e.trans e'.symm
      · have := h.loopblk_lt h2; simp at h1; omega
    · split at h2
      · have := h.loopblk_lt h1; simp at h2; omega
      · exact h.injL _ _ _ h1 h2

theorem HRel.setLoop (h : HRel P N0 β H w) {K l : Nat} {r : ALoop} {r' : Loop} (hl : β.loop K = some l) (hr : LRel β r r') :
    HRel P N0 β (H.set K (.loop r)) (w.putObj l (.loop r')) ∧ Fr N0 w (w.putObj l (.loop r')) := by
  obtain ⟨q, q', hg, hN, hw, _⟩ := h.lp _ _ hl
  have hvK : H.view K = none := view_loop hg
  have hold : ∀ b, b ≠ l → (w.putObj l (.loop r')).heap[b]? = w.heap[b]? := fun b hb => World.putObj_heap_other hb
  have hnew : (w.putObj l (.loop r')).heap[l]? = some (.loop r') := World.putObj_heap_same (Array.getElem?_eq_some_iff.1 hw).1
  have hget : ∀ i, i ≠ K → (H.set K (.loop r)).get i = H.get i := fun i hi => by simp [AHeap.set, hi]
  have hview : ∀ i, i ≠ K → (H.set K (.loop r)).view i = H.view i := fun i hi => by unfold AHeap.view; rw [hget i hi]
  have hgK : (H.set K (.loop r)).get K = some (.loop r) := by simp [AHeap.set]
  have hvn : (H.set K (.loop r)).view K = none := view_loop hgK
  have hneR : ∀ i k p, β.row i k = some p → i ≠ K := by
    rintro i k p e rfl
    obtain ⟨r0, hr0⟩ := h.dom _ _ _ e
    rw [hvK] at hr0; simp at hr0
  have hneM : ∀ i b, β.map i = some b → i ≠ K := by
    rintro i b e rfl
    obtain ⟨r0, hr0⟩ := h.domM _ _ e
    rw [hg] at hr0; simp at hr0
  refine ⟨?_, ⟨by simp, fun b hb => hold _ (fun e => hN (e ▸ hb)), rfl, rfl⟩⟩
  constructor
  · intro i k b o rr h1 h2
    rw [hview _ (hneR _ _ _ h1)] at h2
    obtain ⟨c, fz, hok⟩ := h.row _ _ _ _ _ h1 h2
    refine ⟨c, fz, hok.mono (Emb.leU.refl _) (hold _ ?_) rfl rfl⟩
    rintro rfl; have := hok.blk; rw [hw] at this; simp at this
  · intro i b es h1 h2
    rw [hget _ (hneM _ _ h1)] at h2
    obtain ⟨a, ces, cl, c, d⟩ := h.map _ _ _ h1 h2
    refine ⟨a, ces, cl, ?_, d⟩
    rw [hold _ (by rintro rfl; rw [hw] at c; simp at c)]; exact c
  · intro i k p h1
    rw [hview _ (hneR _ _ _ h1)]; exact h.dom _ _ _ h1
  · intro i b h1
    rw [hget _ (hneM _ _ h1)]; exact h.domM _ _ h1
  · intro i hi
    have hi' : H.next ≤ i := hi
    have hlt := h.lt_of_get hg
    rw [hget _ (by omega)]; exact h.fresh _ hi'
  · intro i rr h1 j
    have hi : i ≠ K := by rintro rfl; rw [hvn] at h1; simp at h1
    rw [hview _ hi] at h1; exact h.stle _ _ h1 j
  · intro i k b1 o1 i' k' o1' r1 r2 h1 h2 h3 h4
    rw [hview _ (hneR _ _ _ h1)] at h3; rw [hview _ (hneR _ _ _ h2)] at h4
    exact h.inj _ _ _ _ _ _ _ _ _ h1 h2 h3 h4
  · exact h.injM
  · intro b hb; simpa using h.base b hb
  · exact h.nx
  · exact h.liveR
  · exact h.liveM
  · exact h.live
  · intro i b h1
    by_cases hi : i = K
    · subst hi
      rw [hl] at h1
      obtain rfl : l = b := by simpa using h1
      exact ⟨r, r', hgK, hN, hnew, hr⟩
    · obtain ⟨q2, q2', h2, h3, h4, h5⟩ := h.lp _ _ h1
      have hb : b ≠ l := by rintro rfl; exact hi (h.injL _ _ _ h1 hl)
      exact ⟨q2, q2', by rw [hget _ hi]; exact h2, h3, by rw [hold _ hb]; exact h4, h5⟩
  · exact h.injL

end
end B
end Go.Proofs.Ytnjoaffnfjlcaaa
