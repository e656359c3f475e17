/-
  New blocks; append.
-/
import Derived.Test.YtnjoaffnfjlcaaaB2
namespace Go.Proofs.Ytnjoaffnfjlcaaa
namespace B
open Go

theorem HRel.of_heap {P : Program} {N0 : Fz} {β : Emb} {H : AHeap} {w w' : World} (h : HRel P N0 β H w) (e : w'.heap = w.heap) : HRel P N0 β H w' := by
  constructor
  · intro i k b o r h1 h2
    obtain ⟨c, fz, hok⟩ := h.row _ _ _ _ _ h1 h2
    exact ⟨c, fz, { blk := by rw [e]; exact hok.blk, size := hok.size, elem := hok.elem, robes := hok.robes, cell := hok.cell, own := hok.own, gen := hok.gen }⟩
  · intro i b es h1 h2; rw [e]; exact h.map _ _ _ h1 h2
  · exact h.dom
  · exact h.domM
  · exact h.fresh
  · exact h.stle
  · exact h.inj
  · exact h.injM
  · rw [e]; exact h.base
  · exact h.nx
  · exact h.liveR
  · exact h.liveM
  · exact h.live
  · rw [e]; exact h.lp
  · exact h.injL

theorem Fr.of_heap {N0 : Fz} {w w' : World} (e : w'.heap = w.heap) (ho : w'.os = w.os) (hu : w'.output = w.output) : Fr N0 w w' := ⟨by rw [e]; exact Nat.le_refl _, fun _ _ => by rw [e], ho, hu⟩

theorem RowOk.mono {P : Program} {N0 : Fz} {β γ : Emb} {w w' : World} {r : RowV} {k b o : Nat} {c : Array Value} {fz : Nat × Nat} (h : RowOk P N0 β w r k b o c fz) (le : Emb.leU β γ)
    (hb : w'.heap[b]? = w.heap[b]?) (h1 : γ.bsz b = β.bsz b) (h2 : γ.bes b = β.bes b) : RowOk P N0 γ w' r k b o c fz :=
  { blk := by rw [hb]; exact h.blk, size := by rw [h1]; exact h.size, elem := by rw [h2]; exact h.elem, robes := by rw [h2]; exact h.robes,
    cell := fun j v hj hs => by obtain ⟨v', a, b⟩ := h.cell j v hj hs; exact ⟨v', a, VRel.monoU le b⟩, own := h.own, gen := h.gen }

/-- One thing of the heap, and one block of the world, turn or come new. -/
theorem HRel.change {P : Program} {N0 : Fz} {β γ : Emb} {H H' : AHeap} {w w' : World} (h : HRel P N0 β H w) (le : Emb.leU β γ) (id bn : Nat) (r' : RowV)
    (hoth : ∀ j, j ≠ id → H'.get j = H.get j) (hv' : H'.view id = some r') (hro' : r'.ro = false) (hfresh : ∀ i, H'.next ≤ i → H'.get i = none) (hst : ∀ j, r'.st j ≤ r'.g)
    (hb : ∀ b, b ≠ bn → w'.heap[b]? = w.heap[b]?) (hrow : ∀ i, i ≠ id → ∀ k, γ.row i k = β.row i k) (hmap : ∀ i, γ.map i = β.map i)
    (hne : ∀ i k b o, i ≠ id → β.row i k = some (b, o) → b ≠ bn) (hneM : ∀ i b, β.map i = some b → b ≠ bn)
    (hid : ∀ k b o, γ.row id k = some (b, o) → (∃ c fz, RowOk P N0 γ w' r' k b o c fz) ∧ (b = bn ∨ ∃ k' o', β.row id k' = some (b, o')))
    (hbase : ∀ b, N0.low b → b < w'.heap.size) (hr : ∀ r, H.view id = some r → r.ro = false) (hidM : β.map id = none) (hnx : γ.nx = H'.next) (hnx2 : H.next ≤ H'.next) (hidl : γ.live id = true) (hlive : ∀ i, i ≠ id → γ.live i = β.live i) (hidn : id < H'.next)
    (hloop : γ.loop = β.loop) (hneL : ∀ i b, β.loop i = some b → b ≠ bn ∧ i ≠ id) : HRel P N0 γ H' w' := by
  have hview : ∀ j, j ≠ id → H'.view j = H.view j := fun j hj => by unfold AHeap.view; rw [hoth j hj]
  constructor
  · intro i k b o r h1 h2
    by_cases hi : i = id
    · subst hi
      rw [hv'] at h2
      obtain rfl : r' = r := by simpa using h2
      exact (hid _ _ _ h1).1
    · rw [hview _ hi] at h2
      rw [hrow _ hi] at h1
      obtain ⟨c, fz, hok⟩ := h.row _ _ _ _ _ h1 h2
      exact ⟨c, fz, hok.mono le (hb _ (hne _ _ _ _ hi h1)) (le.bsz _ _ _ _ h1) (le.bes _ _ _ _ h1)⟩
  · intro i b es h1 h2
    rw [hmap] at h1
    have hi : i ≠ id := by intro e; subst e; rw [hidM] at h1; simp at h1
    rw [hoth _ hi] at h2
    obtain ⟨a, ces, cl, c, d⟩ := h.map _ _ _ h1 h2
    exact ⟨a, ces, cl, by rw [hb _ (hneM _ _ h1)]; exact c, d.monoU le⟩
  · intro i k p h1
    by_cases hi : i = id
    · subst hi; exact ⟨_, hv'⟩
    · rw [hview _ hi]; rw [hrow _ hi] at h1; exact h.dom _ _ _ h1
  · intro i b h1
    rw [hmap] at h1
    have hi : i ≠ id := by intro e; subst e; rw [hidM] at h1; simp at h1
    rw [hoth _ hi]; exact h.domM _ _ h1
  · exact hfresh
  · intro i r h1 j
    by_cases hi : i = id
    · subst hi; rw [hv'] at h1
      obtain rfl : r' = r := by simpa using h1
      exact hst j
    · rw [hview _ hi] at h1; exact h.stle _ _ h1 j
  · have key : ∀ (k b o i' k' o' : Nat) (r2 : RowV), γ.row id k = some (b, o) → i' ≠ id → β.row i' k' = some (b, o') → H.view i' = some r2 → False := by
      intro k b o i' k' o' r2 h1 hi h2 h3
      rcases (hid _ _ _ h1).2 with e | ⟨k2, o2, h4⟩
      · exact hne _ _ _ _ hi h2 e
      · obtain ⟨r0, hr0⟩ := h.dom _ _ _ h4
        rcases h.inj _ _ _ _ _ _ _ _ _ h4 h2 hr0 h3 with e | ⟨e, _⟩
        · exact hi e.symm
        · rw [hr _ hr0] at e; simp at e
    intro i k b o i' k' o' r1 r2 h1 h2 h3 h4
    by_cases hi : i = id
    · by_cases hi' : i' = id
      · exact .inl (hi.trans hi'.symm)
      · subst hi; rw [hrow _ hi'] at h2; rw [hview _ hi'] at h4
        exact (key _ _ _ _ _ _ _ h1 hi' h2 h4).elim
    · by_cases hi' : i' = id
      · subst hi'; rw [hrow _ hi] at h1; rw [hview _ hi] at h3
        exact (key _ _ _ _ _ _ _ h2 hi h1 h3).elim
      · rw [hrow _ hi] at h1; rw [hrow _ hi'] at h2; rw [hview _ hi] at h3; rw [hview _ hi'] at h4
        exact h.inj _ _ _ _ _ _ _ _ _ h1 h2 h3 h4
  · intro i i' b h1 h2; rw [hmap] at h1 h2; exact h.injM _ _ _ h1 h2
  · exact hbase
  · exact hnx
  · intro i k p h1
    by_cases hi : i = id
    · subst hi; exact hidl
    · rw [hrow _ hi] at h1; rw [hlive _ hi]; exact h.liveR _ _ _ h1
  · intro i b h1
    rw [hmap] at h1
    exact le.live _ (h.liveM _ _ h1)
  · intro i h1
    by_cases hi : i = id
    · subst hi; exact hidn
    · rw [hlive _ hi] at h1; have := h.live _ h1; omega
  · intro i b h1
    rw [hloop] at h1
    obtain ⟨q, q', h2, h3, h4, h5⟩ := h.lp _ _ h1
    obtain ⟨n1, n2⟩ := hneL _ _ h1
    exact ⟨q, q', by rw [hoth _ n2]; exact h2, h3, by rw [hb _ n1]; exact h4, h5.monoU le⟩
  · intro i i' b h1 h2; rw [hloop] at h1 h2; exact h.injL _ _ _ h1 h2

def Emb.addRow (β : Emb) (i k b n es : Nat) : Emb :=
  { β with row := fun i' k' => if i' = i ∧ k' = k then some (b, 0) else β.row i' k', bsz := fun b' => if b' = b then n else β.bsz b', bes := fun b' => if b' = b then es else β.bes b', live := fun i' => i' == i || β.live i', nx := if i < β.nx then β.nx else i + 1 }

section
variable {P : Program} {N0 : Fz} {β : Emb} {H : AHeap} {w : World}

theorem HRel.loopblk_lt (h : HRel P N0 β H w) {i b : Nat} (hl : β.loop i = some b) : b < w.heap.size := by
  obtain ⟨q, q', h2, h3, h4, h5⟩ := h.lp _ _ hl
  exact (Array.getElem?_eq_some_iff.1 h4).1

theorem HRel.loop_ne (h : HRel P N0 β H w) {i b j : Nat} (hl : β.loop i = some b) (hj : H.get j = none ∨ ∃ r, H.view j = some r) : i ≠ j := by
  rintro rfl
  obtain ⟨q, q', h2, h3, h4, h5⟩ := h.lp _ _ hl
  rcases hj with e | ⟨r, e⟩
  · rw [h2] at e; simp at e
  · rw [view_loop h2] at e; simp at e

theorem HRel.addRow_le {i k b n es : Nat} (hn : β.row i k = none) (hl : β.live i = true ∨ β.nx ≤ i) (hb : ∀ i' k' o', β.row i' k' = some (b, o') → n = β.bsz b ∧ es = β.bes b) : Emb.le β (β.addRow i k b n es) := by
  refine ⟨?_, fun _ _ e => e, fun _ _ e => e, ?_, ?_, ?_, ?_, ?_⟩
  · intro i' k' p e
    unfold Emb.addRow; dsimp only
    rw [if_neg]; exact e
    rintro ⟨rfl, rfl⟩; rw [hn] at e; simp at e
  · intro i' k' b' o' e
    unfold Emb.addRow; dsimp only
    split
    · rename_i e'; subst e'; exact (hb _ _ _ e).1
    · rfl
  · intro i' k' b' o' e
    unfold Emb.addRow; dsimp only
    split
    · rename_i e'; subst e'; exact (hb _ _ _ e).2
    · rfl
  · intro i' e; simp [Emb.addRow, e]
  · intro i' e
    simp only [Emb.addRow, Bool.or_eq_true, beq_iff_eq] at e
    rcases e with rfl | e
    · exact hl
    · exact .inl e
  · simp only [Emb.addRow]; split <;> omega

theorem AHeap.push_get_new (H : AHeap) (o : AObj) : (H.push o).get H.next = some o := by simp [AHeap.push]
theorem AHeap.push_get_old (H : AHeap) (o : AObj) {j : Nat} (h : j ≠ H.next) : (H.push o).get j = H.get j := by simp [AHeap.push, h]

/-- A new row of cells. -/
theorem HRel.pushRow (h : HRel P N0 β H w) {o : AObj} {r : RowV} (hv : o.view = some r) (hro : r.ro = false) (hst : ∀ j, r.st j ≤ r.g) (hg : r.g = 0) {c : Array Value} {i : TypeInfo}
    (hi : P.info? r.e = some i) (hc : ∀ (j : Nat) (v : Value), r.cs[j]? = some v → ∃ v', c[j]? = some v' ∧ VRel β v v') (w' : World) (hw3 : w'.heap = w.heap.push (.cells c r.e) ∧ w'.os = w.os ∧ w'.output = w.output) :
    let γ := β.addRow H.next 0 w.heap.size c.size i.size
    Emb.le β γ ∧ HRel P N0 γ (H.push o) w' ∧ Fr N0 w w' ∧ γ.row H.next 0 = some (w.heap.size, 0) ∧ γ.bsz w.heap.size = c.size ∧ γ.bes w.heap.size = i.size := by
  intro γ
  obtain ⟨hw, hwo, hwu⟩ := hw3
  have hnone : ∀ k, β.row H.next k = none := by
    intro k
    cases e : β.row H.next k with
    | none => rfl
    | some p =>
      obtain ⟨r0, hr0⟩ := h.dom _ _ _ e
      unfold AHeap.view at hr0; rw [h.fresh _ (Nat.le_refl _)] at hr0; simp at hr0
  have le : Emb.le β γ := HRel.addRow_le (hnone 0) (.inr (by rw [h.nx]; exact Nat.le_refl _)) (fun i' k' o' e => absurd (h.rowblk_lt e) (by omega))
  have hlow : ∀ b, b ≠ w.heap.size → w'.heap[b]? = w.heap[b]? := by
    intro b hb
    rw [hw, Array.getElem?_push, if_neg hb]
  have hnew : w'.heap[w.heap.size]? = some (.cells c r.e) := by rw [hw]; simp
  refine ⟨le, ?_, ⟨by rw [hw]; simp, fun b hb => hlow b (Nat.ne_of_lt (h.base b hb)), hwo, hwu⟩, by simp [γ, Emb.addRow], by simp [γ, Emb.addRow], by simp [γ, Emb.addRow]⟩
  refine h.change le.u H.next w.heap.size r (fun j hj => AHeap.push_get_old H o hj) (by unfold AHeap.view; rw [AHeap.push_get_new]; exact hv) hro ?_ hst hlow ?_ (fun _ => rfl) ?_ ?_ ?_ (fun b hb => by rw [hw]; have := h.base b hb; simp; omega) ?_ ?_ ?_ (by show H.next ≤ H.next + 1; omega) (by simp [γ, Emb.addRow]) ?_ (by show H.next < H.next + 1; omega) rfl (fun i' b' e => ⟨by have := h.loopblk_lt e; omega, h.loop_ne e (.inl (h.fresh _ (Nat.le_refl _)))⟩)
  · intro j hj
    have hj' : H.next + 1 ≤ j := hj
    rw [AHeap.push_get_old _ _ (by omega)]; exact h.fresh _ (by omega)
  · intro i' hi' k
    simp [γ, Emb.addRow, hi']
  · intro i' k b o' _ e; have := h.rowblk_lt e; omega
  · intro i' b e; have := h.mapblk_lt e; omega
  · intro k b o' e
    have : k = 0 ∧ b = w.heap.size ∧ o' = 0 := by
      simp only [γ, Emb.addRow] at e
      split at e
      · rename_i hk; simp at e; exact ⟨hk.2, e.1.symm, e.2.symm⟩
      · rw [hnone] at e; simp at e
    obtain ⟨rfl, rfl, rfl⟩ := this
    refine ⟨⟨c, (0, 0), { blk := hnew, size := by simp [γ, Emb.addRow], elem := fun _ => ⟨i, hi, by simp [γ, Emb.addRow]⟩, robes := fun e => by rw [hro] at e; simp at e, cell := ?_, own := fun _ => ⟨rfl, fun hb => Nat.lt_irrefl _ (h.base _ hb), rfl⟩, gen := by omega }⟩, .inl rfl⟩
    intro j v hj _
    obtain ⟨v', h1, h2⟩ := hc j v hj
    exact ⟨v', by rw [Nat.zero_add]; exact h1, h2.mono le⟩
  · intro r0 hr0
    unfold AHeap.view at hr0; rw [h.fresh _ (Nat.le_refl _)] at hr0; simp at hr0
  · cases e : β.map H.next with
    | none => rfl
    | some b =>
      obtain ⟨es, he⟩ := h.domM _ _ e
      rw [h.fresh _ (Nat.le_refl _)] at he; simp at he
  · show (if H.next < β.nx then β.nx else H.next + 1) = H.next + 1
    rw [h.nx, if_neg (by omega)]
  · intro i' hi'; simp [γ, Emb.addRow, hi']

/-- A thing of the heap that had no block gets one. -/
theorem HRel.mapRow (h : HRel P N0 β H w) {id : Nat} {r : RowV} (hv : H.view id = some r) (hnl : β.live id = false) (hro : r.ro = false) (hg : r.g = 0) {c : Array Value} {i : TypeInfo}
    (hi : P.info? r.e = some i) (hc : ∀ (j : Nat) (v : Value), r.cs[j]? = some v → ∃ v', c[j]? = some v' ∧ VRel β v v') (w' : World) (hw3 : w'.heap = w.heap.push (.cells c r.e) ∧ w'.os = w.os ∧ w'.output = w.output) :
    let γ := β.addRow id 0 w.heap.size c.size i.size
    Emb.leU β γ ∧ HRel P N0 γ H w' ∧ Fr N0 w w' ∧ γ.row id 0 = some (w.heap.size, 0) ∧ γ.bsz w.heap.size = c.size ∧ γ.bes w.heap.size = i.size ∧ (∀ i', γ.live i' = true → β.live i' = true ∨ i' = id) ∧ γ.live id = true ∧ γ.nx = β.nx := by
  intro γ
  obtain ⟨hw, hwo, hwu⟩ := hw3
  have hnone : ∀ k, β.row id k = none := by
    intro k
    cases e : β.row id k with
    | none => rfl
    | some p => have := h.liveR _ _ _ e; rw [hnl] at this; simp at this
  have hidM : β.map id = none := by
    cases e : β.map id with
    | none => rfl
    | some p => have := h.liveM _ _ e; rw [hnl] at this; simp at this
  have hlt : id < H.next := by
    rcases Nat.lt_or_ge id H.next with hl | hl
    · exact hl
    · unfold AHeap.view at hv; rw [h.fresh _ hl] at hv; simp at hv
  have hnx : γ.nx = β.nx := by
    show (if id < β.nx then β.nx else id + 1) = β.nx
    rw [h.nx, if_pos hlt]
  have le : Emb.leU β γ := by
    refine ⟨?_, fun _ _ e => e, fun _ _ e => e, ?_, ?_, fun i' e => by simp [γ, Emb.addRow, e]⟩
    · intro i' k' p e
      simp only [γ, Emb.addRow]
      rw [if_neg]; exact e
      rintro ⟨rfl, rfl⟩; rw [hnone] at e; simp at e
    · intro i' k' b' o' e
      have := h.rowblk_lt e
      simp only [γ, Emb.addRow]; rw [if_neg (by omega)]
    · intro i' k' b' o' e
      have := h.rowblk_lt e
      simp only [γ, Emb.addRow]; rw [if_neg (by omega)]
  have hlow : ∀ b, b ≠ w.heap.size → w'.heap[b]? = w.heap[b]? := by
    intro b hb
    rw [hw, Array.getElem?_push, if_neg hb]
  have hnew : w'.heap[w.heap.size]? = some (.cells c r.e) := by rw [hw]; simp
  refine ⟨le, ?_, ⟨by rw [hw]; simp, fun b hb => hlow b (Nat.ne_of_lt (h.base b hb)), hwo, hwu⟩, by simp [γ, Emb.addRow], by simp [γ, Emb.addRow], by simp [γ, Emb.addRow], ?_, by simp [γ, Emb.addRow], hnx⟩
  · refine h.change le id w.heap.size r (fun _ _ => rfl) hv hro h.fresh (h.stle _ _ hv) hlow ?_ (fun _ => rfl) ?_ ?_ ?_ (fun b hb => by rw [hw]; have := h.base b hb; simp; omega) (fun r0 hr0 => by rw [hv] at hr0; obtain rfl := (by simpa using hr0 : r = r0); exact hro) hidM
      (by rw [hnx, h.nx]) (Nat.le_refl _) (by simp [γ, Emb.addRow]) (fun i' hi' => by simp [γ, Emb.addRow, hi']) hlt rfl (fun i' b' e => ⟨by have := h.loopblk_lt e; omega, h.loop_ne e (.inr ⟨_, hv⟩)⟩)
    · intro i' hi' k
      simp [γ, Emb.addRow, hi']
    · intro i' k b o' _ e; have := h.rowblk_lt e; omega
    · intro i' b e; have := h.mapblk_lt e; omega
    · intro k b o' e
      have : k = 0 ∧ b = w.heap.size ∧ o' = 0 := by
        simp only [γ, Emb.addRow] at e
        split at e
        · rename_i hk; simp at e; exact ⟨hk.2, e.1.symm, e.2.symm⟩
        · rw [hnone] at e; simp at e
      obtain ⟨rfl, rfl, rfl⟩ := this
      refine ⟨⟨c, (0, 0), { blk := hnew, size := by simp [γ, Emb.addRow], elem := fun _ => ⟨i, hi, by simp [γ, Emb.addRow]⟩, robes := fun e => by rw [hro] at e; simp at e, cell := ?_, own := fun _ => ⟨rfl, fun hb => Nat.lt_irrefl _ (h.base _ hb), rfl⟩, gen := by omega }⟩, .inl rfl⟩
      intro j v hj _
      obtain ⟨v', h1, h2⟩ := hc j v hj
      exact ⟨v', by rw [Nat.zero_add]; exact h1, VRel.monoU le h2⟩
  · intro i' hi'
    simp only [γ, Emb.addRow, Bool.or_eq_true, beq_iff_eq] at hi'
    rcases hi' with e | e
    · exact .inr e
    · exact .inl e

def Emb.atNext (β : Emb) (n : Nat) : Emb := { β with nx := n }

/-- A new thing of the heap, without a block yet. -/
theorem HRel.pushRes (h : HRel P N0 β H w) {o : AObj} {r : RowV} (hv : o.view = some r) (hst : ∀ j, r.st j ≤ r.g) :
    Emb.le β (β.atNext (H.next + 1)) ∧ HRel P N0 (β.atNext (H.next + 1)) (H.push o) w ∧ (β.atNext (H.next + 1)).live H.next = false := by
  have hnl : β.live H.next = false := by
    cases e : β.live H.next with
    | false => rfl
    | true => have := h.live _ e; omega
  have le : Emb.le β (β.atNext (H.next + 1)) := ⟨fun _ _ _ e => e, fun _ _ e => e, fun _ _ e => e, fun _ _ _ _ _ => rfl, fun _ _ _ _ _ => rfl, fun _ e => e, fun _ e => .inl e, by show β.nx ≤ H.next + 1; rw [h.nx]; omega⟩
  have hview : ∀ j, j ≠ H.next → (H.push o).view j = H.view j := fun j hj => by unfold AHeap.view; rw [AHeap.push_get_old _ _ hj]
  have hvn : (H.push o).view H.next = some r := by unfold AHeap.view; rw [AHeap.push_get_new]; exact hv
  have hne : ∀ i k p, β.row i k = some p → i ≠ H.next := by
    rintro i k p e rfl
    have := h.liveR _ _ _ e; rw [hnl] at this; simp at this
  have hneM : ∀ i b, β.map i = some b → i ≠ H.next := by
    rintro i b e rfl
    have := h.liveM _ _ e; rw [hnl] at this; simp at this
  refine ⟨le, ?_, hnl⟩
  constructor
  · intro i k b o' rr h1 h2
    have h1' : β.row i k = some (b, o') := h1
    rw [hview _ (hne _ _ _ h1')] at h2
    obtain ⟨c, fz, hok⟩ := h.row _ _ _ _ _ h1' h2
    exact ⟨c, fz, hok.mono le.u rfl rfl rfl⟩
  · intro i b es h1 h2
    have h1' : β.map i = some b := h1
    rw [AHeap.push_get_old _ _ (hneM _ _ h1')] at h2
    obtain ⟨a, ces, cl, c, d⟩ := h.map _ _ _ h1' h2
    exact ⟨a, ces, cl, c, d.monoU le.u⟩
  · intro i k p h1
    have h1' : β.row i k = some p := h1
    rw [hview _ (hne _ _ _ h1')]; exact h.dom _ _ _ h1'
  · intro i b h1
    have h1' : β.map i = some b := h1
    rw [AHeap.push_get_old _ _ (hneM _ _ h1')]; exact h.domM _ _ h1'
  · intro j hj
    have hj' : H.next + 1 ≤ j := hj
    rw [AHeap.push_get_old _ _ (by omega)]; exact h.fresh _ (by omega)
  · intro i rr h1 j
    by_cases hi : i = H.next
    · subst hi; rw [hvn] at h1
      obtain rfl : r = rr := by simpa using h1
      exact hst j
    · rw [hview _ hi] at h1; exact h.stle _ _ h1 j
  · intro i k b o1 i' k' o1' r1 r2 h1 h2 h3 h4
    have h1' : β.row i k = some (b, o1) := h1
    have h2' : β.row i' k' = some (b, o1') := h2
    rw [hview _ (hne _ _ _ h1')] at h3; rw [hview _ (hne _ _ _ h2')] at h4
    exact h.inj _ _ _ _ _ _ _ _ _ h1' h2' h3 h4
  · exact h.injM
  · exact h.base
  · rfl
  · exact h.liveR
  · exact h.liveM
  · intro i hi; have := h.live i hi; show i < H.next + 1; omega
  · intro i b h1
    have h1' : β.loop i = some b := h1
    obtain ⟨q, q', h2, h3, h4, h5⟩ := h.lp _ _ h1'
    exact ⟨q, q', by rw [AHeap.push_get_old _ _ (h.loop_ne h1' (.inl (h.fresh _ (Nat.le_refl _))))]; exact h2, h3, h4, h5.monoU le.u⟩
  · exact h.injL

def Emb.addMap (β : Emb) (i b : Nat) : Emb := { β with map := fun i' => if i' = i then some b else β.map i', live := fun i' => i' == i || β.live i', nx := i + 1 }

theorem HRel.pushMap (h : HRel P N0 β H w) (w' : World) (hw3 : w'.heap = w.heap.push (.map #[] 0) ∧ w'.os = w.os ∧ w'.output = w.output) :
    let γ := β.addMap H.next w.heap.size
    Emb.le β γ ∧ HRel P N0 γ (H.push (.map [])) w' ∧ Fr N0 w w' ∧ γ.map H.next = some w.heap.size := by
  intro γ
  obtain ⟨hw, hwo, hwu⟩ := hw3
  have hnone : β.map H.next = none := by
    cases e : β.map H.next with
    | none => rfl
    | some b =>
      obtain ⟨es, he⟩ := h.domM _ _ e
      rw [h.fresh _ (Nat.le_refl _)] at he; simp at he
  have hnoner : ∀ k, β.row H.next k = none := by
    intro k
    cases e : β.row H.next k with
    | none => rfl
    | some p =>
      obtain ⟨r0, hr0⟩ := h.dom _ _ _ e
      unfold AHeap.view at hr0; rw [h.fresh _ (Nat.le_refl _)] at hr0; simp at hr0
  have le : Emb.le β γ := by
    refine ⟨fun _ _ _ e => e, ?_, fun _ _ e => e, fun _ _ _ _ _ => rfl, fun _ _ _ _ _ => rfl, ?_, ?_, ?_⟩
    · intro i b e
      simp only [γ, Emb.addMap]
      rw [if_neg]; exact e
      rintro rfl; rw [hnone] at e; simp at e
    · intro i e; simp [γ, Emb.addMap, e]
    · intro i e
      simp only [γ, Emb.addMap, Bool.or_eq_true, beq_iff_eq] at e
      rcases e with rfl | e
      · exact .inr (by rw [h.nx]; exact Nat.le_refl _)
      · exact .inl e
    · show β.nx ≤ H.next + 1
      rw [h.nx]; omega
  have hlow : ∀ b, b ≠ w.heap.size → w'.heap[b]? = w.heap[b]? := by
    intro b hb
    rw [hw, Array.getElem?_push, if_neg hb]
  have hnew : w'.heap[w.heap.size]? = some (.map #[] 0) := by rw [hw]; simp
  have hview : ∀ j, j ≠ H.next → (H.push (.map [])).view j = H.view j := fun j hj => by unfold AHeap.view; rw [AHeap.push_get_old _ _ hj]
  have hvn : (H.push (.map [])).view H.next = none := by unfold AHeap.view; rw [AHeap.push_get_new]; rfl
  refine ⟨le, ?_, ⟨by rw [hw]; simp, fun b hb => hlow b (Nat.ne_of_lt (h.base b hb)), hwo, hwu⟩, by simp [γ, Emb.addMap]⟩
  constructor
  · intro i k b o r h1 h2
    have hi : i ≠ H.next := by rintro rfl; rw [hvn] at h2; simp at h2
    rw [hview _ hi] at h2
    obtain ⟨c, fz, hok⟩ := h.row _ _ _ _ _ h1 h2
    exact ⟨c, fz, hok.mono le.u (hlow _ (by have := h.rowblk_lt h1; omega)) rfl rfl⟩
  · intro i b es h1 h2
    by_cases hi : i = H.next
    · subst hi
      simp only [γ, Emb.addMap, if_true] at h1
      obtain rfl : w.heap.size = b := by simpa using h1
      rw [AHeap.push_get_new] at h2
      obtain rfl : es = [] := by simpa using h2.symm
      exact ⟨fun hb => Nat.lt_irrefl _ (h.base _ hb), _, _, hnew, .nil⟩
    · simp only [γ, Emb.addMap, if_neg hi] at h1
      rw [AHeap.push_get_old _ _ hi] at h2
      obtain ⟨a, ces, cl, c, d⟩ := h.map _ _ _ h1 h2
      exact ⟨a, ces, cl, by rw [hlow _ (by have := h.mapblk_lt h1; omega)]; exact c, d.mono le⟩
  · intro i k p h1
    have hi : i ≠ H.next := by rintro rfl; rw [show γ.row H.next k = β.row H.next k from rfl, hnoner] at h1; simp at h1
    rw [hview _ hi]; exact h.dom _ _ _ h1
  · intro i b h1
    by_cases hi : i = H.next
    · subst hi; exact ⟨_, AHeap.push_get_new _ _⟩
    · simp only [γ, Emb.addMap, if_neg hi] at h1
      rw [AHeap.push_get_old _ _ hi]; exact h.domM _ _ h1
  · intro j hj
    have hj' : H.next + 1 ≤ j := hj
    rw [AHeap.push_get_old _ _ (by omega)]; exact h.fresh _ (by omega)
  · intro i r h1 j
    have hi : i ≠ H.next := by rintro rfl; rw [hvn] at h1; simp at h1
    rw [hview _ hi] at h1; exact h.stle _ _ h1 j
  · intro i k b o i' k' o' r1 r2 h1 h2 h3 h4
    have hi : i ≠ H.next := by rintro rfl; rw [hvn] at h3; simp at h3
    have hi' : i' ≠ H.next := by rintro rfl; rw [hvn] at h4; simp at h4
    rw [hview _ hi] at h3; rw [hview _ hi'] at h4
    exact h.inj _ _ _ _ _ _ _ _ _ h1 h2 h3 h4
  · intro i i' b h1 h2
    simp only [γ, Emb.addMap] at h1 h2
    split at h1
    · rename_i e
      split at h2
      · rename_i e'; exact e.trans e'.symm
      · have := h.mapblk_lt h2; simp at h1; omega
    · split at h2
      · have := h.mapblk_lt h1; simp at h2; omega
      · exact h.injM _ _ _ h1 h2
  · intro b hb; rw [hw]; have := h.base b hb; simp; omega
  · rfl
  · intro i k p h1
    simp only [γ, Emb.addMap, Bool.or_eq_true]
    exact .inr (h.liveR _ _ _ h1)
  · intro i b h1
    simp only [γ, Emb.addMap] at h1 ⊢
    split at h1
    · rename_i e; simp [e]
    · simp [h.liveM _ _ h1]
  · intro i h1
    simp only [γ, Emb.addMap, Bool.or_eq_true, beq_iff_eq] at h1
    show i < H.next + 1
    rcases h1 with rfl | h1
    · omega
    · have := h.live _ h1; omega
  · intro i b h1
    have h1' : β.loop i = some b := h1
    obtain ⟨q, q', h2, h3, h4, h5⟩ := h.lp _ _ h1'
    exact ⟨q, q', by rw [AHeap.push_get_old _ _ (h.loop_ne h1' (.inl (h.fresh _ (Nat.le_refl _))))]; exact h2, h3, by rw [hlow _ (by have := h.loopblk_lt h1'; omega)]; exact h4, h5.monoU le.u⟩
  · exact h.injL

/-! ### append -/
/-- The cells of a slice's elements. -/
def AHeap.elems (H : AHeap) (sz : Nat) : Value → Option (Nat × List Value)
  | .slice none 0 0 => some (0, [])
  | .slice (some a) n _ => match H.readN a (n * sz) with
    | some vs => some (n, vs)
    | none => none
  | _ => none

def maxBytes : Nat := 140737488355328

def AHeap.append (H : AHeap) (i : TypeInfo) (e : TypeId) (s x : Value) : Option (Value × AHeap) :=
  if i.size = 0 then none else
  match i.zero with
  | none => none
  | some z => if z.cells.size = i.size then
    match AHeap.elems H i.size x with
    | none => none
    | some (0, _) => match s with
      | .slice none 0 0 => some (s, H)
      | .slice (some _) _ _ => some (s, H)
      | _ => none
    | some (n + 1, xs) => if xs.all flatV then
      match s with
      | .slice none 0 0 => if (n + 1) ≤ 9223372036854775807 ∧ (n + 1) * i.bytes ≤ maxBytes then
          some (.slice (some ⟨H.next, 0, some 0⟩) (n + 1) (n + 1), H.push (.arr xs (List.replicate xs.length 0) 0 e false)) else none
      | .slice (some a) len _ => match H.get a.block with
        | some (.arr cs st g e' false) =>
          if a.off = 0 ∧ e' = e ∧ agen a ≤ g ∧ len * i.size ≤ st.length ∧ (len + (n + 1)) ≤ 9223372036854775807 ∧ (len + (n + 1)) * i.bytes ≤ maxBytes then
            match H.readN a (len * i.size) with
            | some _ => some (.slice (some ⟨a.block, 0, some (g + 1)⟩) (len + (n + 1)) (len + (n + 1)),
                H.set a.block (.arr (cs.take (len * i.size) ++ xs) (st.take (len * i.size) ++ List.replicate xs.length (g + 1)) (g + 1) e false))
            | none => none
          else none
        | _ => none
      | _ => none
      else none
    else none

theorem readN_length {H : AHeap} : ∀ {n : Nat} {a : Addr} {vs : List Value}, H.readN a n = some vs → vs.length = n
  | 0, _, _, h => by simp [AHeap.readN] at h; subst h; rfl
  | n + 1, a, vs, h => by
    unfold AHeap.readN at h
    cases h1 : H.cell a with
    | none => rw [h1] at h; simp at h
    | some v =>
      rw [h1] at h; dsimp only at h
      cases h2 : H.readN (addA a 1) n with
      | none => rw [h2] at h; simp at h
      | some us => rw [h2] at h; simp at h; subst h; simp [readN_length h2]

theorem readN_get {H : AHeap} : ∀ {n : Nat} {a : Addr} {vs : List Value}, H.readN a n = some vs → ∀ {j : Nat}, j < n → H.cell (addA a j) = vs[j]?
  | 0, _, _, _, j, hj => by omega
  | n + 1, a, vs, h, j, hj => by
    unfold AHeap.readN at h
    cases h1 : H.cell a with
    | none => rw [h1] at h; simp at h
    | some v =>
      rw [h1] at h; dsimp only at h
      cases h2 : H.readN (addA a 1) n with
      | none => rw [h2] at h; simp at h
      | some us =>
        rw [h2] at h; simp at h; subst h
        cases j with
        | zero => rw [addA_zero, h1]; rfl
        | succ j =>
          have := readN_get h2 (j := j) (by omega)
          rw [addA_add, Nat.add_comm 1 j] at this
          simpa using this

theorem HRel.readN_run (h : HRel P N0 β H w) {a c : Addr} (ha : ARel β a c) {n : Nat} {vs : List Value} (hv : H.readN a n = some vs) :
    ∃ vs', VRels β vs vs' ∧ vs'.length = n ∧ ∀ (j : Nat) (u : Value), vs'[j]? = some u → w.cell? (c.add j) = some u := by
  have hl := readN_length hv
  have hex : ∀ j, j < n → ∃ u, w.cell? (c.add j) = some u ∧ ∀ v, vs[j]? = some v → VRel β v u := by
    intro j hj
    have h1 := readN_get hv hj
    cases hvj : vs[j]? with
    | none => rw [List.getElem?_eq_none_iff] at hvj; omega
    | some v =>
      rw [hvj] at h1
      obtain ⟨u, hu, hr⟩ := h.cell_run h1 (ha.add j)
      exact ⟨u, hu, fun v' e => by cases e; exact hr⟩
  let vs' : List Value := (List.range n).map fun j => (w.cell? (c.add j)).getD undef
  have hl' : vs'.length = n := by simp [vs']
  have hg : ∀ j, j < n → vs'[j]? = w.cell? (c.add j) := by
    intro j hj
    obtain ⟨u, hu, _⟩ := hex j hj
    simp [vs', hj, hu]
  refine ⟨vs', VRels.of_get (by rw [hl', hl]) ?_, hl', ?_⟩
  · intro j v hj
    have hjn : j < n := by have := (List.getElem?_eq_some_iff.1 hj).1; omega
    obtain ⟨u, hu, hr⟩ := hex j hjn
    exact ⟨u, by rw [hg j hjn, hu], hr v hj⟩
  · intro j u hj
    have hjn : j < n := by have := (List.getElem?_eq_some_iff.1 hj).1; omega
    rw [← hg j hjn]; exact hj

end

end B
end Go.Proofs.Ytnjoaffnfjlcaaa
