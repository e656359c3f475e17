/-
  Joined by program out of Rf2, Ops19, Ops20, Tw, Ops21, Ops22.
-/
import Derived.Test.YtnjoaffnfjlcaaaM6
import Derived.Test.YtnjoaffnfjlcaaaM5
namespace Go.Proofs.Ytnjoaffnfjlcaaa
open Go Go.Proofs B

def mkLoc (tys : List Int) (i : Nat) (p : ByteArray × Nat) : Loc := ⟨p.1, i, p.2, tys.getD p.2 0⟩
def locsN (tys : List Int) : List Blk → Nat → List Loc
  | [], _ => []
  | m :: ms, i => m.map (mkLoc tys i) ++ locsN tys ms (i + 1)

structure Sim (σ : Sc) (ρ : Rf) : Prop where
  bl : ρ.blocks = σ.blocks.length
  ty : ρ.types = σ.types
  tr : ρ.turns = σ.turns
  nx : ρ.next = σ.next
  lo : ρ.locals = locsN σ.types σ.blocks 1
  uq : ∀ m ∈ σ.blocks, (m.map (·.1)).Nodup

theorem locsN_append (tys : List Int) (m : Blk) : ∀ (A : List Blk) (i : Nat), locsN tys (A ++ [m]) i = locsN tys A i ++ m.map (mkLoc tys (i + A.length))
  | [], i => by simp [locsN]
  | a :: A, i => by
    simp only [List.cons_append, locsN, locsN_append tys m A (i + 1), List.append_assoc, List.length_cons]
    rw [show i + 1 + A.length = i + (A.length + 1) by omega]

theorem locsN_block (tys : List Int) : ∀ (A : List Blk) (i : Nat), ∀ x ∈ locsN tys A i, x.block < i + A.length
  | [], _, x, h => by simp [locsN] at h
  | a :: A, i, x, h => by
    simp only [locsN, List.mem_append] at h
    rcases h with h | h
    · obtain ⟨p, _, rfl⟩ := List.mem_map.1 h
      show i < i + (A.length + 1)
      omega
    · have := locsN_block tys A (i + 1) x h
      simp only [List.length_cons]; omega

theorem locsN_more (tys : List Int) (ty : Int) : ∀ (A : List Blk) (i : Nat), (∀ m ∈ A, ∀ p ∈ m, p.2 < tys.length) → locsN (tys ++ [ty]) A i = locsN tys A i
  | [], _, _ => rfl
  | a :: A, i, h => by
    simp only [locsN]
    rw [locsN_more tys ty A (i + 1) fun m hm => h m (List.mem_cons_of_mem _ hm)]
    congr 1
    apply List.map_congr_left
    intro p hp
    unfold mkLoc
    have := h a (List.mem_cons_self ..) p hp
    rw [List.getD_eq_getElem?_getD, List.getD_eq_getElem?_getD, List.getElem?_append_left this]

theorem split_top {σ : Sc} (h : 0 < σ.blocks.length) : σ.blocks = σ.blocks.take (σ.blocks.length - 1) ++ [σ.top] := by
  unfold Sc.top
  have h1 : σ.blocks.take (σ.blocks.length - 1 + 1) = σ.blocks := by rw [Nat.sub_add_cancel h]; exact List.take_length
  have h2 := List.take_succ_eq_append_getElem (l := σ.blocks) (i := σ.blocks.length - 1) (by omega)
  rw [h1] at h2
  rw [List.getD_eq_getElem?_getD, List.getElem?_eq_getElem (by omega)]
  exact h2

theorem top_mem {σ : Sc} (h : 0 < σ.blocks.length) : σ.top ∈ σ.blocks := by
  rw [split_top h]; simp

theorem lookN_some_iff {m : Blk} {nm : ByteArray} : (lookN m nm).isSome = true ↔ ∃ p ∈ m, p.1 = nm := by
  induction m with
  | nil => simp [lookN]
  | cons q m ih =>
    unfold lookN
    by_cases h : nm = q.1
    · rw [if_pos h]; simp [h]
    · rw [if_neg h, ih]
      constructor
      · rintro ⟨p, hp, h2⟩; exact ⟨p, List.mem_cons_of_mem _ hp, h2⟩
      · rintro ⟨p, hp, h2⟩
        rcases List.mem_cons.1 hp with rfl | hp
        · exact absurd h2.symm h
        · exact ⟨p, hp, h2⟩

theorem lastI_iff {p : Nat → Bool} {n : Nat} : (lastI p n).isSome = true ↔ ∃ i, i < n ∧ p i = true := by
  constructor
  · intro h
    obtain ⟨i, hi⟩ := Option.isSome_iff_exists.1 h
    obtain ⟨h1, h2, _⟩ := lastI_some hi
    exact ⟨i, h1, h2⟩
  · rintro ⟨i, h1, h2⟩; exact lastI_some_of h1 h2

variable {σ : Sc} {ρ : Rf}

theorem Sim.has (h : Sim σ ρ) (h0 : 0 < σ.blocks.length) (nm : ByteArray) : ρ.has nm = (lookN σ.top nm).isSome := by
  rw [Bool.eq_iff_iff]
  unfold Rf.has
  rw [lastI_iff, lookN_some_iff]
  have hlen : σ.blocks.length = (σ.blocks.take (σ.blocks.length - 1)).length + 1 := by rw [List.length_take]; omega
  have hlo := h.lo
  rw [split_top h0, locsN_append] at hlo
  have hb : ρ.blocks = 1 + (σ.blocks.take (σ.blocks.length - 1)).length := by rw [h.bl]; omega
  constructor
  · rintro ⟨i, hi, hp⟩
    unfold Rf.hasAt at hp
    simp only [Bool.and_eq_true, decide_eq_true_eq] at hp
    rw [List.getD_eq_getElem?_getD, List.getElem?_eq_getElem hi] at hp
    have hm : ρ.locals[i] ∈ ρ.locals := List.getElem_mem hi
    generalize ρ.locals[i] = x at hp hm
    rw [hlo] at hm
    rcases List.mem_append.1 hm with hm | hm
    · have := locsN_block _ _ _ _ hm
      have h1 := hp.1
      simp only [Option.getD_some] at h1
      omega
    · obtain ⟨p, hp1, hp2⟩ := List.mem_map.1 hm
      refine ⟨p, hp1, ?_⟩
      have h2 := hp.2
      simp only [Option.getD_some] at h2
      rw [← h2, ← hp2]
      rfl
  · rintro ⟨p, hp1, hp2⟩
    have hm : mkLoc σ.types (1 + (σ.blocks.take (σ.blocks.length - 1)).length) p ∈ ρ.locals := by
      rw [hlo]; exact List.mem_append_right _ (List.mem_map_of_mem hp1)
    obtain ⟨i, hi, he⟩ := List.getElem_of_mem hm
    refine ⟨i, hi, ?_⟩
    unfold Rf.hasAt
    rw [List.getD_eq_getElem?_getD, List.getElem?_eq_getElem hi]
    simp only [Option.getD_some, he, Bool.and_eq_true, decide_eq_true_eq]
    exact ⟨hb.symm, hp2⟩

theorem Sim.declErr (h : Sim σ ρ) (h0 : 0 < σ.blocks.length) (nm : ByteArray) : ρ.declErr nm = σ.declErr nm := by
  unfold Rf.declErr Sc.declErr
  rw [h.has h0, h.ty]

theorem Sim.declV (h : Sim σ ρ) (h0 : 0 < σ.blocks.length) (nm : ByteArray) : ρ.declV nm = Go.Proofs.Ytnjoaffnfjlcaaa.declV σ nm := by
  unfold Rf.declV Go.Proofs.Ytnjoaffnfjlcaaa.declV
  rw [h.declErr h0, h.ty]

theorem Sim.decl (h : Sim σ ρ) (h0 : 0 < σ.blocks.length) (hok : σ.ok) (nm : ByteArray) (ty : Int) : Sim (σ.decl nm ty) (ρ.decl nm ty) := by
  unfold Sc.decl Rf.decl
  rw [h.declErr h0]
  by_cases he : σ.declErr nm = 0
  · rw [if_pos he, if_pos he]
    have hlen : σ.blocks.length = (σ.blocks.take (σ.blocks.length - 1)).length + 1 := by rw [List.length_take]; omega
    have hnone : (lookN σ.top nm).isSome = false := by
      cases hs : (lookN σ.top nm).isSome with
      | false => rfl
      | true => unfold Sc.declErr at he; rw [hs] at he; simp at he
    refine ⟨?_, ?_, h.tr, h.nx, ?_, ?_⟩
    · show ρ.blocks = _
      rw [h.bl, List.length_append]; simp; omega
    · show ρ.types ++ [ty] = σ.types ++ [ty]
      rw [h.ty]
    · show ρ.locals ++ [_] = locsN (σ.types ++ [ty]) _ 1
      rw [locsN_append, locsN_more _ _ _ _ (fun m hm p hp => hok m (List.mem_of_mem_take hm) p hp), List.map_append]
      have h1 : σ.top.map (mkLoc (σ.types ++ [ty]) (1 + (σ.blocks.take (σ.blocks.length - 1)).length)) = σ.top.map (mkLoc σ.types (1 + (σ.blocks.take (σ.blocks.length - 1)).length)) := by
        apply List.map_congr_left
        intro p hp
        unfold mkLoc
        have := hok _ (top_mem h0) p hp
        rw [List.getD_eq_getElem?_getD, List.getD_eq_getElem?_getD, List.getElem?_append_left this]
      rw [h1, ← List.append_assoc, ← locsN_append, ← split_top h0, h.lo]
      congr 1
      simp only [List.map_cons, List.map_nil, mkLoc, List.cons.injEq, and_true]
      rw [h.bl, h.ty]
      have h2 : (σ.types ++ [ty]).getD σ.types.length 0 = ty := by
        rw [List.getD_eq_getElem?_getD, List.getElem?_append_right (Nat.le_refl _)]; simp
      rw [h2]
      congr 1
      omega
    · intro m hm
      rcases List.mem_append.1 hm with hm | hm
      · exact h.uq m (List.mem_of_mem_take hm)
      · simp at hm
        subst hm
        rw [List.map_append, List.nodup_append]
        refine ⟨h.uq _ (top_mem h0), by simp, ?_⟩
        intro a ha b hb
        simp at hb
        obtain ⟨p, hp1, rfl⟩ := List.mem_map.1 ha
        intro e
        have : (lookN σ.top nm).isSome = true := lookN_some_iff.2 ⟨p, hp1, e.trans hb⟩
        rw [hnone] at this; cases this
  · rw [if_neg he, if_neg he]; exact h

theorem sim0 : Sim sc0 rf0 := ⟨rfl, rfl, rfl, rfl, rfl, by
  intro m hm
  have : m = [] := by simpa [sc0] using hm
  subst this; simp⟩

theorem Sim.open' (h : Sim σ ρ) : Sim σ.open' ρ.open' := by
  refine ⟨?_, h.ty, h.tr, h.nx, ?_, ?_⟩
  · show ρ.blocks + 1 = (σ.blocks ++ [[]]).length
    rw [h.bl]; simp
  · show ρ.locals = locsN σ.types (σ.blocks ++ [[]]) 1
    rw [locsN_append, h.lo]; simp
  · intro m hm
    rcases List.mem_append.1 hm with hm | hm
    · exact h.uq m hm
    · simp at hm; subst hm; simp

theorem trim_app (bl : Nat) {A C : List Loc} (hC : ∀ x ∈ C, x.block = bl) (hA : ∀ x ∈ A, x.block ≠ bl) : trimL bl (A ++ C) = A := by
  have h1 : ∀ (l r : List Loc), (∀ x ∈ l, x.block = bl) → ((l ++ r).dropWhile fun x => decide (x.block = bl)) = r.dropWhile fun x => decide (x.block = bl) := by
    intro l
    induction l with
    | nil => intro r _; rfl
    | cons y l ih =>
      intro r h
      rw [List.cons_append, List.dropWhile_cons, if_pos (by simp [h y (List.mem_cons_self ..)])]
      exact ih r fun x hx => h x (List.mem_cons_of_mem _ hx)
  have h2 : ∀ (r : List Loc), (∀ x ∈ r, x.block ≠ bl) → (r.dropWhile fun x => decide (x.block = bl)) = r := by
    intro r h
    cases r with
    | nil => rfl
    | cons y r => rw [List.dropWhile_cons, if_neg (by simp [h y (List.mem_cons_self ..)])]
  unfold trimL
  rw [List.reverse_append, h1 _ _ (fun x hx => hC x (List.mem_reverse.1 hx)), h2 _ (fun x hx => hA x (List.mem_reverse.1 hx)), List.reverse_reverse]

theorem Sim.close (h : Sim σ ρ) (h0 : 0 < σ.blocks.length) : Sim σ.close ρ.close := by
  unfold Sc.close Rf.close
  by_cases h1 : σ.blocks.length ≤ 1
  · rw [if_pos h1, if_pos (by rw [h.bl]; omega)]; exact h
  · rw [if_neg h1, if_neg (by rw [h.bl]; omega)]
    have hlen : (σ.blocks.take (σ.blocks.length - 1)).length = σ.blocks.length - 1 := by rw [List.length_take]; omega
    refine ⟨?_, h.ty, h.tr, h.nx, ?_, fun m hm => h.uq m (List.mem_of_mem_take hm)⟩
    · show ρ.blocks - 1 = (σ.blocks.take (σ.blocks.length - 1)).length
      rw [hlen, h.bl]
    · show trimL ρ.blocks ρ.locals = locsN σ.types (σ.blocks.take (σ.blocks.length - 1)) 1
      have hlo := h.lo
      rw [split_top h0, locsN_append] at hlo
      rw [hlo]
      refine trim_app _ (fun x hx => ?_) (fun x hx => ?_)
      · obtain ⟨p, _, rfl⟩ := List.mem_map.1 hx
        show 1 + _ = ρ.blocks
        rw [h.bl, hlen]; omega
      · have := locsN_block _ _ _ _ hx
        rw [hlen] at this
        rw [h.bl]; omega

theorem Sim.twice (h : Sim σ ρ) (nm : ByteArray) : ρ.sc.twice nm = σ.twice nm := by
  unfold Sc.twice
  rw [show ρ.sc.turns = ρ.turns from rfl, h.tr]
theorem Sim.entV2 (h : Sim σ ρ) (nm : ByteArray) : Go.Proofs.Ytnjoaffnfjlcaaa.entV2 ρ.sc nm = Go.Proofs.Ytnjoaffnfjlcaaa.entV2 σ nm := by
  unfold Go.Proofs.Ytnjoaffnfjlcaaa.entV2
  rw [h.twice, show ρ.sc.next = ρ.next from rfl, h.nx]
theorem Sim.targV (h : Sim σ ρ) (nm : ByteArray) (tn : Bool) : Go.Proofs.Ytnjoaffnfjlcaaa.targV ρ.sc nm tn = Go.Proofs.Ytnjoaffnfjlcaaa.targV σ nm tn := by
  unfold Go.Proofs.Ytnjoaffnfjlcaaa.targV Sc.target Sc.targetAt
  rw [show ρ.sc.turns = ρ.turns from rfl, h.tr]
theorem Sim.enter (h : Sim σ ρ) (nm : ByteArray) (tn : Bool) : Sim (σ.enter nm tn) (ρ.enter nm tn) := by
  unfold Sc.enter Rf.enter
  rw [h.twice]
  split
  · exact h
  · refine ⟨h.bl, h.ty, ?_, ?_, h.lo, h.uq⟩
    · show ρ.turns ++ [_] = σ.turns ++ [_]
      rw [h.tr, h.nx]
    · show ρ.next + 1 = σ.next + 1
      rw [h.nx]
theorem Sim.leave (h : Sim σ ρ) : Sim σ.leave ρ.leave := by
  unfold Sc.leave Rf.leave
  rw [h.tr]
  split
  · exact h
  · exact ⟨h.bl, h.ty, rfl, h.nx, h.lo, h.uq⟩

/-! ### What a name means -/
theorem lastI_find {α : Type} (l : List α) (d : α) (q : α → Bool) : ∀ n, n ≤ l.length → (lastI (fun i => q (l.getD i d)) n).map (fun i => l.getD i d) = (l.take n).reverse.find? q
  | 0, _ => by simp [lastI]
  | n + 1, hn => by
    rw [lastI_succ, List.take_succ_eq_append_getElem (by omega), List.reverse_append, List.reverse_cons, List.reverse_nil, List.nil_append, List.singleton_append, List.find?_cons]
    have hx : l.getD n d = l[n] := by rw [List.getD_eq_getElem?_getD, List.getElem?_eq_getElem (by omega)]; rfl
    rw [hx]
    cases hq : q l[n] with
    | true => simp only [if_true, Option.map_some, hx]
    | false => simp only [Bool.false_eq_true, if_false]; exact lastI_find l d q n (by omega)

def fst2 (x : Loc) : Nat × Int := (x.slot, x.ty)

theorem find_block (tys : List Int) (i : Nat) (m : Blk) (hu : (m.map (·.1)).Nodup) (nm : ByteArray) :
    ((m.map (mkLoc tys i)).reverse.find? fun x => decide (x.name = nm)).map fst2 = (lookN m nm).map fun k => (k, tys.getD k 0) := by
  cases hl : lookN m nm with
  | none =>
    have : ((m.map (mkLoc tys i)).reverse.find? fun x => decide (x.name = nm)) = none := by
      rw [List.find?_eq_none]
      intro x hx
      obtain ⟨p, hp, rfl⟩ := List.mem_map.1 (List.mem_reverse.1 hx)
      simp only [decide_eq_true_eq]
      intro e
      have h1 : (lookN m nm).isSome = true := lookN_some_iff.2 ⟨p, hp, e⟩
      rw [hl] at h1; cases h1
    rw [this]; rfl
  | some k =>
    have hk := lookN_mem hl
    cases hf : (m.map (mkLoc tys i)).reverse.find? fun x => decide (x.name = nm) with
    | none =>
      rw [List.find?_eq_none] at hf
      exact absurd (by simp [mkLoc]) (hf (mkLoc tys i (nm, k)) (List.mem_reverse.2 (List.mem_map_of_mem hk)))
    | some x =>
      have h1 := List.find?_some hf
      have h2 := List.mem_of_find?_eq_some hf
      obtain ⟨p, hp, rfl⟩ := List.mem_map.1 (List.mem_reverse.1 h2)
      have h3 : p.1 = nm := by simpa [mkLoc] using h1
      have h4 : p.2 = k := by
        clear hf h1 h2 hl
        induction m with
        | nil => simp at hk
        | cons q m ih =>
          simp only [List.map_cons, List.nodup_cons] at hu
          rcases List.mem_cons.1 hp with e1 | e1
          · rcases List.mem_cons.1 hk with e2 | e2
            · rw [e1, ← e2]
            · exact absurd (List.mem_map_of_mem (f := (·.1)) e2) (by rw [← e1] at hu; rw [← h3]; exact hu.1)
          · rcases List.mem_cons.1 hk with e2 | e2
            · exact absurd (List.mem_map_of_mem (f := (·.1)) e1) (by rw [← e2] at hu; rw [h3]; exact hu.1)
            · exact ih hu.2 e2 e1
      simp only [Option.map_some, fst2, mkLoc, h4]

theorem find_blocks (tys : List Int) (nm : ByteArray) : ∀ (A : List Blk) (i : Nat), (∀ m ∈ A, (m.map (·.1)).Nodup) →
    ((locsN tys A i).reverse.find? fun x => decide (x.name = nm)).map fst2 = ((A.reverse.find? fun m => (lookN m nm).isSome).bind fun m => lookN m nm).map fun k => (k, tys.getD k 0)
  | [], _, _ => rfl
  | m :: A, i, hu => by
    have ih := find_blocks tys nm A (i + 1) fun m hm => hu m (List.mem_cons_of_mem _ hm)
    rw [locsN, List.reverse_append, List.reverse_cons, List.find?_append, List.find?_append]
    cases hb : A.reverse.find? fun m => (lookN m nm).isSome with
    | some m' =>
      rw [hb] at ih
      have h1 := List.find?_some hb
      obtain ⟨k, hk⟩ := Option.isSome_iff_exists.1 h1
      rw [Option.bind_some, hk, Option.map_some] at ih
      cases ha : (locsN tys A (i + 1)).reverse.find? fun x => decide (x.name = nm) with
      | none => rw [ha] at ih; simp at ih
      | some x =>
        rw [ha] at ih
        simp only [Option.some_or, Option.bind_some, hk, Option.map_some]
        exact ih
    | none =>
      rw [hb] at ih
      cases ha : (locsN tys A (i + 1)).reverse.find? fun x => decide (x.name = nm) with
      | some x => rw [ha] at ih; simp at ih
      | none =>
        simp only [Option.none_or]
        rw [find_block tys i m (hu m (List.mem_cons_self ..)) nm]
        cases hl : lookN m nm with
        | none => simp [hl]
        | some k => simp [hl]

theorem Sim.findV (h : Sim σ ρ) (nm : ByteArray) : ρ.findV nm = Go.Proofs.Ytnjoaffnfjlcaaa.findV σ nm := by
  have h1 := lastI_find ρ.locals noLoc (fun x => decide (x.name = nm)) ρ.locals.length (Nat.le_refl _)
  rw [List.take_length] at h1
  have h2 := lastI_find σ.blocks [] (fun m => (lookN m nm).isSome) σ.blocks.length (Nat.le_refl _)
  rw [List.take_length] at h2
  have h3 := find_blocks σ.types nm σ.blocks 1 h.uq
  rw [← h.lo, ← h1, ← h2] at h3
  have h4 : (ρ.findAt nm).map (fun i => fst2 (ρ.locals.getD i noLoc)) = (σ.find nm).map fun k => (k, σ.types.getD k 0) := by
    unfold Rf.findAt Sc.find Sc.findAt
    rw [Option.map_map] at h3
    rw [Option.bind_map] at h3
    exact h3
  unfold Rf.findV Go.Proofs.Ytnjoaffnfjlcaaa.findV
  cases ha : ρ.findAt nm with
  | none =>
    rw [ha] at h4
    cases hb : σ.find nm with
    | none => rfl
    | some k => rw [hb] at h4; simp at h4
  | some i =>
    rw [ha] at h4
    cases hb : σ.find nm with
    | none => rw [hb] at h4; simp at h4
    | some k =>
      rw [hb] at h4
      simp only [Option.map_some, Option.some.injEq, fst2, Prod.mk.injEq] at h4
      simp only [h4.1, h4.2]
      rfl

end Go.Proofs.Ytnjoaffnfjlcaaa

namespace Go.Proofs.Ytnjoaffnfjlcaaa
open Go Go.Proofs B

theorem locC_flat (l : List Loc) : (l.flatMap locC).all flatV = true := by
  rw [List.all_eq_true]
  intro v hv
  obtain ⟨t, _, hv⟩ := List.mem_flatMap.1 hv
  simp only [locC, List.mem_cons, List.not_mem_nil, or_false] at hv
  rcases hv with rfl | rfl | rfl | rfl <;> rfl
theorem trnC_flat (l : List Trn) : (l.flatMap trnC).all flatV = true := by
  rw [List.all_eq_true]
  intro v hv
  obtain ⟨t, _, hv⟩ := List.mem_flatMap.1 hv
  simp only [trnC, List.mem_cons, List.not_mem_nil, or_false] at hv
  rcases hv with rfl | rfl | rfl <;> rfl
theorem tyC_flat (l : List Int) : (l.map tyC).all flatV = true := by
  rw [List.all_map, List.all_eq_true]; intro t _; simp [tyC, fl_int]


set_option maxHeartbeats 4000000 in
set_option maxRecDepth 100000 in
theorem refcopy23 {ext : CallT} (hx : ∀ f args H, f ≠ 22 → ext f args H = none) {H : AHeap} (hf : H.Fresh) {b : Nat} {ρ : Rf} {F : Nat → Prop} (h : RefAt H b ρ F) (n1 : ρ.locals.length < 1000000) (n2 : ρ.types.length < 1000000) (n3 : ρ.turns.length < 1000000) :
    ∃ H' q F', theCall Try.prog ext 23 [.pointer (some ⟨b, 0, none⟩)] H = some (.ret (.pointer (some ⟨q, 0, none⟩)), H') ∧ RefAt H' q ρ F' ∧ Grown H H' ∧ (∀ j, F' j → H.next ≤ j) := by
  obtain ⟨ls, ys, us, h, rfl⟩ := h
  have hb := h.box
  have hbl : b < H.next := get_lt hf hb
  obtain ⟨q, hq⟩ : ∃ q, H.next = q := ⟨_, rfl⟩
  obtain ⟨H0, e0⟩ : ∃ X, H.push (.box [.int .i64 ρ.blocks, .slice none 0 0, .slice none 0 0, .slice none 0 0, .int .i64 ρ.next] 73) = X := ⟨_, rfl⟩
  have g0 : Grown H H0 := by rw [← e0]; exact Grown.push hf _
  have x0 : H0.get q = some (.box [.int .i64 ρ.blocks, .slice none 0 0, .slice none 0 0, .slice none 0 0, .int .i64 ρ.next] 73) := by rw [← e0, ← hq]; exact get_push_new
  have a0 : RAt H0 q ⟨ρ.blocks, [], [], [], ρ.next⟩ (.slice none 0 0) (.slice none 0 0) (.slice none 0 0) := ⟨x0, .nil, .nil, .nil⟩
  have h0 := h.grown hf g0
  have hqn : ∀ j, RFoot q (.slice none 0 0) (.slice none 0 0) (.slice none 0 0) j → j = q := by
    rintro j (e | e | e | e)
    · exact e
    · simp [idOf] at e
    · simp [idOf] at e
    · simp [idOf] at e
  -- the locals
  obtain ⟨ls', Ha, e1, o1, u1⟩ := (Own.nil (H := H0) (e := 85) (sz := 4)).appendN (i := Try.t85) (z := .agg #[.string ⟨#[]⟩, .int .i64 0, .int .i64 0, .int .i64 0]) g0.fresh rfl (by decide) rfl rfl h0.ol.elems (by have := h0.ol.length; omega) (locC_flat _) (by omega) (by show (0 + ρ.locals.length) * 40 ≤ 140737488355328; omega)
  rw [Nat.zero_add, List.nil_append] at o1
  have xa : Ha.get q = some (.box [.int .i64 ρ.blocks, .slice none 0 0, .slice none 0 0, .slice none 0 0, .int .i64 ρ.next] 73) := by
    rw [u1.frame q (by simp [sliceFoot, idOf]) (get_lt g0.fresh x0)]; exact x0
  obtain ⟨a1, v1⟩ := a0.setL g0.fresh ρ.blocks o1 u1
  dsimp only at a1 v1
  obtain ⟨H1, eh1⟩ : ∃ X, Ha.set q (.box [.int .i64 ρ.blocks, ls', .slice none 0 0, .slice none 0 0, .int .i64 ρ.next] 73) = X := ⟨_, rfl⟩
  rw [eh1] at a1 v1
  have k1 : ∀ j, j < H.next → H1.get j = H.get j := fun j hj => by rw [v1.frame j (fun e => by have := hqn j e; omega) (Nat.lt_of_lt_of_le hj g0.next)]; exact g0.get j hj
  have h1 : RAt H1 b ρ ls ys us := h.keep fun j hj => k1 j (h.lt hf hj)
  -- the types
  obtain ⟨ys', Hb, e2, o2, u2⟩ := (Own.nil (H := H1) (e := 3) (sz := 1)).appendN (i := Try.t3) (z := .int .i64 0) v1.fresh rfl (by decide) rfl rfl h1.oy.elems (by have := h1.oy.length; omega) (tyC_flat _) (by omega) (by show (0 + ρ.types.length) * 8 ≤ 140737488355328; omega)
  rw [Nat.zero_add, List.nil_append] at o2
  have xb : Hb.get q = some (.box [.int .i64 ρ.blocks, ls', .slice none 0 0, .slice none 0 0, .int .i64 ρ.next] 73) := by
    rw [u2.frame q (by simp [sliceFoot, idOf]) (get_lt v1.fresh a1.box)]; exact a1.box
  obtain ⟨a2, v2⟩ := a1.setY v1.fresh o2 u2
  dsimp only at a2 v2
  obtain ⟨H2, eh2⟩ : ∃ X, Hb.set q (.box [.int .i64 ρ.blocks, ls', ys', .slice none 0 0, .int .i64 ρ.next] 73) = X := ⟨_, rfl⟩
  rw [eh2] at a2 v2
  have f1 : ∀ j, RFoot q ls' (.slice none 0 0) (.slice none 0 0) j → H.next ≤ j := fun j hj => by
    rcases v1.foot j hj with e | e
    · have := hqn j e; omega
    · exact Nat.le_trans g0.next e
  have k2 : ∀ j, j < H.next → H2.get j = H.get j := fun j hj => by rw [v2.frame j (fun e => by have := f1 j e; omega) (Nat.lt_of_lt_of_le hj (Nat.le_trans g0.next v1.next))]; exact k1 j hj
  have h2 : RAt H2 b ρ ls ys us := h.keep fun j hj => k2 j (h.lt hf hj)
  -- the turns
  obtain ⟨us', Hc, e3, o3, u3⟩ := (Own.nil (H := H2) (e := 87) (sz := 3)).appendN (i := Try.t87) (z := .agg #[.string ⟨#[]⟩, .bool false, .int .i64 0]) v2.fresh rfl (by decide) rfl rfl h2.ou.elems (by have := h2.ou.length; omega) (trnC_flat _) (by omega) (by show (0 + ρ.turns.length) * 32 ≤ 140737488355328; omega)
  rw [Nat.zero_add, List.nil_append] at o3
  have xc : Hc.get q = some (.box [.int .i64 ρ.blocks, ls', ys', .slice none 0 0, .int .i64 ρ.next] 73) := by
    rw [u3.frame q (by simp [sliceFoot, idOf]) (get_lt v2.fresh a2.box)]; exact a2.box
  obtain ⟨a3, v3⟩ := a2.setT v2.fresh o3 u3
  dsimp only at a3 v3
  obtain ⟨H3, eh3⟩ : ∃ X, Hc.set q (.box [.int .i64 ρ.blocks, ls', ys', us', .int .i64 ρ.next] 73) = X := ⟨_, rfl⟩
  rw [eh3] at a3 v3
  have f2 : ∀ j, RFoot q ls' ys' (.slice none 0 0) j → H.next ≤ j := fun j hj => by
    rcases v2.foot j hj with e | e
    · exact f1 j e
    · exact Nat.le_trans g0.next (Nat.le_trans v1.next e)
  have k3 : ∀ j, j < H.next → H3.get j = H.get j := fun j hj => by rw [v3.frame j (fun e => by have := f2 j e; omega) (Nat.lt_of_lt_of_le hj (Nat.le_trans g0.next (Nat.le_trans v1.next v2.next)))]; exact k2 j hj
  have n03 : H.next ≤ H3.next := Nat.le_trans g0.next (Nat.le_trans v1.next (Nat.le_trans v2.next v3.next))
  refine ⟨H3, q, _, ?_, ⟨ls', ys', us', a3, rfl⟩, ⟨k3, n03, v3.fresh⟩, fun j hj => ?_⟩
  · have c1 := o1.vcells
    have c2 := o1.flat
    have c3 := o2.vcells
    have c4 := o2.flat
    have c5 := o3.vcells
    have c6 := o3.flat
    have s0 := h0.box
    have s1 := h1.box
    have s2 := h2.box
    have y1 := a1.box
    have y2 := a2.box
    refine theCall_run (hx _ _ _ (by decide)) Try.func23 (rs := [.tmp 2]) rfl rfl rfl (by simp) fun tm hl hi => ?_
    replace hl : tm.length = 51 := hl
    have i0 := hi 0
    simp only [List.getD_cons_zero] at i0
    simp only [theCode_seq, theCode_list]
    simp (config := { decide := true }) only [theCode_ret, evalList_plain, evalList_nil, nd_move, nd_assign, ok_tmp, ok_const, cl_ptr, opA_move, opA_assign, contA_val, putT_some, aev_tmp, aev_const, thenA_normal]
    rw [theCode_text (by kernel_rfl)]
    simp (config := { decide := true }) only [evalList_plain, evalList_nil, nd_move, nd_assign, nd_box, nd_build, nd_load, nd_nilCheck, nd_fieldAddr, ok_tmp, opA_move, opA_assign, opA_load, opA_nilCheck, opA_fieldAddr, opA_build, opA_box, contA_val, putT_some, aev_tmp, rd_same, rd_ne, List.length_set, valA_some, thenA_normal, loadS_ptr, nilCheckS_ptr, fieldAddrS_eq, List.getElem?_cons_zero, List.getElem?_cons_succ, Option.map_some, ne_eq, Nat.reduceLT, Nat.zero_add, List.map_cons, List.map_nil, List.all_cons, List.all_nil, Bool.and_true, dropP_normal, hl, i0, off73_0, off73_4, agg3, loadV_flat, cell_eq, hb, cellO_box, build73, zf73, info73, vc_agg, fl_slice, fl_int, hq, e0]
    rw [theCode_text (by kernel_rfl)]
    simp (config := { decide := true }) only [evalList_plain, evalList_nil, nd_move, nd_load, nd_store, nd_nilCheck, nd_fieldAddr, nd_call, ok_tmp, opA_move, opA_load, opA_store, opA_nilCheck, opA_fieldAddr, opA_appendS, contA_val, contA_skip, putT_some, putT_none, aev_tmp, rd_same, rd_ne, List.length_set, valA_some, skipA_some, pairA_some,
    thenA_normal, loadS_ptr, storeS_ptr, nilCheckS_ptr, fieldAddrS_eq, List.getElem?_cons_zero, List.getElem?_cons_succ, Option.map_some, Option.isSome_some, ne_eq, Nat.reduceLT, Nat.reduceAdd, Nat.zero_add, dropP_normal, hl, i0, off73_1, agg70, info70, cells70, loadV_flat, storeV_flat, setCell_eq, setCellO_box, cell_eq, s0, x0, xa, cellO_box, appendS_of sli70, sli70, e1, c1, c2, eh1, Option.getD_none, List.set_cons_zero, List.set_cons_succ, List.length_cons, List.length_nil]
    rw [theCode_text (by kernel_rfl)]
    simp (config := { decide := true }) only [evalList_plain, evalList_nil, nd_move, nd_load, nd_store, nd_nilCheck, nd_fieldAddr, nd_call, ok_tmp, opA_move, opA_load, opA_store, opA_nilCheck, opA_fieldAddr, opA_appendS, contA_val, contA_skip, putT_some, putT_none, aev_tmp, rd_same, rd_ne, List.length_set, valA_some, skipA_some, pairA_some,
    thenA_normal, loadS_ptr, storeS_ptr, nilCheckS_ptr, fieldAddrS_eq, List.getElem?_cons_zero, List.getElem?_cons_succ, Option.map_some, Option.isSome_some, ne_eq, Nat.reduceLT, Nat.reduceAdd, Nat.zero_add, dropP_normal, hl, i0, off73_2, agg32, info32, cells32, loadV_flat, storeV_flat, setCell_eq, setCellO_box, cell_eq, s1, y1, xb, cellO_box, appendS_of sli32, sli32, e2, c3, c4, eh2, Option.getD_none, List.set_cons_zero, List.set_cons_succ, List.length_cons, List.length_nil]
    rw [theCode_text (by kernel_rfl)]
    simp (config := { decide := true }) only [evalList_plain, evalList_nil, nd_move, nd_load, nd_store, nd_nilCheck, nd_fieldAddr, nd_call, ok_tmp, opA_move, opA_load, opA_store, opA_nilCheck, opA_fieldAddr, opA_appendS, contA_val, contA_skip, putT_some, putT_none, aev_tmp, rd_same, rd_ne, List.length_set, valA_some, skipA_some, pairA_some,
    thenA_normal, loadS_ptr, storeS_ptr, nilCheckS_ptr, fieldAddrS_eq, leaveR_ret, resA_tmp, resA_nil, List.getElem?_cons_zero, List.getElem?_cons_succ, pack_one, Option.map_some, Option.isSome_some, ne_eq, Nat.reduceLT, Nat.reduceAdd, Nat.zero_add, dropP_normal, hl, i0, off73_3, agg71, info71, cells71, loadV_flat, storeV_flat, setCell_eq, setCellO_box, cell_eq, s2, y2, xc, cellO_box, appendS_of sli71, sli71, e3, c5, c6, eh3, Option.getD_none, List.set_cons_zero, List.set_cons_succ, List.length_cons, List.length_nil]
  · rcases v3.foot j hj with e | e
    · exact f2 j e
    · exact Nat.le_trans g0.next (Nat.le_trans v1.next (Nat.le_trans v2.next e))

end Go.Proofs.Ytnjoaffnfjlcaaa

namespace Go.Proofs.Ytnjoaffnfjlcaaa
open Go Go.Proofs B


set_option maxHeartbeats 4000000 in
set_option maxRecDepth 100000 in
theorem spoil44 {ext : CallT} (hx : ∀ f args H, f ≠ 22 → ext f args H = none) {H : AHeap} (hf : H.Fresh) {v : Value} {n : Nat} {cells : List Value} (ho : Own H 3 1 v n cells) (hn : n < 1000000) :
    ∃ H', theCall Try.prog ext 44 [v] H = some (.ret (.tuple #[]), H') ∧ (∀ j, idOf v ≠ some j → j < H.next → H'.get j = H.get j) ∧ H.next ≤ H'.next ∧ H'.Fresh := by
  refine theCall_goal (F := fun z => ∃ H', z = some (.ret (.tuple #[]), H') ∧ (∀ j, idOf v ≠ some j → j < H.next → H'.get j = H.get j) ∧ H.next ≤ H'.next ∧ H'.Fresh) (hx _ _ _ (by decide)) Try.func44 (rs := []) rfl rfl rfl (by simp) fun tm hl hi => ?_
  replace hl : tm.length = 22 := hl
  have i0 := hi 0
  simp only [List.getD_cons_zero] at i0
  simp (config := { decide := true }) only [theCode_seq, theCode_list, theCode_block, evalList_plain, evalList_nil, nd_move, nd_assign, ok_tmp, ok_const, cl_int, opA_move, opA_assign, contA_val, putT_some, aev_tmp, aev_const, thenA_normal, ne_eq]
  refine loop_goal (F := fun z => ∃ H', leaveR Try.prog [] (thenA (inBlockA 0 z) _) = some (.ret (.tuple #[]), H') ∧ (∀ j, idOf v ≠ some j → j < H.next → H'.get j = H.get j) ∧ H.next ≤ H'.next ∧ H'.Fresh)
    (fun k s => ∃ tm Hk i cs, s = ⟨tm, [], Hk⟩ ∧ i + k = n ∧ Own Hk 3 1 v n cs ∧ (∀ j, idOf v ≠ some j → Hk.get j = H.get j) ∧ Hk.next = H.next ∧ Hk.Fresh ∧ tm.length = 22 ∧ tm.getD 0 undef = v ∧ tm.getD 2 undef = .int .i64 (i : Nat))
    (fun x s => x = .exit 0 ∧ ∃ tm Hk cs, s = ⟨tm, [], Hk⟩ ∧ Own Hk 3 1 v n cs ∧ (∀ j, idOf v ≠ some j → Hk.get j = H.get j) ∧ Hk.next = H.next ∧ Hk.Fresh ∧ tm.length = 22 ∧ tm.getD 0 undef = v) n ?_ ?_ ?_
  · refine ⟨_, H, 0, cells, rfl, Nat.zero_add _, ho, fun _ _ => rfl, rfl, hf, ?_, ?_, ?_⟩
    · simp only [List.length_set, hl]
    all_goals simp (config := { decide := true }) only [rd_ne, rd_same, hl, ne_eq, i0]
    rfl
  · rintro k _ ⟨tm, Hk, i, cs, rfl, hik, ho, hfr, hnx, hfk, hl, i0, i2⟩
    have c3 := fun H2 => ho.lenS isl32 H2
    cases k with
    | zero =>
      right
      have hlt : ¬ ((i : Int) < (n : Int)) := by omega
      refine ⟨?x0, ?s0, ?h0, ?hx0, ?hq0⟩
      case h0 =>
        simp (config := { decide := true }) only [theCode_seq, theCode_list, theCode_exit, theCode_if, evalList_plain, evalList_nil, nd_move, nd_binOp, nd_call, ok_tmp, opA_move, opA_bin, opA_len, contA_val, putT_some, aev_tmp, rd_same, rd_ne, List.length_set, thenA_normal, thenA_exit, boolOf_bool, bin_lss, Option.isSome_some, ne_eq, ↓reduceIte, Nat.reduceLT, Option.some.injEq, decide_false, hl, i0, i2, c3, hlt]
        rfl
      case hx0 => exact fun h => by cases h
      case hq0 =>
        refine ⟨rfl, _, Hk, cs, rfl, ho, hfr, hnx, hfk, by simp only [List.length_set, hl], ?_⟩
        simp (config := { decide := true }) only [rd_ne, ne_eq, i0]
    | succ k =>
      left
      have hlt : (i : Int) < (n : Int) := by omega
      have hw : IntKind.i64.wrap ((i : Int) + 1) = ((i + 1 : Nat) : Int) := by rw [IntWalk.i64_in _ (by omega)]; omega
      have hix := fun H2 => indexAddrS_own (P := Try.prog) (t := 32) (j := (i : Int)) (k := .i64) ho (by omega) hlt es32 H2
      simp only [Int.toNat_natCast] at hix
      obtain ⟨H1, e1, o1, n1, f1⟩ := ho.set1 (o := i * 1) (x := .int .i64 (-777)) (by omega) rfl
      refine ⟨?s1, ?h1, k, Nat.lt_succ_self _, ?q1⟩
      case h1 =>
        simp (config := { decide := true }) only [theCode_seq, theCode_list, theCode_skip, theCode_block, theCode_if, evalList_plain, evalList_nil, nd_move, nd_assign, nd_store, nd_binOp, nd_indexAddr, nd_call, ok_tmp, ok_const, cl_int, opA_move, opA_assign, opA_store, opA_bin, opA_len, opA_indexAddr, contA_val, contA_skip, putT_some, putT_none, aev_tmp, aev_const, rd_same, rd_ne, List.length_set, skipA_some, thenA_normal, inBlockA_normal, boolOf_bool, storeS_ptr, bin_lss, bin_add, Option.isSome_some, ne_eq, ↓reduceIte, Nat.reduceLT, Option.some.injEq, decide_true, hl, i0, i2, c3, hlt, hix, sli32, storeV_flat, cells3, info3, vc_int, e1, hw]
        rfl
      case q1 =>
        refine ⟨_, H1, i + 1, _, rfl, by omega, o1, fun j hj => by rw [f1 j hj]; exact hfr j hj, by rw [n1]; exact hnx, fun j hj => ?_, by simp only [List.length_set, hl], ?_, ?_⟩
        · rw [n1] at hj
          rw [f1 j (fun e => by have := ho.id_lt hfk j e; omega)]
          exact hfk j hj
        all_goals simp (config := { decide := true }) only [rd_ne, rd_same, List.length_set, hl, ne_eq, i0]
  · rintro x _ hx' ⟨rfl, tm, Hk, cs, rfl, ho, hfr, hnx, hfk, hl, i0⟩
    simp (config := { decide := true }) only [rd_same, thenA_normal, inBlockA_exit, ne_eq, ↓reduceIte, Nat.reduceLT, hl, i0]
    refine loop_goal (F := fun z => ∃ H', leaveR Try.prog [] (inBlockA 2 z) = some (.ret (.tuple #[]), H') ∧ (∀ j, idOf v ≠ some j → j < H.next → H'.get j = H.get j) ∧ H.next ≤ H'.next ∧ H'.Fresh)
      (fun k s => ∃ tm Hm i w m cs, s = ⟨tm, [], Hm⟩ ∧ i + k = 8 ∧ m ≤ n + i ∧ Own Hm 3 1 w m cs ∧ Upd Hk (sliceFoot v) Hm (sliceFoot w) ∧ tm.length = 22 ∧ tm.getD 3 undef = w ∧ tm.getD 4 undef = .int .i64 (i : Nat))
      (fun x s => x = .exit 2 ∧ ∃ tm Hm w, s = ⟨tm, [], Hm⟩ ∧ Upd Hk (sliceFoot v) Hm (sliceFoot w) ∧ tm.length = 22) 8 ?_ ?_ ?_
    · refine ⟨_, Hk, 0, v, n, cs, rfl, rfl, Nat.le_refl _, ho, (Grown.refl hfk).upd _, ?_, ?_, ?_⟩
      · simp only [List.length_set, hl]
      all_goals simp (config := { decide := true }) only [rd_ne, rd_same, List.length_set, hl, ne_eq]
      rfl
    · rintro k _ ⟨tm, Hm, i, w, m, cs, rfl, hik, hmn, ho, hu, hl, i3, i4⟩
      cases k with
      | zero =>
        right
        have hlt : ¬ ((i : Int) < 8) := by omega
        refine ⟨?y0, ?t0, ?g0, ?gx0, ?gq0⟩
        case g0 =>
          simp (config := { decide := true }) only [theCode_seq, theCode_list, theCode_exit, theCode_if, evalList_plain, evalList_nil, nd_move, nd_binOp, ok_tmp, ok_const, cl_int, opA_move, opA_bin, contA_val, putT_some, aev_tmp, aev_const, rd_same, List.length_set, thenA_normal, thenA_exit, boolOf_bool, bin_lss, Option.isSome_some, ↓reduceIte, Nat.reduceLT, Option.some.injEq, decide_false, hl, i4, hlt]
          rfl
        case gx0 => exact fun h => by cases h
        case gq0 => exact ⟨rfl, _, Hm, w, rfl, hu, by simp only [List.length_set, hl]⟩
      | succ k =>
        left
        have hlt : (i : Int) < 8 := by omega
        have hw : IntKind.i64.wrap ((i : Int) + 1) = ((i + 1 : Nat) : Int) := by rw [IntWalk.i64_in _ (by omega)]; omega
        obtain ⟨w', H1, e1, o1, u1⟩ := ho.append1U (xs := [.int .i64 (-778)]) (i := Try.t3) (z := .int .i64 0) hu.fresh rfl (by decide) rfl rfl rfl rfl (by omega) (by show (m + 1) * 8 ≤ 140737488355328; omega)
        simp only [List.length_cons, List.length_nil, Nat.zero_add] at e1
        refine ⟨?t1, ?g1, k, Nat.lt_succ_self _, ?gq1⟩
        case g1 =>
          simp (config := { decide := true }) only [theCode_seq, theCode_list, theCode_skip, theCode_block, theCode_if, evalList_plain, evalList_nil, nd_move, nd_assign, nd_buildSlice, nd_binOp, nd_call, ok_tmp, ok_const, cl_int, opA_move, opA_assign, opA_bin, opA_appendS, contA_val, putT_some, aev_tmp, aev_const, rd_same, rd_ne, List.length_set, pairA_some,
    thenA_normal, inBlockA_normal, boolOf_bool, bin_lss, bin_add, Option.isSome_some, ne_eq, ↓reduceIte, Nat.reduceLT, Nat.zero_add, Option.some.injEq, List.all_cons, List.all_nil, Bool.and_true, decide_true, hl, i3, i4, hlt, opA_build1F, b1_32, es32, vc_int, fl_int, appendS_of sli32, build1S_of sli32, e1, sli32, hw, List.length_cons, List.length_nil, List.size_toArray]
          rfl
        case gq1 =>
          refine ⟨_, H1, i + 1, w', m + 1, _, rfl, by omega, by omega, o1, hu.trans u1, ?_, ?_, ?_⟩
          · simp only [List.length_set, hl]
          all_goals simp (config := { decide := true }) only [rd_ne, rd_same, List.length_set, hl, ne_eq]
    · rintro x _ hx' ⟨rfl, tm, Hm, w, rfl, hu, hl⟩
      refine ⟨Hm, ?_, fun j hj hlt => ?_, ?_, hu.fresh⟩
      · simp (config := { decide := true }) only [inBlockA_exit, leaveR_normal, resA_nil, pack_none,
    Option.map_some, ↓reduceIte]
      · rw [hu.frame j hj (by rw [hnx]; exact hlt)]; exact hfr j hj
      · rw [← hnx]; exact hu.next


set_option maxHeartbeats 4000000 in
set_option maxRecDepth 100000 in
theorem tells25 {ext : CallT} (hx : ∀ f args H, f ≠ 22 → ext f args H = none) {H : AHeap} (hf : H.Fresh) {b r : Nat} {σ : Sc} {ρ : Rf} {F G : Nat → Prop} (hS : ScopeAt H b σ F) (hR : RefAt H r ρ G) (he : ρ.types = σ.types) (hn : σ.types.length < 1000000) :
    ∃ H', theCall Try.prog ext 25 [.pointer (some ⟨b, 0, none⟩), .pointer (some ⟨r, 0, none⟩)] H = some (.ret (.bool true), H') ∧ Grown H H' := by
  obtain ⟨v, H1, e1, o1, g1, n1⟩ := slots12 (ext := ext) hx hf hS hn
  have hR1 := hR.grown hf g1
  obtain ⟨ls, ys, us, hA1, _⟩ := hR1
  have hoy : Own H1 3 1 ys σ.types.length (σ.types.map tyC) := by rw [← he]; exact hA1.oy
  have e2 := same19 (ext := ext) hx o1 hoy hn
  obtain ⟨H2, e3, f3, n3, fr3⟩ := spoil44 (ext := ext) hx g1.fresh o1 hn
  have g2 : Grown H H2 := ⟨fun j hj => by rw [f3 j (fun e => by have := n1 j e; omega) (Nat.lt_of_lt_of_le hj g1.next)]; exact g1.get j hj, Nat.le_trans g1.next n3, fr3⟩
  have hS2 := hS.grown hf g2
  obtain ⟨ls2, ys2, us2, hA2, _⟩ := hR.grown hf g2
  obtain ⟨w, H3, e4, o4, g4, n4⟩ := slots12 (ext := ext) hx fr3 hS2 hn
  have hA3 := hA2.grown fr3 g4
  have hoy3 : Own H3 3 1 ys2 σ.types.length (σ.types.map tyC) := by rw [← he]; exact hA3.oy
  have e5 := same19 (ext := ext) hx o4 hoy3 hn
  have b1 := hA1.box
  have b2 := hA2.box
  have b3 := hA3.box
  refine ⟨H3, ?_, g2.trans g4⟩
  refine theCall_run (hx _ _ _ (by decide)) Try.func25 (rs := [.tmp 4]) rfl rfl rfl (by simp) fun tm hl hi => ?_
  replace hl : tm.length = 24 := hl
  have i0 := hi 0
  have i1 := hi 1
  simp only [List.getD_cons_zero, List.getD_cons_succ] at i0 i1
  simp (config := { decide := true }) only [theCode_seq, theCode_list, theCode_skip, theCode_ret, theCode_if, evalList_plain, evalList_nil, nd_move, nd_assign, nd_load, nd_nilCheck, nd_unOp, nd_fieldAddr, nd_call, ok_tmp, ok_const, ok_func, cl_bool, opA_move, opA_assign, opA_load, opA_nilCheck, opA_fieldAddr, opA_un, opA_call, contA_val, contA_enter, callA_ret, putT_some, aev_tmp, aev_const, aev_func, rd_same, rd_ne, List.length_set, valA_some, thenA_normal, boolOf_bool, loadS_ptr, nilCheckS_ptr, fieldAddrS_eq, un_not,
    callS_func, List.getElem?_cons_zero, List.getElem?_cons_succ, Option.map_some, Option.isSome_some, ne_eq, ↓reduceIte, Nat.reduceLT, Nat.zero_add, Option.some.injEq, List.map_cons, List.map_nil, List.all_cons, List.all_nil, Bool.and_true, List.nil_append, List.append_nil, hl, i0, i1, en12, e1, off73_2, agg32, loadV_flat, cell_eq, b1, cellO_box, en19, e2, Bool.not_true, en44, e3]
  rw [theCode_draw]
  generalize hX : List.set _ 16 (Value.tuple #[]) = tmX
  replace hl : tmX.length = 24 := by rw [← hX]; simp only [List.length_set, hl]
  replace i0 : tmX.getD 0 undef = .pointer (some ⟨b, 0, none⟩) := by rw [← hX]; simp (config := { decide := true }) only [rd_ne, ne_eq, i0]
  replace i1 : tmX.getD 1 undef = .pointer (some ⟨r, 0, none⟩) := by rw [← hX]; simp (config := { decide := true }) only [rd_ne, ne_eq, i1]
  clear hX
  refine draw_use (F := fun z => leaveR Try.prog [.tmp 4] (thenA z fun s1 => some (AExit.ret, s1)) = some (AEnd.ret (Value.bool true), H3)) (plan := [0, 2, 3, 4, 5, 1, 6, 7]) (x := .normal) (s' := ⟨((((((((((((((((tmX).set 17 (.pointer (some ⟨b, 0, none⟩)))).set 19 (.pointer (some ⟨r, 0, none⟩)))).set 20 (.pointer (some ⟨r, 0, none⟩)))).set 21 (.pointer (some ⟨r, 2, none⟩)))).set 22 (ys2))).set 18 (w))).set 23 (.bool true))).set 4 (.bool true)), [], H3⟩) (by kernel_rfl) ?_ ?_
  · refine planR_pure (v := .pointer (some ⟨b, 0, none⟩)) rfl rfl (by simp (config := { decide := true }) only [ok_tmp, opA_move, aev_tmp, i0]) ?_
    refine planR_pure (v := .pointer (some ⟨r, 0, none⟩)) rfl rfl (by simp (config := { decide := true }) only [ok_tmp, opA_move, putT_some, aev_tmp, rd_ne, ne_eq, i1]) ?_
    refine planR_pure (v := .pointer (some ⟨r, 0, none⟩)) rfl rfl (by simp (config := { decide := true }) only [ok_tmp, opA_nilCheck, putT_some, aev_tmp, rd_same, List.length_set, nilCheckS_ptr, Nat.reduceLT, hl]) ?_
    refine planR_pure (v := .pointer (some ⟨r, 2, none⟩)) rfl rfl (by simp (config := { decide := true }) only [ok_tmp, opA_fieldAddr, putT_some, aev_tmp, rd_same, List.length_set, fieldAddrS_eq, Option.map_some, Nat.reduceLT, Nat.zero_add, hl, off73_2]) ?_
    refine planR_keep (H' := H2) (v := ys2) rfl (.inl rfl) (by simp (config := { decide := true }) only [ok_tmp, opA_load, putT_some, aev_tmp, rd_same, List.length_set, valA_some, loadS_ptr, List.getElem?_cons_zero, List.getElem?_cons_succ, Nat.reduceLT, hl, agg32, loadV_flat, cell_eq, cellO_box, b2]) ?_
    refine planR_call (v := w) (H' := H3) (f := 12) (args := [.pointer (some ⟨b, 0, none⟩)]) (R' := [⟨5, ⟨some 22, .load 32 (.tmp 21), 32, "law.go:53", #[⟨4, .data⟩], none⟩, ((((((((tmX).set 17 (.pointer (some ⟨b, 0, none⟩)))).set 19 (.pointer (some ⟨r, 0, none⟩)))).set 20 (.pointer (some ⟨r, 0, none⟩)))).set 21 (.pointer (some ⟨r, 2, none⟩))), H2, ys2, H2, true⟩]) rfl rfl (by simp (config := { decide := true }) only [ok_tmp, ok_func, opA_call, putT_some, aev_tmp, aev_func, rd_same, rd_ne, callS_func, ne_eq, Nat.reduceLT, List.map_cons, List.map_nil, List.all_cons, List.all_nil, Bool.and_true, List.nil_append, List.append_nil, hl, en12]) e4 ?hr1 ?_
    case hr1 =>
      intro t ht
      obtain rfl := List.mem_singleton.1 ht
      refine ⟨same_read rfl ?_, .inr (List.mem_cons_self ..)⟩
      simp (config := { decide := true }) only [ok_tmp, opA_load, putT_some, aev_tmp, rd_same, List.length_set, valA_some, loadS_ptr, List.getElem?_cons_zero, List.getElem?_cons_succ, Nat.reduceLT, hl, agg32, loadV_flat, cell_eq, cellO_box, b2]
    refine planR_call (v := .bool true) (H' := H3) (f := 19) (args := [w, ys2]) (R' := []) rfl rfl (by simp (config := { decide := true }) only [ok_tmp, ok_func, opA_call, putT_some, aev_tmp, aev_func, rd_same, rd_ne, List.length_set, callS_func, ne_eq, Nat.reduceLT, List.map_cons, List.map_nil, List.all_cons, List.all_nil, Bool.and_true, List.nil_append, List.append_nil, hl, en19]) e5 ?hr2 ?_
    case hr2 =>
      intro t ht
      obtain rfl := List.mem_singleton.1 ht
      refine ⟨same_read rfl ?_, .inl (by kernel_rfl)⟩
      simp (config := { decide := true }) only [ok_tmp, opA_load, aev_tmp, rd_same, List.length_set, valA_some, loadS_ptr, List.getElem?_cons_zero, List.getElem?_cons_succ, Nat.reduceLT, hl, agg32, loadV_flat, cell_eq, cellO_box, b3]
    refine planR_pure (v := .bool true) rfl rfl (by simp (config := { decide := true }) only [ok_tmp, opA_assign, putT_some, aev_tmp, rd_same, List.length_set, Nat.reduceLT, hl]) ?_
    exact planR_nil (fun t ht => by cases ht)
  · simp (config := { decide := true }) only [rd_same, List.length_set, thenA_normal, leaveR_ret, resA_tmp, resA_nil, pack_one, Option.map_some, Nat.reduceLT, hl]

end Go.Proofs.Ytnjoaffnfjlcaaa

namespace Go.Proofs.Ytnjoaffnfjlcaaa
open Go Go.Proofs B

def Two (H : AHeap) (b r : Nat) (σ : Sc) (ρ : Rf) (A : Nat → Prop) : Prop := ∃ F G, ScopeAt H b σ F ∧ RefAt H r ρ G ∧ (∀ j, F j → ¬ G j) ∧ ∀ j, A j ↔ F j ∨ G j

variable {H H' : AHeap} {b r : Nat} {σ σ' : Sc} {ρ ρ' : Rf} {A : Nat → Prop}

theorem Two.lt (h : Two H b r σ ρ A) (hf : H.Fresh) {j : Nat} (hj : A j) : j < H.next := by
  obtain ⟨F, G, h1, h2, _, h4⟩ := h
  rcases (h4 j).1 hj with e | e
  · exact h1.lt hf e
  · exact h2.lt hf e

theorem Two.keep (h : Two H b r σ ρ A) (hk : ∀ j, A j → H'.get j = H.get j) : Two H' b r σ ρ A := by
  obtain ⟨F, G, h1, h2, h3, h4⟩ := h
  exact ⟨F, G, h1.keep fun j hj => hk j ((h4 j).2 (.inl hj)), h2.keep fun j hj => hk j ((h4 j).2 (.inr hj)), h3, h4⟩

theorem Two.grown (h : Two H b r σ ρ A) (hf : H.Fresh) (g : Grown H H') : Two H' b r σ ρ A := h.keep fun j hj => g.get j (h.lt hf hj)

/-- The scope turns. -/
theorem Two.left (h : Two H b r σ ρ A) (hf : H.Fresh) : ∃ F, ScopeAt H b σ F ∧ ∀ H' σ' F', ScopeAt H' b σ' F' → Upd H F H' F' → ∃ A', Two H' b r σ' ρ A' ∧ Upd H A H' A' := by
  obtain ⟨F, G, h1, h2, h3, h4⟩ := h
  refine ⟨F, h1, fun H' σ' F' hs hu => ⟨fun j => F' j ∨ G j, ⟨F', G, hs, h2.keep fun j hj => hu.frame j (fun e => h3 j e hj) (h2.lt hf hj), fun j e1 e2 => ?_, fun j => Iff.rfl⟩, ?_⟩⟩
  · rcases hu.foot j e1 with e | e
    · exact h3 j e e2
    · have := h2.lt hf e2; omega
  · refine ⟨fun j hj hlt => hu.frame j (fun e => hj ((h4 j).2 (.inl e))) hlt, fun j hj => ?_, hu.fresh, hu.next⟩
    rcases hj with e | e
    · exact (hu.foot j e).imp (fun e => (h4 j).2 (.inl e)) id
    · exact .inl ((h4 j).2 (.inr e))

/-- The document's turns. -/
theorem Two.right (h : Two H b r σ ρ A) (hf : H.Fresh) : ∃ G, RefAt H r ρ G ∧ ∀ H' ρ' G', RefAt H' r ρ' G' → Upd H G H' G' → ∃ A', Two H' b r σ ρ' A' ∧ Upd H A H' A' := by
  obtain ⟨F, G, h1, h2, h3, h4⟩ := h
  refine ⟨G, h2, fun H' ρ' G' hs hu => ⟨fun j => F j ∨ G' j, ⟨F, G', h1.keep fun j hj => hu.frame j (fun e => h3 j hj e) (h1.lt hf hj), hs, fun j e1 e2 => ?_, fun j => Iff.rfl⟩, ?_⟩⟩
  · rcases hu.foot j e2 with e | e
    · exact h3 j e1 e
    · have := h1.lt hf e1; omega
  · refine ⟨fun j hj hlt => hu.frame j (fun e => hj ((h4 j).2 (.inr e))) hlt, fun j hj => ?_, hu.fresh, hu.next⟩
    rcases hj with e | e
    · exact .inl ((h4 j).2 (.inl e))
    · exact (hu.foot j e).imp (fun e => (h4 j).2 (.inr e)) id

def playS (σ : Sc) (x : Stp) : Sc :=
  if x.kind % 9 = 0 then σ.open' else if x.kind % 9 = 1 then σ.close else if x.kind % 9 = 2 then σ.decl x.name x.ty else if x.kind % 9 = 3 then σ else if x.kind % 9 = 4 then σ.enter x.name x.turns else if x.kind % 9 = 5 then σ.leave else σ
def playR (ρ : Rf) (x : Stp) : Rf :=
  if x.kind % 9 = 0 then ρ.open' else if x.kind % 9 = 1 then ρ.close else if x.kind % 9 = 2 then ρ.decl x.name x.ty else if x.kind % 9 = 3 then ρ else if x.kind % 9 = 4 then ρ.enter x.name x.turns else if x.kind % 9 = 5 then ρ.leave else ρ

/-- Both, and their sizes. -/
structure Pair (σ : Sc) (ρ : Rf) (n : Nat) : Prop where
  sim : Sim σ ρ
  wf : σ.wf n
  ll : ρ.locals.length ≤ n

theorem Pair.up {n m : Nat} (h : Pair σ ρ n) (hm : n ≤ m) : Pair σ ρ m := ⟨h.sim, h.wf.up hm, Nat.le_trans h.ll hm⟩

theorem trimL_len (bl : Nat) (l : List Loc) : (trimL bl l).length ≤ l.length := by
  unfold trimL
  rw [List.length_reverse]
  have := (List.dropWhile_sublist (l := l.reverse) fun x => decide (x.block = bl)).length_le
  rwa [List.length_reverse] at this

theorem Pair.play {n : Nat} (h : Pair σ ρ n) (x : Stp) : Pair (playS σ x) (playR ρ x) (n + 1) := by
  unfold playS playR
  split
  · exact ⟨h.sim.open', wf_open h.wf, Nat.le_succ_of_le h.ll⟩
  split
  · refine ⟨h.sim.close h.wf.pos, (wf_close h.wf).up (Nat.le_succ _), ?_⟩
    unfold Rf.close
    split
    · exact Nat.le_succ_of_le h.ll
    · exact Nat.le_succ_of_le (Nat.le_trans (trimL_len _ _) h.ll)
  split
  · refine ⟨h.sim.decl h.wf.pos h.wf.ok _ _, wf_decl h.wf _ _, ?_⟩
    unfold Rf.decl
    split
    · show (ρ.locals ++ [_]).length ≤ n + 1
      rw [List.length_append]; exact Nat.succ_le_succ h.ll
    · exact Nat.le_succ_of_le h.ll
  split
  · exact h.up (Nat.le_succ _)
  split
  · refine ⟨h.sim.enter _ _, wf_enter h.wf _ _, ?_⟩
    unfold Rf.enter
    split
    · exact Nat.le_succ_of_le h.ll
    · exact Nat.le_succ_of_le h.ll
  split
  · refine ⟨h.sim.leave, (wf_leave h.wf).up (Nat.le_succ _), ?_⟩
    unfold Rf.leave
    split
    · exact Nat.le_succ_of_le h.ll
    · exact Nat.le_succ_of_le h.ll
  · exact h.up (Nat.le_succ _)

theorem pair0 : Pair sc0 rf0 0 := ⟨sim0, wf_sc0, Nat.le_refl _⟩

/-! ### The answers as they are built -/
theorem findV_form (σ : Sc) (nm : ByteArray) : ∃ a t ok, findV σ nm = .tuple #[.int .i64 a, .int .i64 t, .bool ok] := by
  unfold findV
  split
  · exact ⟨_, _, _, rfl⟩
  · exact ⟨_, _, _, rfl⟩
theorem entV2_form (σ : Sc) (nm : ByteArray) : ∃ a e, entV2 σ nm = .tuple #[.int .i64 a, .int .i64 e] := by
  unfold entV2
  split
  · exact ⟨_, _, rfl⟩
  · exact ⟨_, _, rfl⟩
theorem targV_form (σ : Sc) (nm : ByteArray) (tn : Bool) : ∃ a e, targV σ nm tn = .tuple #[.int .i64 a, .int .i64 e] := by
  unfold targV
  split
  · exact ⟨_, _, rfl⟩
  · exact ⟨_, _, rfl⟩
theorem declV_form (σ : Sc) (nm : ByteArray) : ∃ a e, declV σ nm = .tuple #[.int .i64 a, .int .i64 e] := ⟨_, _, rfl⟩

end Go.Proofs.Ytnjoaffnfjlcaaa

namespace Go.Proofs.Ytnjoaffnfjlcaaa
open Go Go.Proofs B

theorem und4 : Program.underlying Try.prog 4 = some .bool := und_of Try.underlying4


set_option maxHeartbeats 8000000 in
set_option maxRecDepth 100000 in
theorem plays24_0 {ext : CallT} (hx : ∀ f args H, f ≠ 22 → ext f args H = none) {H : AHeap} (hf : H.Fresh) {b r : Nat} {σ : Sc} {ρ : Rf} {A : Nat → Prop} (h : Two H b r σ ρ A) {n : Nat} (hp : Pair σ ρ n) (hn : n < 100000) (x : Stp) (hc : x.kind % 9 = 0) :
    ∃ H' A', theCall Try.prog ext 24 [.pointer (some ⟨b, 0, none⟩), .pointer (some ⟨r, 0, none⟩), .agg (stpC x).toArray] H = some (.ret (.bool true), H') ∧ Two H' b r (σ.open') (ρ.open') A' ∧ Upd H A H' A' := by
  obtain ⟨hs, hw, hll⟩ := hp
  have w1 := hw.bl
  have w2 := hw.tl
  have w3 := hw.yl
  have w4 := hw.nx
  have w5 := hw.pos
  obtain ⟨H1, e0⟩ : ∃ X, H.push (.box (stpC x) 38) = X := ⟨_, rfl⟩
  have g0 : Grown H H1 := by rw [← e0]; exact Grown.push hf _
  have x0 : H1.get H.next = some (.box (stpC x) 38) := by rw [← e0]; exact get_push_new
  have z0 : (Value.agg (stpC x).toArray).cells.toList = stpC x := by rw [vc_agg]
  have hA1 := h.grown hf g0
  have x1 : ∀ H2, Upd H1 A H2 A → H2.get H.next = some (.box (stpC x) 38) := fun H2 u => by
    rw [u.frame H.next (fun e => by have := h.lt hf e; omega) (get_lt g0.fresh x0)]; exact x0
  have epk : theCall Try.prog ext 16 [.int .i64 x.kind, .int .i64 9] H1 = some (.ret (.int .i64 (x.kind % 9)), H1) := pick16 hx (by decide) (by decide)
  obtain ⟨F, hS, kS⟩ := hA1.left g0.fresh
  obtain ⟨H2, F2, e1, hS2, uS⟩ := open13 (ext := ext) hx g0.fresh hS (by omega)
  obtain ⟨A2, hA2, uA2⟩ := kS H2 _ F2 hS2 uS
  obtain ⟨G, hR, kR⟩ := hA2.right uA2.fresh
  obtain ⟨H3, e2, hR3, uR⟩ := refopen37 (ext := ext) hx uA2.fresh hR (by rw [hs.bl]; omega)
  obtain ⟨A3, hA3, uA3⟩ := kR H3 _ G hR3 uR
  have y2 : H2.get H.next = some (.box (stpC x) 38) := by
    rw [uA2.frame H.next (fun e => by have := h.lt hf e; omega) (get_lt g0.fresh x0)]; exact x0
  have hq : ((ρ.blocks + 1 : Nat) : Int) = (σ.blocks.length : Int) + 1 := by rw [hs.bl]; omega
  rw [hq] at e2
  refine ⟨H3, A3, ?_, hA3, ?_⟩
  · unfold stpC at x0 y2
    refine theCall_run (hx _ _ _ (by decide)) Try.func24 (rs := [.tmp 6]) rfl rfl rfl (by simp) fun tm hl hi => ?_
    replace hl : tm.length = 162 := hl
    have i0 := hi 0
    have i1 := hi 1
    have i2 := hi 2
    simp only [List.getD_cons_zero, List.getD_cons_succ] at i0 i1 i2
    have cs2 : (stpC x).all flatV = true := rfl
    rw [hc] at epk
    simp (config := { decide := true }) only [theCode_seq, theCode_list, theCode_ret, theCode_block, theCode_if, evalList_plain, evalList_nil, nd_move, nd_assign, nd_box, nd_load, nd_binOp, nd_fieldAddr, nd_call, ok_tmp, ok_const, ok_func, cl_int, cl_bool, opA_move, opA_assign, opA_load, opA_fieldAddr, opA_bin, opA_call, opA_box, contA_val, contA_enter, callA_ret, putT_some, aev_tmp, aev_const, aev_func, rd_same, rd_ne, List.length_set, valA_some, thenA_normal, thenA_ret, inBlockA_ret, boolOf_bool, loadS_ptr, fieldAddrS_eq, bin_eql, callS_func, leaveR_ret, resA_tmp, resA_nil, List.getElem?_cons_zero, pack_one, Option.map_some, Option.isSome_some, ne_eq, ↓reduceIte, Nat.reduceLT, Nat.zero_add, List.map_cons, List.map_nil, List.all_cons, List.all_nil, Bool.and_true, List.nil_append, List.append_nil, decide_true, eq_self, hl, i0, i1, i2, info38, z0, cs2, e0, off38_0, agg3, loadV_flat, cell_eq, x0, cellO_box, en16, epk, en13, en37, e1, e2]
  · exact (g0.upd A).trans (uA2.trans uA3)


set_option maxHeartbeats 8000000 in
set_option maxRecDepth 100000 in
theorem plays24_1 {ext : CallT} (hx : ∀ f args H, f ≠ 22 → ext f args H = none) {H : AHeap} (hf : H.Fresh) {b r : Nat} {σ : Sc} {ρ : Rf} {A : Nat → Prop} (h : Two H b r σ ρ A) {n : Nat} (hp : Pair σ ρ n) (hn : n < 100000) (x : Stp) (hc : x.kind % 9 = 1) :
    ∃ H' A', theCall Try.prog ext 24 [.pointer (some ⟨b, 0, none⟩), .pointer (some ⟨r, 0, none⟩), .agg (stpC x).toArray] H = some (.ret (.bool true), H') ∧ Two H' b r (σ.close) (ρ.close) A' ∧ Upd H A H' A' := by
  obtain ⟨hs, hw, hll⟩ := hp
  have w1 := hw.bl
  have w2 := hw.tl
  have w3 := hw.yl
  have w4 := hw.nx
  have w5 := hw.pos
  obtain ⟨H1, e0⟩ : ∃ X, H.push (.box (stpC x) 38) = X := ⟨_, rfl⟩
  have g0 : Grown H H1 := by rw [← e0]; exact Grown.push hf _
  have x0 : H1.get H.next = some (.box (stpC x) 38) := by rw [← e0]; exact get_push_new
  have z0 : (Value.agg (stpC x).toArray).cells.toList = stpC x := by rw [vc_agg]
  have hA1 := h.grown hf g0
  have x1 : ∀ H2, Upd H1 A H2 A → H2.get H.next = some (.box (stpC x) 38) := fun H2 u => by
    rw [u.frame H.next (fun e => by have := h.lt hf e; omega) (get_lt g0.fresh x0)]; exact x0
  have epk : theCall Try.prog ext 16 [.int .i64 x.kind, .int .i64 9] H1 = some (.ret (.int .i64 (x.kind % 9)), H1) := pick16 hx (by decide) (by decide)
  obtain ⟨F, hS, kS⟩ := hA1.left g0.fresh
  obtain ⟨H2, F2, e1, hS2, uS⟩ := close17 (ext := ext) hx g0.fresh hS (by omega)
  obtain ⟨A2, hA2, uA2⟩ := kS H2 _ F2 hS2 uS
  obtain ⟨G, hR, kR⟩ := hA2.right uA2.fresh
  obtain ⟨H3, G3, e2, hR3, uR⟩ := refclose38 (ext := ext) hx uA2.fresh hR (by rw [hs.bl]; omega) (by rw [hs.bl]; omega) (by omega)
  obtain ⟨A3, hA3, uA3⟩ := kR H3 _ G3 hR3 uR
  have y2 : H2.get H.next = some (.box (stpC x) 38) := by
    rw [uA2.frame H.next (fun e => by have := h.lt hf e; omega) (get_lt g0.fresh x0)]; exact x0
  have hq : (!decide (ρ.blocks = 1)) = decide (1 < σ.blocks.length) := by
    rw [hs.bl]
    by_cases h1 : σ.blocks.length = 1
    · rw [h1]; rfl
    · have : 1 < σ.blocks.length := by omega
      simp [h1, this]
  rw [hq] at e2
  generalize decide (1 < σ.blocks.length) = v at e1 e2
  refine ⟨H3, A3, ?_, hA3, ?_⟩
  · unfold stpC at x0 y2
    refine theCall_run (hx _ _ _ (by decide)) Try.func24 (rs := [.tmp 6]) rfl rfl rfl (by simp) fun tm hl hi => ?_
    replace hl : tm.length = 162 := hl
    have i0 := hi 0
    have i1 := hi 1
    have i2 := hi 2
    simp only [List.getD_cons_zero, List.getD_cons_succ] at i0 i1 i2
    have cs2 : (stpC x).all flatV = true := rfl
    rw [hc] at epk
    simp (config := { decide := true }) only [theCode_seq, theCode_list, theCode_ret, theCode_block, theCode_if, evalList_plain, evalList_nil, nd_move, nd_assign, nd_box, nd_load, nd_binOp, nd_fieldAddr, nd_call, ok_tmp, ok_const, ok_func, cl_int, cl_bool, opA_move, opA_assign, opA_load, opA_fieldAddr, opA_bin, opA_call, opA_box, contA_val, contA_enter, callA_ret, putT_some, aev_tmp, aev_const, aev_func, rd_same, rd_ne, List.length_set, valA_some, thenA_normal, thenA_ret, inBlockA_ret, boolOf_bool, loadS_ptr, fieldAddrS_eq, bin_eql, callS_func, leaveR_ret, resA_tmp, resA_nil, List.getElem?_cons_zero, pack_one, Option.map_some, Option.isSome_some, ne_eq, ↓reduceIte, Nat.reduceLT, Nat.zero_add, Option.some.injEq, List.map_cons, List.map_nil, List.all_cons, List.all_nil, Bool.and_true, List.nil_append, List.append_nil, decide_true, decide_false, eq_self, hl, i0, i1, i2, info38, z0, cs2, e0, off38_0, agg3, loadV_flat, cell_eq, x0, cellO_box, en16, epk, en17, en38, e1, e2, bin_beql und4, beq_self_eq_true]
  · exact (g0.upd A).trans (uA2.trans uA3)


set_option maxHeartbeats 8000000 in
set_option maxRecDepth 100000 in
theorem plays24_2 {ext : CallT} (hx : ∀ f args H, f ≠ 22 → ext f args H = none) {H : AHeap} (hf : H.Fresh) {b r : Nat} {σ : Sc} {ρ : Rf} {A : Nat → Prop} (h : Two H b r σ ρ A) {n : Nat} (hp : Pair σ ρ n) (hn : n < 100000) (x : Stp) (hc : x.kind % 9 = 2) :
    ∃ H' A', theCall Try.prog ext 24 [.pointer (some ⟨b, 0, none⟩), .pointer (some ⟨r, 0, none⟩), .agg (stpC x).toArray] H = some (.ret (.bool true), H') ∧ Two H' b r (σ.decl x.name x.ty) (ρ.decl x.name x.ty) A' ∧ Upd H A H' A' := by
  obtain ⟨hs, hw, hll⟩ := hp
  have w1 := hw.bl
  have w2 := hw.tl
  have w3 := hw.yl
  have w4 := hw.nx
  have w5 := hw.pos
  obtain ⟨H1, e0⟩ : ∃ X, H.push (.box (stpC x) 38) = X := ⟨_, rfl⟩
  have g0 : Grown H H1 := by rw [← e0]; exact Grown.push hf _
  have x0 : H1.get H.next = some (.box (stpC x) 38) := by rw [← e0]; exact get_push_new
  have z0 : (Value.agg (stpC x).toArray).cells.toList = stpC x := by rw [vc_agg]
  have hA1 := h.grown hf g0
  have x1 : ∀ H2, Upd H1 A H2 A → H2.get H.next = some (.box (stpC x) 38) := fun H2 u => by
    rw [u.frame H.next (fun e => by have := h.lt hf e; omega) (get_lt g0.fresh x0)]; exact x0
  have epk : theCall Try.prog ext 16 [.int .i64 x.kind, .int .i64 9] H1 = some (.ret (.int .i64 (x.kind % 9)), H1) := pick16 hx (by decide) (by decide)
  obtain ⟨F, hS, kS⟩ := hA1.left g0.fresh
  obtain ⟨H2, F2, e1, hS2, uS⟩ := declare20 (ext := ext) hx g0.fresh hS hw.pos (by omega) (by omega) x.name x.ty
  obtain ⟨A2, hA2, uA2⟩ := kS H2 _ F2 hS2 uS
  obtain ⟨G, hR, kR⟩ := hA2.right uA2.fresh
  obtain ⟨H3, G3, e2, hR3, uR⟩ := refdeclare39 (ext := ext) hx uA2.fresh hR (by omega) (by rw [hs.ty]; omega) x.name x.ty
  obtain ⟨A3, hA3, uA3⟩ := kR H3 _ G3 hR3 uR
  have y2 : H2.get H.next = some (.box (stpC x) 38) := by
    rw [uA2.frame H.next (fun e => by have := h.lt hf e; omega) (get_lt g0.fresh x0)]; exact x0
  obtain ⟨va, ve, hv⟩ := declV_form σ x.name
  rw [hv] at e1
  rw [hs.declV hw.pos, hv] at e2
  refine ⟨H3, A3, ?_, hA3, ?_⟩
  · unfold stpC at x0 y2
    refine theCall_run (hx _ _ _ (by decide)) Try.func24 (rs := [.tmp 6]) rfl rfl rfl (by simp) fun tm hl hi => ?_
    replace hl : tm.length = 162 := hl
    have i0 := hi 0
    have i1 := hi 1
    have i2 := hi 2
    simp only [List.getD_cons_zero, List.getD_cons_succ] at i0 i1 i2
    have cs2 : (stpC x).all flatV = true := rfl
    rw [hc] at epk
    simp (config := { decide := true }) only [theCode_seq, theCode_list, theCode_ret, theCode_block, theCode_if, evalList_plain, evalList_guard, evalList_nil, nd_move, nd_assign, nd_pick, nd_box, nd_load, nd_binOp, nd_fieldAddr, nd_extract, nd_call, ok_tmp, ok_const, ok_func, cl_int, cl_bool, opA_move, opA_assign, opA_pick, opA_load, opA_fieldAddr, opA_extract, opA_bin, opA_call, opA_box, contA_val, contA_enter, callA_ret, putT_some, aev_tmp, aev_const, aev_func, rd_same, rd_ne, List.length_set, valA_some, thenA_normal, thenA_ret, inBlockA_ret, boolOf_bool, loadS_ptr, fieldAddrS_eq, extractS_tuple, bin_eql, callS_func, leaveR_ret, resA_tmp, resA_nil, yieldA_S, slotAt_succ, slotAt_zero, yieldS_some, List.getElem?_toArray, List.getElem?_cons_zero, List.getElem?_cons_succ, pack_one, Option.map_some, Option.isSome_some, ne_eq, ↓reduceIte, Nat.reduceLT, Nat.zero_add, Option.some.injEq, List.map_cons, List.map_nil, List.all_cons, List.all_nil, Bool.and_true, List.nil_append, List.append_nil, decide_true, decide_false, eq_self, hl, i0, i1, i2, info38, z0, cs2, e0, off38_0, off38_1, off38_2, agg3, agg9, loadV_flat, cell_eq, x0, y2, cellO_box, en16, epk, en20, en39, e1, e2]
  · exact (g0.upd A).trans (uA2.trans uA3)


set_option maxHeartbeats 8000000 in
set_option maxRecDepth 100000 in
theorem plays24_3 {ext : CallT} (hx : ∀ f args H, f ≠ 22 → ext f args H = none) {H : AHeap} (hf : H.Fresh) {b r : Nat} {σ : Sc} {ρ : Rf} {A : Nat → Prop} (h : Two H b r σ ρ A) {n : Nat} (hp : Pair σ ρ n) (hn : n < 100000) (x : Stp) (hc : x.kind % 9 = 3) :
    ∃ H' A', theCall Try.prog ext 24 [.pointer (some ⟨b, 0, none⟩), .pointer (some ⟨r, 0, none⟩), .agg (stpC x).toArray] H = some (.ret (.bool true), H') ∧ Two H' b r (σ) (ρ) A' ∧ Upd H A H' A' := by
  obtain ⟨hs, hw, hll⟩ := hp
  have w1 := hw.bl
  have w2 := hw.tl
  have w3 := hw.yl
  have w4 := hw.nx
  have w5 := hw.pos
  obtain ⟨H1, e0⟩ : ∃ X, H.push (.box (stpC x) 38) = X := ⟨_, rfl⟩
  have g0 : Grown H H1 := by rw [← e0]; exact Grown.push hf _
  have x0 : H1.get H.next = some (.box (stpC x) 38) := by rw [← e0]; exact get_push_new
  have z0 : (Value.agg (stpC x).toArray).cells.toList = stpC x := by rw [vc_agg]
  have hA1 := h.grown hf g0
  have x1 : ∀ H2, Upd H1 A H2 A → H2.get H.next = some (.box (stpC x) 38) := fun H2 u => by
    rw [u.frame H.next (fun e => by have := h.lt hf e; omega) (get_lt g0.fresh x0)]; exact x0
  have epk : theCall Try.prog ext 16 [.int .i64 x.kind, .int .i64 9] H1 = some (.ret (.int .i64 (x.kind % 9)), H1) := pick16 hx (by decide) (by decide)
  obtain ⟨F, hS, _⟩ := hA1.left g0.fresh
  obtain ⟨H2, e1, g1⟩ := find10 (ext := ext) hx g0.fresh hS hw.ok (by omega) (by omega) x.name
  have hA2 := hA1.grown g0.fresh g1
  obtain ⟨G, hR, _⟩ := hA2.right g1.fresh
  have y2 : H2.get H.next = some (.box (stpC x) 38) := g1.has g0.fresh x0
  have e2 := reffind40 (ext := ext) hx hR (by omega) x.name
  have g2 : Grown H2 H2 := Grown.refl g1.fresh
  have hA3 := hA2
  obtain ⟨va, vt, vo, hv⟩ := findV_form σ x.name
  rw [hv] at e1
  rw [hs.findV, hv] at e2
  refine ⟨H2, A, ?_, hA3, ?_⟩
  · unfold stpC at x0 y2
    refine theCall_run (hx _ _ _ (by decide)) Try.func24 (rs := [.tmp 6]) rfl rfl rfl (by simp) fun tm hl hi => ?_
    replace hl : tm.length = 162 := hl
    have i0 := hi 0
    have i1 := hi 1
    have i2 := hi 2
    simp only [List.getD_cons_zero, List.getD_cons_succ] at i0 i1 i2
    have cs2 : (stpC x).all flatV = true := rfl
    rw [hc] at epk
    simp (config := { decide := true }) only [theCode_seq, theCode_list, theCode_ret, theCode_block, theCode_if, evalList_plain, evalList_guard, evalList_nil, nd_move, nd_assign, nd_pick, nd_box, nd_load, nd_binOp, nd_fieldAddr, nd_extract, nd_call, ok_tmp, ok_const, ok_func, cl_int, cl_bool, opA_move, opA_assign, opA_pick, opA_load, opA_fieldAddr, opA_extract, opA_bin, opA_call, opA_box, contA_val, contA_enter, callA_ret, putT_some, aev_tmp, aev_const, aev_func, rd_same, rd_ne, List.length_set, valA_some, thenA_normal, thenA_ret, inBlockA_ret, boolOf_bool, loadS_ptr, fieldAddrS_eq, extractS_tuple, bin_eql, callS_func, leaveR_ret, resA_tmp, resA_nil, yieldA_S, slotAt_succ, slotAt_zero, yieldS_some, List.getElem?_toArray, List.getElem?_cons_zero, List.getElem?_cons_succ, pack_one, Option.map_some, Option.isSome_some, ne_eq, ↓reduceIte, Nat.reduceLT, Nat.zero_add, Option.some.injEq, List.map_cons, List.map_nil, List.all_cons, List.all_nil, Bool.and_true, List.nil_append, List.append_nil, decide_true, decide_false, eq_self, hl, i0, i1, i2, info38, z0, cs2, e0, off38_0, off38_1, agg3, agg9, loadV_flat, cell_eq, x0, y2, cellO_box, en16, epk, en10, en40, e1, e2, bin_beql und4, beq_self_eq_true]
  · exact (g0.upd A).trans ((g1.trans g2).upd A)


set_option maxHeartbeats 8000000 in
set_option maxRecDepth 100000 in
theorem plays24_4 {ext : CallT} (hx : ∀ f args H, f ≠ 22 → ext f args H = none) {H : AHeap} (hf : H.Fresh) {b r : Nat} {σ : Sc} {ρ : Rf} {A : Nat → Prop} (h : Two H b r σ ρ A) {n : Nat} (hp : Pair σ ρ n) (hn : n < 100000) (x : Stp) (hc : x.kind % 9 = 4) :
    ∃ H' A', theCall Try.prog ext 24 [.pointer (some ⟨b, 0, none⟩), .pointer (some ⟨r, 0, none⟩), .agg (stpC x).toArray] H = some (.ret (.bool true), H') ∧ Two H' b r (σ.enter x.name x.turns) (ρ.enter x.name x.turns) A' ∧ Upd H A H' A' := by
  obtain ⟨hs, hw, hll⟩ := hp
  have w1 := hw.bl
  have w2 := hw.tl
  have w3 := hw.yl
  have w4 := hw.nx
  have w5 := hw.pos
  obtain ⟨H1, e0⟩ : ∃ X, H.push (.box (stpC x) 38) = X := ⟨_, rfl⟩
  have g0 : Grown H H1 := by rw [← e0]; exact Grown.push hf _
  have x0 : H1.get H.next = some (.box (stpC x) 38) := by rw [← e0]; exact get_push_new
  have z0 : (Value.agg (stpC x).toArray).cells.toList = stpC x := by rw [vc_agg]
  have hA1 := h.grown hf g0
  have x1 : ∀ H2, Upd H1 A H2 A → H2.get H.next = some (.box (stpC x) 38) := fun H2 u => by
    rw [u.frame H.next (fun e => by have := h.lt hf e; omega) (get_lt g0.fresh x0)]; exact x0
  have epk : theCall Try.prog ext 16 [.int .i64 x.kind, .int .i64 9] H1 = some (.ret (.int .i64 (x.kind % 9)), H1) := pick16 hx (by decide) (by decide)
  obtain ⟨F, hS, kS⟩ := hA1.left g0.fresh
  obtain ⟨H2, F2, e1, hS2, uS⟩ := enter14 (ext := ext) hx g0.fresh hS (by omega) (by omega) x.name x.turns
  obtain ⟨A2, hA2, uA2⟩ := kS H2 _ F2 hS2 uS
  obtain ⟨G, hR, kR⟩ := hA2.right uA2.fresh
  obtain ⟨H3, G3, e2, hR3, uR⟩ := refenter41 (ext := ext) hx uA2.fresh hR (by rw [hs.tr]; omega) (by rw [hs.nx]; omega) x.name x.turns
  obtain ⟨A3, hA3, uA3⟩ := kR H3 _ G3 hR3 uR
  have y2 : H2.get H.next = some (.box (stpC x) 38) := by
    rw [uA2.frame H.next (fun e => by have := h.lt hf e; omega) (get_lt g0.fresh x0)]; exact x0
  obtain ⟨va, ve, hv⟩ := entV2_form σ x.name
  rw [hv] at e1
  rw [hs.entV2, hv] at e2
  refine ⟨H3, A3, ?_, hA3, ?_⟩
  · unfold stpC at x0 y2
    refine theCall_run (hx _ _ _ (by decide)) Try.func24 (rs := [.tmp 6]) rfl rfl rfl (by simp) fun tm hl hi => ?_
    replace hl : tm.length = 162 := hl
    have i0 := hi 0
    have i1 := hi 1
    have i2 := hi 2
    simp only [List.getD_cons_zero, List.getD_cons_succ] at i0 i1 i2
    have cs2 : (stpC x).all flatV = true := rfl
    rw [hc] at epk
    simp (config := { decide := true }) only [theCode_seq, theCode_list, theCode_ret, theCode_block, theCode_if, evalList_plain, evalList_guard, evalList_nil, nd_move, nd_assign, nd_pick, nd_box, nd_load, nd_binOp, nd_fieldAddr, nd_extract, nd_call, ok_tmp, ok_const, ok_func, cl_int, cl_bool, opA_move, opA_assign, opA_pick, opA_load, opA_fieldAddr, opA_extract, opA_bin, opA_call, opA_box, contA_val, contA_enter, callA_ret, putT_some, aev_tmp, aev_const, aev_func, rd_same, rd_ne, List.length_set, valA_some, thenA_normal, thenA_ret, inBlockA_ret, boolOf_bool, loadS_ptr, fieldAddrS_eq, extractS_tuple, bin_eql, callS_func, leaveR_ret, resA_tmp, resA_nil, yieldA_S, slotAt_succ, slotAt_zero, yieldS_some, List.getElem?_toArray, List.getElem?_cons_zero, List.getElem?_cons_succ, pack_one, Option.map_some, Option.isSome_some, ne_eq, ↓reduceIte, Nat.reduceLT, Nat.zero_add, Option.some.injEq, List.map_cons, List.map_nil, List.all_cons, List.all_nil, Bool.and_true, List.nil_append, List.append_nil, decide_true, decide_false, eq_self, hl, i0, i1, i2, info38, z0, cs2, e0, off38_0, off38_1, off38_3, agg3, agg4, agg9, loadV_flat, cell_eq, x0, y2, cellO_box, en16, epk, en14, en41, e1, e2]
  · exact (g0.upd A).trans (uA2.trans uA3)


set_option maxHeartbeats 8000000 in
set_option maxRecDepth 100000 in
theorem plays24_5 {ext : CallT} (hx : ∀ f args H, f ≠ 22 → ext f args H = none) {H : AHeap} (hf : H.Fresh) {b r : Nat} {σ : Sc} {ρ : Rf} {A : Nat → Prop} (h : Two H b r σ ρ A) {n : Nat} (hp : Pair σ ρ n) (hn : n < 100000) (x : Stp) (hc : x.kind % 9 = 5) :
    ∃ H' A', theCall Try.prog ext 24 [.pointer (some ⟨b, 0, none⟩), .pointer (some ⟨r, 0, none⟩), .agg (stpC x).toArray] H = some (.ret (.bool true), H') ∧ Two H' b r (σ.leave) (ρ.leave) A' ∧ Upd H A H' A' := by
  obtain ⟨hs, hw, hll⟩ := hp
  have w1 := hw.bl
  have w2 := hw.tl
  have w3 := hw.yl
  have w4 := hw.nx
  have w5 := hw.pos
  obtain ⟨H1, e0⟩ : ∃ X, H.push (.box (stpC x) 38) = X := ⟨_, rfl⟩
  have g0 : Grown H H1 := by rw [← e0]; exact Grown.push hf _
  have x0 : H1.get H.next = some (.box (stpC x) 38) := by rw [← e0]; exact get_push_new
  have z0 : (Value.agg (stpC x).toArray).cells.toList = stpC x := by rw [vc_agg]
  have hA1 := h.grown hf g0
  have x1 : ∀ H2, Upd H1 A H2 A → H2.get H.next = some (.box (stpC x) 38) := fun H2 u => by
    rw [u.frame H.next (fun e => by have := h.lt hf e; omega) (get_lt g0.fresh x0)]; exact x0
  have epk : theCall Try.prog ext 16 [.int .i64 x.kind, .int .i64 9] H1 = some (.ret (.int .i64 (x.kind % 9)), H1) := pick16 hx (by decide) (by decide)
  obtain ⟨F, hS, kS⟩ := hA1.left g0.fresh
  obtain ⟨H2, F2, e1, hS2, uS⟩ := leave18 (ext := ext) hx g0.fresh hS (by omega)
  obtain ⟨A2, hA2, uA2⟩ := kS H2 _ F2 hS2 uS
  obtain ⟨G, hR, kR⟩ := hA2.right uA2.fresh
  obtain ⟨H3, G3, e2, hR3, uR⟩ := refleave42 (ext := ext) hx uA2.fresh hR (by rw [hs.tr]; omega)
  obtain ⟨A3, hA3, uA3⟩ := kR H3 _ G3 hR3 uR
  have y2 : H2.get H.next = some (.box (stpC x) 38) := by
    rw [uA2.frame H.next (fun e => by have := h.lt hf e; omega) (get_lt g0.fresh x0)]; exact x0
  rw [hs.tr] at e2
  generalize decide (0 < σ.turns.length) = v at e1 e2
  refine ⟨H3, A3, ?_, hA3, ?_⟩
  · unfold stpC at x0 y2
    refine theCall_run (hx _ _ _ (by decide)) Try.func24 (rs := [.tmp 6]) rfl rfl rfl (by simp) fun tm hl hi => ?_
    replace hl : tm.length = 162 := hl
    have i0 := hi 0
    have i1 := hi 1
    have i2 := hi 2
    simp only [List.getD_cons_zero, List.getD_cons_succ] at i0 i1 i2
    have cs2 : (stpC x).all flatV = true := rfl
    rw [hc] at epk
    simp (config := { decide := true }) only [theCode_seq, theCode_list, theCode_ret, theCode_block, theCode_if, evalList_plain, evalList_nil, nd_move, nd_assign, nd_box, nd_load, nd_binOp, nd_fieldAddr, nd_call, ok_tmp, ok_const, ok_func, cl_int, cl_bool, opA_move, opA_assign, opA_load, opA_fieldAddr, opA_bin, opA_call, opA_box, contA_val, contA_enter, callA_ret, putT_some, aev_tmp, aev_const, aev_func, rd_same, rd_ne, List.length_set, valA_some, thenA_normal, thenA_ret, inBlockA_ret, boolOf_bool, loadS_ptr, fieldAddrS_eq, bin_eql, callS_func, leaveR_ret, resA_tmp, resA_nil, List.getElem?_cons_zero, pack_one, Option.map_some, Option.isSome_some, ne_eq, ↓reduceIte, Nat.reduceLT, Nat.zero_add, Option.some.injEq, List.map_cons, List.map_nil, List.all_cons, List.all_nil, Bool.and_true, List.nil_append, List.append_nil, decide_true, decide_false, eq_self, hl, i0, i1, i2, info38, z0, cs2, e0, off38_0, agg3, loadV_flat, cell_eq, x0, cellO_box, en16, epk, en18, en42, e1, e2, bin_beql und4, beq_self_eq_true]
  · exact (g0.upd A).trans (uA2.trans uA3)


set_option maxHeartbeats 8000000 in
set_option maxRecDepth 100000 in
theorem plays24_t {ext : CallT} (hx : ∀ f args H, f ≠ 22 → ext f args H = none) {H : AHeap} (hf : H.Fresh) {b r : Nat} {σ : Sc} {ρ : Rf} {A : Nat → Prop} (h : Two H b r σ ρ A) {n : Nat} (hp : Pair σ ρ n) (hn : n < 100000) (x : Stp) (h0 : ¬ x.kind % 9 = 0) (h1 : ¬ x.kind % 9 = 1) (h2 : ¬ x.kind % 9 = 2) (h3 : ¬ x.kind % 9 = 3) (h4 : ¬ x.kind % 9 = 4) (h5 : ¬ x.kind % 9 = 5) :
    ∃ H' A', theCall Try.prog ext 24 [.pointer (some ⟨b, 0, none⟩), .pointer (some ⟨r, 0, none⟩), .agg (stpC x).toArray] H = some (.ret (.bool true), H') ∧ Two H' b r (σ) (ρ) A' ∧ Upd H A H' A' := by
  obtain ⟨hs, hw, hll⟩ := hp
  have w1 := hw.bl
  have w2 := hw.tl
  have w3 := hw.yl
  have w4 := hw.nx
  have w5 := hw.pos
  obtain ⟨H1, e0⟩ : ∃ X, H.push (.box (stpC x) 38) = X := ⟨_, rfl⟩
  have g0 : Grown H H1 := by rw [← e0]; exact Grown.push hf _
  have x0 : H1.get H.next = some (.box (stpC x) 38) := by rw [← e0]; exact get_push_new
  have z0 : (Value.agg (stpC x).toArray).cells.toList = stpC x := by rw [vc_agg]
  have hA1 := h.grown hf g0
  have x1 : ∀ H2, Upd H1 A H2 A → H2.get H.next = some (.box (stpC x) 38) := fun H2 u => by
    rw [u.frame H.next (fun e => by have := h.lt hf e; omega) (get_lt g0.fresh x0)]; exact x0
  have epk : theCall Try.prog ext 16 [.int .i64 x.kind, .int .i64 9] H1 = some (.ret (.int .i64 (x.kind % 9)), H1) := pick16 hx (by decide) (by decide)
  obtain ⟨F, hS, _⟩ := hA1.left g0.fresh
  obtain ⟨H2, e1, g1⟩ := target11 (ext := ext) hx g0.fresh hS (by omega) x.name x.turns
  have hA2 := hA1.grown g0.fresh g1
  obtain ⟨G, hR, _⟩ := hA2.right g1.fresh
  have y2 : H2.get H.next = some (.box (stpC x) 38) := g1.has g0.fresh x0
  obtain ⟨H3, e2, g2⟩ := reftarget43 (ext := ext) hx g1.fresh hR (by rw [hs.tr]; omega) x.name x.turns
  have hA3 := hA2.grown g1.fresh g2
  obtain ⟨va, ve, hv⟩ := targV_form σ x.name x.turns
  rw [hv] at e1
  rw [hs.targV, hv] at e2
  refine ⟨H3, A, ?_, hA3, ?_⟩
  · unfold stpC at x0 y2
    refine theCall_run (hx _ _ _ (by decide)) Try.func24 (rs := [.tmp 6]) rfl rfl rfl (by simp) fun tm hl hi => ?_
    replace hl : tm.length = 162 := hl
    have i0 := hi 0
    have i1 := hi 1
    have i2 := hi 2
    simp only [List.getD_cons_zero, List.getD_cons_succ] at i0 i1 i2
    have cs2 : (stpC x).all flatV = true := rfl
    simp (config := { decide := true }) only [theCode_seq, theCode_list, theCode_skip, theCode_ret, theCode_block, theCode_if, evalList_plain, evalList_guard, evalList_nil, nd_move, nd_assign, nd_pick, nd_box, nd_load, nd_binOp, nd_fieldAddr, nd_extract, nd_call, ok_tmp, ok_const, ok_func, cl_int, cl_bool, opA_move, opA_assign, opA_pick, opA_load, opA_fieldAddr, opA_extract, opA_bin, opA_call, opA_box, contA_val, contA_enter, callA_ret, putT_some, aev_tmp, aev_const, aev_func, rd_same, rd_ne, List.length_set, valA_some, thenA_normal, inBlockA_normal, boolOf_bool, loadS_ptr, fieldAddrS_eq, extractS_tuple, bin_eql, callS_func, leaveR_ret, resA_tmp, resA_nil, yieldA_S, slotAt_succ, slotAt_zero, yieldS_some, List.getElem?_toArray, List.getElem?_cons_zero, List.getElem?_cons_succ, pack_one, Option.map_some, Option.isSome_some, ne_eq, ↓reduceIte, Nat.reduceLT, Nat.zero_add, Option.some.injEq, List.map_cons, List.map_nil, List.all_cons, List.all_nil, Bool.and_true, List.nil_append, List.append_nil, decide_true, decide_false, eq_self, hl, i0, i1, i2, info38, z0, cs2, e0, off38_0, off38_1, off38_3, agg3, agg4, agg9, loadV_flat, cell_eq, x0, y2, cellO_box, en16, epk, en11, en43, e1, e2, h0, h1, h2, h3, h4, h5]
  · exact (g0.upd A).trans ((g1.trans g2).upd A)


theorem plays24 {ext : CallT} (hx : ∀ f args H, f ≠ 22 → ext f args H = none) {H : AHeap} (hf : H.Fresh) {b r : Nat} {σ : Sc} {ρ : Rf} {A : Nat → Prop} (h : Two H b r σ ρ A) {n : Nat} (hp : Pair σ ρ n) (hn : n < 100000) (x : Stp) :
    ∃ H' A', theCall Try.prog ext 24 [.pointer (some ⟨b, 0, none⟩), .pointer (some ⟨r, 0, none⟩), .agg (stpC x).toArray] H = some (.ret (.bool true), H') ∧ Two H' b r (playS σ x) (playR ρ x) A' ∧ Upd H A H' A' := by
  unfold playS playR
  by_cases h0 : x.kind % 9 = 0
  · rw [if_pos h0, if_pos h0]; exact plays24_0 hx hf h hp hn x h0
  rw [if_neg h0, if_neg h0]
  by_cases h1 : x.kind % 9 = 1
  · rw [if_pos h1, if_pos h1]; exact plays24_1 hx hf h hp hn x h1
  rw [if_neg h1, if_neg h1]
  by_cases h2 : x.kind % 9 = 2
  · rw [if_pos h2, if_pos h2]; exact plays24_2 hx hf h hp hn x h2
  rw [if_neg h2, if_neg h2]
  by_cases h3 : x.kind % 9 = 3
  · rw [if_pos h3, if_pos h3]; exact plays24_3 hx hf h hp hn x h3
  rw [if_neg h3, if_neg h3]
  by_cases h4 : x.kind % 9 = 4
  · rw [if_pos h4, if_pos h4]; exact plays24_4 hx hf h hp hn x h4
  rw [if_neg h4, if_neg h4]
  by_cases h5 : x.kind % 9 = 5
  · rw [if_pos h5, if_pos h5]; exact plays24_5 hx hf h hp hn x h5
  rw [if_neg h5, if_neg h5]
  exact plays24_t hx hf h hp hn x h0 h1 h2 h3 h4 h5

end Go.Proofs.Ytnjoaffnfjlcaaa

namespace Go.Proofs.Ytnjoaffnfjlcaaa
open Go Go.Proofs B

/-- The table of calls answers a copy. -/
def CopyOK (ext : CallT) : Prop := ∀ (H : AHeap) (b : Nat) (σ : Sc) (F : Nat → Prop) (n : Nat), H.Fresh → ScopeAt H b σ F → σ.wf n → n < 100000 → (∀ m ∈ σ.blocks, (m.map (·.1)).Nodup) →
  ∃ H' q F', ext 22 [.pointer (some ⟨b, 0, none⟩)] H = some (.ret (.pointer (some ⟨q, 0, none⟩)), H') ∧ ScopeAt H' q σ F' ∧ Grown H H' ∧ ∀ j, F' j → H.next ≤ j

def LeftI (Hs H : AHeap) (A : Nat → Prop) (n : Nat) (v5 v6 : Value) : Prop := (v5 = .pointer none ∧ v6 = .pointer none) ∨
  ∃ b2 r2 σ2 ρ2 A2, v5 = .pointer (some ⟨b2, 0, none⟩) ∧ v6 = .pointer (some ⟨r2, 0, none⟩) ∧ Two H b2 r2 σ2 ρ2 A2 ∧ (∀ j, A2 j → Hs.next ≤ j) ∧ (∀ j, A j → ¬ A2 j) ∧ Pair σ2 ρ2 n

structure PInv (Hs : AHeap) (v : Value) (i : Nat) (tm : List Value) (H : AHeap) : Prop where
  len : tm.length = 79
  i0 : tm.getD 0 undef = v
  i7 : tm.getD 7 undef = .int .i64 (i : Nat)
  g : Grown Hs H
  ex : ∃ b r σ ρ A, tm.getD 3 undef = .pointer (some ⟨b, 0, none⟩) ∧ tm.getD 4 undef = .pointer (some ⟨r, 0, none⟩) ∧ Two H b r σ ρ A ∧ (∀ j, A j → Hs.next ≤ j) ∧ Pair σ ρ i ∧ LeftI Hs H A i (tm.getD 5 undef) (tm.getD 6 undef)

theorem Two.tells {ext : CallT} (hx : ∀ f args H, f ≠ 22 → ext f args H = none) {H : AHeap} (hf : H.Fresh) {b r : Nat} {σ : Sc} {ρ : Rf} {A : Nat → Prop} (h : Two H b r σ ρ A) {n : Nat} (hp : Pair σ ρ n) (hn : n < 100000) :
    ∃ H', theCall Try.prog ext 25 [.pointer (some ⟨b, 0, none⟩), .pointer (some ⟨r, 0, none⟩)] H = some (.ret (.bool true), H') ∧ Grown H H' := by
  obtain ⟨F, G, h1, h2, _, _⟩ := h
  exact tells25 hx hf h1 h2 hp.sim.ty (by have := hp.wf.yl; omega)



set_option maxHeartbeats 8000000 in
set_option maxRecDepth 100000 in
theorem round5_7 {ext : CallT} (hx : ∀ f args H, f ≠ 22 → ext f args H = none) (hC : CopyOK ext) {Hs : AHeap} (hf0 : Hs.Fresh) {v : Value} {l : List Stp} (hs : Scr Hs v l) (hle : l.length ≤ 400) {i : Nat} (hi : i < l.length) {x : Stp} (hxx : l.getD i ⟨0, ⟨#[]⟩, 0, false⟩ = x) (hM : x.kind % 9 = 7) {H : AHeap} {tm : List Value} (hl : tm.length = 79) (i0 : tm.getD 0 undef = v) (i7 : tm.getD 7 undef = .int .i64 (i : Nat)) (g : Grown Hs H)
    {b r : Nat} {σ : Sc} {ρ : Rf} {A : Nat → Prop} (i3 : tm.getD 3 undef = .pointer (some ⟨b, 0, none⟩)) (i4 : tm.getD 4 undef = .pointer (some ⟨r, 0, none⟩)) (hT : Two H b r σ ρ A) (hA : ∀ j, A j → Hs.next ≤ j) (hp : Pair σ ρ i)
     {c : Code} (hc : (loopsF Try.f5)[0]? = some c) : ∃ tm' H', theCode Try.prog ext false c ⟨tm, [], H⟩ = some (.normal, ⟨tm', [], H'⟩) ∧ PInv Hs v (i + 1) tm' H' := by
  have h0 : (loopsF Try.f5)[0]? = some _ := rfl
  rw [h0] at hc
  obtain rfl := Option.some.inj hc
  clear hc h0
  have hsH := hs.grown hf0 g
  have hln := hsH.len
  have hlt : (i : Int) < (l.length : Int) := by omega
  have hixs := hsH.index hi
  have hcl := hsH.cells _ hi
  rw [hxx] at hcl
  have hc0 := readN_get hcl (j := 0) (by decide)
  simp only [stpC, List.getElem?_cons_zero] at hc0
  have ld : H.loadV Try.prog 38 (addA (baseOf v) (i * 4)) = some (.agg (stpC x).toArray) := by
    rw [loadV_agg agg38 info38, cells38, hcl]; rfl
  have epk : theCall Try.prog ext 16 [.int .i64 x.kind, .int .i64 9] H = some (.ret (.int .i64 (x.kind % 9)), H) := pick16 hx (by decide) (by decide)
  have hw : IntKind.i64.wrap ((i : Int) + 1) = ((i + 1 : Nat) : Int) := by rw [IntWalk.i64_in _ (by omega)]; omega
  rw [hM] at epk
  have hn : i < 100000 := by omega
  obtain ⟨F, G, hS, hR, hFG, hAi⟩ := hT
  obtain ⟨H1, q, F1, e1, hS1, g1, n1⟩ := hC H b σ F i g.fresh hS hp.wf hn hp.sim.uq
  have e1' := theCall_ext (P := Try.prog) e1
  have hR1 := hR.grown g.fresh g1
  obtain ⟨H2, q2, G2, e2, hR2, g2, n2⟩ := refcopy23 (ext := ext) hx g1.fresh hR1 (by have := hp.ll; omega) (by rw [hp.sim.ty]; have := hp.wf.yl; omega) (by rw [hp.sim.tr]; have := hp.wf.tl; omega)
  have hT0 : Two H b r σ ρ A := ⟨F, G, hS, hR, hFG, hAi⟩
  have hT2 : Two H2 b r σ ρ A := (hT0.grown g.fresh g1).grown g1.fresh g2
  obtain ⟨H3, e3, g3⟩ := hT2.tells hx g2.fresh hp hn
  have hN : Two H2 q q2 σ ρ (fun j => F1 j ∨ G2 j) := ⟨F1, G2, hS1.grown g1.fresh g2, hR2, fun j e1 e2 => by have := hS1.lt g1.fresh e1; have := n2 j e2; omega, fun j => Iff.rfl⟩
  have hNA : ∀ j, (F1 j ∨ G2 j) → H.next ≤ j := fun j hj => by
    rcases hj with e | e
    · exact n1 j e
    · exact Nat.le_trans g1.next (n2 j e)
  refine ⟨?tm, ?H, ?h, ?q⟩
  case h =>
    simp (config := { decide := true }) only [fieldAddrS_plus, theCode_seq, theCode_list, theCode_skip, theCode_block, theCode_if, evalList_plain, evalList_guard, evalList_nil, nd_move, nd_assign, nd_pick, nd_load, nd_binOp, nd_unOp, nd_fieldAddr, nd_indexAddr, nd_call, ok_tmp, ok_const, ok_func, cl_int, cl_bool, cl_ptr, opA_move, opA_assign, opA_pick, opA_load, opA_fieldAddr, opA_bin, opA_un, opA_call, opA_len, opA_indexAddr, contA_val, contA_enter, callA_ret, putT_some, aev_tmp, aev_const, aev_func, rd_same, rd_ne, List.length_set, valA_some, thenA_normal, inBlockA_normal, boolOf_bool, loadS_ptr, un_not,
    bin_lss, bin_eql, bin_add, bin_ptr_eql, bin_ptr_neq, callS_func, yieldA_S, slotAt_succ, slotAt_zero, yieldS_some, Option.map_some, Option.isSome_some, ne_eq, ↓reduceIte, Nat.reduceLT, Option.some.injEq, List.map_cons, List.map_nil, List.all_cons, List.all_nil, Bool.and_true, List.nil_append, List.append_nil, decide_true, eq_self, hl, i0, i3, i4, i7, hln, hlt, hixs, isp23, off38_0, agg3, loadV_flat, hc0, en16, epk, Bool.not_true, hw, en22, en23, e1', e2, en25, e3, bin_ptr_neq, bin_ptr_eql]
    rfl
  case q =>
    refine ⟨by simp only [List.length_set, hl], ?_, ?_, ((g.trans g1).trans g2).trans g3, _, _, _, _, _, ?_, ?_, hN.grown g2.fresh g3, fun j hj => Nat.le_trans g.next (hNA j hj), hp.up (Nat.le_succ _), .inr ⟨b, r, σ, ρ, A, ?_, ?_, hT2.grown g2.fresh g3, hA, fun j hj e => by have := hT0.lt g.fresh e; have := hNA j hj; omega, hp.up (Nat.le_succ _)⟩⟩
    all_goals simp (config := { decide := true }) only [rd_ne, rd_same, List.length_set, hl, ne_eq, i0]



set_option maxHeartbeats 8000000 in
set_option maxRecDepth 100000 in
theorem round5_8S {ext : CallT} (hx : ∀ f args H, f ≠ 22 → ext f args H = none) (hC : CopyOK ext) {Hs : AHeap} (hf0 : Hs.Fresh) {v : Value} {l : List Stp} (hs : Scr Hs v l) (hle : l.length ≤ 400) {i : Nat} (hi : i < l.length) {x : Stp} (hxx : l.getD i ⟨0, ⟨#[]⟩, 0, false⟩ = x) (hM : x.kind % 9 = 8) {H : AHeap} {tm : List Value} (hl : tm.length = 79) (i0 : tm.getD 0 undef = v) (i7 : tm.getD 7 undef = .int .i64 (i : Nat)) (g : Grown Hs H)
    {b r : Nat} {σ : Sc} {ρ : Rf} {A : Nat → Prop} (i3 : tm.getD 3 undef = .pointer (some ⟨b, 0, none⟩)) (i4 : tm.getD 4 undef = .pointer (some ⟨r, 0, none⟩)) (hT : Two H b r σ ρ A) (hA : ∀ j, A j → Hs.next ≤ j) (hp : Pair σ ρ i)
    {b2 r2 : Nat} {σ2 : Sc} {ρ2 : Rf} {A2 : Nat → Prop} (i5 : tm.getD 5 undef = .pointer (some ⟨b2, 0, none⟩)) (i6 : tm.getD 6 undef = .pointer (some ⟨r2, 0, none⟩)) (hT2 : Two H b2 r2 σ2 ρ2 A2) (hA2 : ∀ j, A2 j → Hs.next ≤ j) (hdis : ∀ j, A j → ¬ A2 j) (hp2 : Pair σ2 ρ2 i) {c : Code} (hc : (loopsF Try.f5)[0]? = some c) : ∃ tm' H', theCode Try.prog ext false c ⟨tm, [], H⟩ = some (.normal, ⟨tm', [], H'⟩) ∧ PInv Hs v (i + 1) tm' H' := by
  have h0 : (loopsF Try.f5)[0]? = some _ := rfl
  rw [h0] at hc
  obtain rfl := Option.some.inj hc
  clear hc h0
  have hsH := hs.grown hf0 g
  have hln := hsH.len
  have hlt : (i : Int) < (l.length : Int) := by omega
  have hixs := hsH.index hi
  have hcl := hsH.cells _ hi
  rw [hxx] at hcl
  have hc0 := readN_get hcl (j := 0) (by decide)
  simp only [stpC, List.getElem?_cons_zero] at hc0
  have ld : H.loadV Try.prog 38 (addA (baseOf v) (i * 4)) = some (.agg (stpC x).toArray) := by
    rw [loadV_agg agg38 info38, cells38, hcl]; rfl
  have epk : theCall Try.prog ext 16 [.int .i64 x.kind, .int .i64 9] H = some (.ret (.int .i64 (x.kind % 9)), H) := pick16 hx (by decide) (by decide)
  have hw : IntKind.i64.wrap ((i : Int) + 1) = ((i + 1 : Nat) : Int) := by rw [IntWalk.i64_in _ (by omega)]; omega
  rw [hM] at epk
  obtain ⟨H1, e1, g1⟩ := hT.tells hx g.fresh hp (by omega)
  refine ⟨?tm, ?H, ?h, ?q⟩
  case h =>
    simp (config := { decide := true }) only [fieldAddrS_plus, theCode_seq, theCode_list, theCode_skip, theCode_block, theCode_if, evalList_plain, evalList_guard, evalList_nil, nd_move, nd_assign, nd_pick, nd_load, nd_binOp, nd_unOp, nd_fieldAddr, nd_indexAddr, nd_call, ok_tmp, ok_const, ok_func, cl_int, cl_bool, cl_ptr, opA_move, opA_assign, opA_pick, opA_load, opA_fieldAddr, opA_bin, opA_un, opA_call, opA_len, opA_indexAddr, contA_val, contA_enter, callA_ret, putT_some, aev_tmp, aev_const, aev_func, rd_same, rd_ne, List.length_set, valA_some, thenA_normal, inBlockA_normal, boolOf_bool, loadS_ptr, un_not,
    bin_lss, bin_eql, bin_add, bin_ptr_eql, bin_ptr_neq, callS_func, yieldA_S, slotAt_succ, slotAt_zero, yieldS_some, Option.map_some, Option.isSome_some, ne_eq, ↓reduceIte, Nat.reduceLT, Option.some.injEq, List.map_cons, List.map_nil, List.all_cons, List.all_nil, Bool.and_true, List.nil_append, List.append_nil, decide_true, decide_false, eq_self, hl, i0, i3, i4, i7, hln, hlt, hixs, isp23, off38_0, agg3, loadV_flat, hc0, en16, epk, Bool.not_true, hw, i5, i6, en25, e1, bin_ptr_neq, bin_ptr_eql]
    rfl
  case q =>
    refine ⟨by simp only [List.length_set, hl], ?_, ?_, g.trans g1, _, _, _, _, _, ?_, ?_, hT2.grown g.fresh g1, hA2, hp2.up (Nat.le_succ _), .inr ⟨b, r, σ, ρ, A, ?_, ?_, hT.grown g.fresh g1, hA, fun j hj e => hdis j e hj, hp.up (Nat.le_succ _)⟩⟩
    all_goals simp (config := { decide := true }) only [rd_ne, rd_same, List.length_set, hl, ne_eq, i0]



set_option maxHeartbeats 8000000 in
set_option maxRecDepth 100000 in
theorem round5_8N {ext : CallT} (hx : ∀ f args H, f ≠ 22 → ext f args H = none) (hC : CopyOK ext) {Hs : AHeap} (hf0 : Hs.Fresh) {v : Value} {l : List Stp} (hs : Scr Hs v l) (hle : l.length ≤ 400) {i : Nat} (hi : i < l.length) {x : Stp} (hxx : l.getD i ⟨0, ⟨#[]⟩, 0, false⟩ = x) (hM : x.kind % 9 = 8) {H : AHeap} {tm : List Value} (hl : tm.length = 79) (i0 : tm.getD 0 undef = v) (i7 : tm.getD 7 undef = .int .i64 (i : Nat)) (g : Grown Hs H)
    {b r : Nat} {σ : Sc} {ρ : Rf} {A : Nat → Prop} (i3 : tm.getD 3 undef = .pointer (some ⟨b, 0, none⟩)) (i4 : tm.getD 4 undef = .pointer (some ⟨r, 0, none⟩)) (hT : Two H b r σ ρ A) (hA : ∀ j, A j → Hs.next ≤ j) (hp : Pair σ ρ i)
    (i5 : tm.getD 5 undef = .pointer none) (i6 : tm.getD 6 undef = .pointer none) {c : Code} (hc : (loopsF Try.f5)[0]? = some c) : ∃ tm' H', theCode Try.prog ext false c ⟨tm, [], H⟩ = some (.normal, ⟨tm', [], H'⟩) ∧ PInv Hs v (i + 1) tm' H' := by
  have h0 : (loopsF Try.f5)[0]? = some _ := rfl
  rw [h0] at hc
  obtain rfl := Option.some.inj hc
  clear hc h0
  have hsH := hs.grown hf0 g
  have hln := hsH.len
  have hlt : (i : Int) < (l.length : Int) := by omega
  have hixs := hsH.index hi
  have hcl := hsH.cells _ hi
  rw [hxx] at hcl
  have hc0 := readN_get hcl (j := 0) (by decide)
  simp only [stpC, List.getElem?_cons_zero] at hc0
  have ld : H.loadV Try.prog 38 (addA (baseOf v) (i * 4)) = some (.agg (stpC x).toArray) := by
    rw [loadV_agg agg38 info38, cells38, hcl]; rfl
  have epk : theCall Try.prog ext 16 [.int .i64 x.kind, .int .i64 9] H = some (.ret (.int .i64 (x.kind % 9)), H) := pick16 hx (by decide) (by decide)
  have hw : IntKind.i64.wrap ((i : Int) + 1) = ((i + 1 : Nat) : Int) := by rw [IntWalk.i64_in _ (by omega)]; omega
  rw [hM] at epk
  refine ⟨?tm, ?H, ?h, ?q⟩
  case h =>
    simp (config := { decide := true }) only [fieldAddrS_plus, theCode_seq, theCode_list, theCode_skip, theCode_block, theCode_if, evalList_plain, evalList_guard, evalList_nil, nd_move, nd_assign, nd_pick, nd_load, nd_binOp, nd_unOp, nd_fieldAddr, nd_indexAddr, nd_call, ok_tmp, ok_const, ok_func, cl_int, cl_bool, cl_ptr, opA_move, opA_assign, opA_pick, opA_load, opA_fieldAddr, opA_bin, opA_call, opA_len, opA_indexAddr, contA_val, contA_enter, callA_ret, putT_some, aev_tmp, aev_const, aev_func, rd_same, rd_ne, List.length_set, valA_some, thenA_normal, inBlockA_normal, boolOf_bool, loadS_ptr, bin_lss, bin_eql, bin_add, bin_ptr_eql, bin_nil_neq, callS_func, yieldA_S, slotAt_succ, slotAt_zero, yieldS_some, Option.map_some, Option.isSome_some, ne_eq, ↓reduceIte, Nat.reduceLT, Option.some.injEq, List.map_cons, List.map_nil, List.all_cons, List.all_nil, Bool.and_true, List.nil_append, List.append_nil, decide_true, decide_false, eq_self, hl, i0, i3, i7, hln, hlt, hixs, isp23, off38_0, agg3, loadV_flat, hc0, en16, epk, hw, i5, bin_nil_neq, bin_ptr_eql]
    rfl
  case q =>
    refine ⟨by simp only [List.length_set, hl], ?_, ?_, g, _, _, _, _, _, ?_, ?_, hT, hA, hp.up (Nat.le_succ _), .inl ⟨?_, ?_⟩⟩
    all_goals simp (config := { decide := true }) only [rd_ne, rd_same, List.length_set, hl, ne_eq, i0, i3, i4, i5, i6]



set_option maxHeartbeats 8000000 in
set_option maxRecDepth 100000 in
theorem round5_LN {ext : CallT} (hx : ∀ f args H, f ≠ 22 → ext f args H = none) (hC : CopyOK ext) {Hs : AHeap} (hf0 : Hs.Fresh) {v : Value} {l : List Stp} (hs : Scr Hs v l) (hle : l.length ≤ 400) {i : Nat} (hi : i < l.length) {x : Stp} (hxx : l.getD i ⟨0, ⟨#[]⟩, 0, false⟩ = x) (h7 : ¬ x.kind % 9 = 7) (h8 : ¬ x.kind % 9 = 8) (hM : x.kind % 9 < 7) {H : AHeap} {tm : List Value} (hl : tm.length = 79) (i0 : tm.getD 0 undef = v) (i7 : tm.getD 7 undef = .int .i64 (i : Nat)) (g : Grown Hs H)
    {b r : Nat} {σ : Sc} {ρ : Rf} {A : Nat → Prop} (i3 : tm.getD 3 undef = .pointer (some ⟨b, 0, none⟩)) (i4 : tm.getD 4 undef = .pointer (some ⟨r, 0, none⟩)) (hT : Two H b r σ ρ A) (hA : ∀ j, A j → Hs.next ≤ j) (hp : Pair σ ρ i)
    (i5 : tm.getD 5 undef = .pointer none) (i6 : tm.getD 6 undef = .pointer none) {c : Code} (hc : (loopsF Try.f5)[0]? = some c) : ∃ tm' H', theCode Try.prog ext false c ⟨tm, [], H⟩ = some (.normal, ⟨tm', [], H'⟩) ∧ PInv Hs v (i + 1) tm' H' := by
  have h0 : (loopsF Try.f5)[0]? = some _ := rfl
  rw [h0] at hc
  obtain rfl := Option.some.inj hc
  clear hc h0
  have hsH := hs.grown hf0 g
  have hln := hsH.len
  have hlt : (i : Int) < (l.length : Int) := by omega
  have hixs := hsH.index hi
  have hcl := hsH.cells _ hi
  rw [hxx] at hcl
  have hc0 := readN_get hcl (j := 0) (by decide)
  simp only [stpC, List.getElem?_cons_zero] at hc0
  have ld : H.loadV Try.prog 38 (addA (baseOf v) (i * 4)) = some (.agg (stpC x).toArray) := by
    rw [loadV_agg agg38 info38, cells38, hcl]; rfl
  have epk : theCall Try.prog ext 16 [.int .i64 x.kind, .int .i64 9] H = some (.ret (.int .i64 (x.kind % 9)), H) := pick16 hx (by decide) (by decide)
  have hw : IntKind.i64.wrap ((i : Int) + 1) = ((i + 1 : Nat) : Int) := by rw [IntWalk.i64_in _ (by omega)]; omega
  obtain ⟨H1, A1, e1, hT1, u1⟩ := plays24 (ext := ext) hx g.fresh hT hp (by omega) x
  obtain ⟨g1, hA1⟩ := Grown.ofUpd g hA u1
  refine ⟨?tm, ?H, ?h, ?q⟩
  case h =>
    simp (config := { decide := true }) only [fieldAddrS_plus, theCode_seq, theCode_list, theCode_skip, theCode_block, theCode_if, evalList_plain, evalList_guard, evalList_nil, nd_move, nd_assign, nd_pick, nd_load, nd_binOp, nd_unOp, nd_fieldAddr, nd_indexAddr, nd_call, ok_tmp, ok_const, ok_func, cl_int, cl_bool, cl_ptr, opA_move, opA_assign, opA_pick, opA_load, opA_fieldAddr, opA_bin, opA_un, opA_call, opA_len, opA_indexAddr, contA_val, contA_enter, callA_ret, putT_some, aev_tmp, aev_const, aev_func, rd_same, rd_ne, List.length_set, valA_some, thenA_normal, inBlockA_normal, boolOf_bool, loadS_ptr, un_not,
    bin_lss, bin_eql, bin_add, bin_ptr_eql, bin_nil_neq, callS_func, yieldA_S, slotAt_succ, slotAt_zero, yieldS_some, Option.map_some, Option.isSome_some, ne_eq, ↓reduceIte, Nat.reduceLT, Option.some.injEq, List.map_cons, List.map_nil, List.all_cons, List.all_nil, Bool.and_true, List.nil_append, List.append_nil, decide_true, decide_false, eq_self, hl, i0, i3, i4, i7, hln, hlt, hixs, isp23, off38_0, agg3, loadV_flat, hc0, en16, epk, Bool.not_true, hw, i5, ld, h7, h8, hM, en24, e1, bin_nil_neq, bin_ptr_eql]
    rfl
  case q =>
    refine ⟨by simp only [List.length_set, hl], ?_, ?_, g1, _, _, _, _, _, ?_, ?_, hT1, hA1, hp.play x, .inl ⟨?_, ?_⟩⟩
    all_goals simp (config := { decide := true }) only [rd_ne, rd_same, List.length_set, hl, ne_eq, i0, i3, i4, i5, i6]



set_option maxHeartbeats 8000000 in
set_option maxRecDepth 100000 in
theorem round5_LS {ext : CallT} (hx : ∀ f args H, f ≠ 22 → ext f args H = none) (hC : CopyOK ext) {Hs : AHeap} (hf0 : Hs.Fresh) {v : Value} {l : List Stp} (hs : Scr Hs v l) (hle : l.length ≤ 400) {i : Nat} (hi : i < l.length) {x : Stp} (hxx : l.getD i ⟨0, ⟨#[]⟩, 0, false⟩ = x) (h7 : ¬ x.kind % 9 = 7) (h8 : ¬ x.kind % 9 = 8) (hM : x.kind % 9 < 7) {H : AHeap} {tm : List Value} (hl : tm.length = 79) (i0 : tm.getD 0 undef = v) (i7 : tm.getD 7 undef = .int .i64 (i : Nat)) (g : Grown Hs H)
    {b r : Nat} {σ : Sc} {ρ : Rf} {A : Nat → Prop} (i3 : tm.getD 3 undef = .pointer (some ⟨b, 0, none⟩)) (i4 : tm.getD 4 undef = .pointer (some ⟨r, 0, none⟩)) (hT : Two H b r σ ρ A) (hA : ∀ j, A j → Hs.next ≤ j) (hp : Pair σ ρ i)
    {b2 r2 : Nat} {σ2 : Sc} {ρ2 : Rf} {A2 : Nat → Prop} (i5 : tm.getD 5 undef = .pointer (some ⟨b2, 0, none⟩)) (i6 : tm.getD 6 undef = .pointer (some ⟨r2, 0, none⟩)) (hT2 : Two H b2 r2 σ2 ρ2 A2) (hA2 : ∀ j, A2 j → Hs.next ≤ j) (hdis : ∀ j, A j → ¬ A2 j) (hp2 : Pair σ2 ρ2 i) {c : Code} (hc : (loopsF Try.f5)[0]? = some c) : ∃ tm' H', theCode Try.prog ext false c ⟨tm, [], H⟩ = some (.normal, ⟨tm', [], H'⟩) ∧ PInv Hs v (i + 1) tm' H' := by
  have h0 : (loopsF Try.f5)[0]? = some _ := rfl
  rw [h0] at hc
  obtain rfl := Option.some.inj hc
  clear hc h0
  have hsH := hs.grown hf0 g
  have hln := hsH.len
  have hlt : (i : Int) < (l.length : Int) := by omega
  have hixs := hsH.index hi
  have hcl := hsH.cells _ hi
  rw [hxx] at hcl
  have hc0 := readN_get hcl (j := 0) (by decide)
  simp only [stpC, List.getElem?_cons_zero] at hc0
  have ld : H.loadV Try.prog 38 (addA (baseOf v) (i * 4)) = some (.agg (stpC x).toArray) := by
    rw [loadV_agg agg38 info38, cells38, hcl]; rfl
  have epk : theCall Try.prog ext 16 [.int .i64 x.kind, .int .i64 9] H = some (.ret (.int .i64 (x.kind % 9)), H) := pick16 hx (by decide) (by decide)
  have hw : IntKind.i64.wrap ((i : Int) + 1) = ((i + 1 : Nat) : Int) := by rw [IntWalk.i64_in _ (by omega)]; omega
  obtain ⟨H1, A1, e1, hT1, u1⟩ := plays24 (ext := ext) hx g.fresh hT hp (by omega) x
  obtain ⟨g1, hA1⟩ := Grown.ofUpd g hA u1
  have hT2' : Two H1 b2 r2 σ2 ρ2 A2 := hT2.keep fun j hj => u1.frame j (fun e => hdis j e hj) (hT2.lt g.fresh hj)
  have hdis1 : ∀ j, A1 j → ¬ A2 j := fun j e1 e2 => by
    rcases u1.foot j e1 with e | e
    · exact hdis j e e2
    · have := hT2.lt g.fresh e2; omega
  obtain ⟨H2, e2, g2⟩ := hT2'.tells hx u1.fresh hp2 (by omega)
  refine ⟨?tm, ?H, ?h, ?q⟩
  case h =>
    simp (config := { decide := true }) only [fieldAddrS_plus, theCode_seq, theCode_list, theCode_skip, theCode_block, theCode_if, evalList_plain, evalList_guard, evalList_nil, nd_move, nd_assign, nd_pick, nd_load, nd_binOp, nd_unOp, nd_fieldAddr, nd_indexAddr, nd_call, ok_tmp, ok_const, ok_func, cl_int, cl_bool, cl_ptr, opA_move, opA_assign, opA_pick, opA_load, opA_fieldAddr, opA_bin, opA_un, opA_call, opA_len, opA_indexAddr, contA_val, contA_enter, callA_ret, putT_some, aev_tmp, aev_const, aev_func, rd_same, rd_ne, List.length_set, valA_some, thenA_normal, inBlockA_normal, boolOf_bool, loadS_ptr, un_not,
    bin_lss, bin_eql, bin_add, bin_ptr_eql, bin_ptr_neq, callS_func, yieldA_S, slotAt_succ, slotAt_zero, yieldS_some, Option.map_some, Option.isSome_some, ne_eq, ↓reduceIte, Nat.reduceLT, Option.some.injEq, List.map_cons, List.map_nil, List.all_cons, List.all_nil, Bool.and_true, List.nil_append, List.append_nil, decide_true, decide_false, eq_self, hl, i0, i3, i4, i7, hln, hlt, hixs, isp23, off38_0, agg3, loadV_flat, hc0, en16, epk, Bool.not_true, hw, i5, i6, ld, h7, h8, hM, en24, e1, en25, e2, bin_ptr_neq, bin_ptr_eql]
    rfl
  case q =>
    refine ⟨by simp only [List.length_set, hl], ?_, ?_, g1.trans g2, _, _, _, _, _, ?_, ?_, hT1.grown u1.fresh g2, hA1, hp.play x, .inr ⟨b2, r2, σ2, ρ2, A2, ?_, ?_, hT2'.grown u1.fresh g2, hA2, hdis1, hp2.up (Nat.le_succ _)⟩⟩
    all_goals simp (config := { decide := true }) only [rd_ne, rd_same, List.length_set, hl, ne_eq, i0, i3, i4, i5, i6]



theorem round5 {ext : CallT} (hx : ∀ f args H, f ≠ 22 → ext f args H = none) (hC : CopyOK ext) {Hs : AHeap} (hf0 : Hs.Fresh) {v : Value} {l : List Stp} (hs : Scr Hs v l) (hle : l.length ≤ 400) {i : Nat} (hi : i < l.length) {H : AHeap} {tm : List Value} (h : PInv Hs v i tm H)
    {c : Code} (hc : (loopsF Try.f5)[0]? = some c) : ∃ tm' H', theCode Try.prog ext false c ⟨tm, [], H⟩ = some (.normal, ⟨tm', [], H'⟩) ∧ PInv Hs v (i + 1) tm' H' := by
  obtain ⟨hl, i0, i7, g, b, r, σ, ρ, A, i3, i4, hT, hA, hp, hL⟩ := h
  obtain ⟨x, hxx⟩ : ∃ x, l.getD i ⟨0, ⟨#[]⟩, 0, false⟩ = x := ⟨_, rfl⟩
  by_cases h7 : x.kind % 9 = 7
  · exact round5_7 hx hC hf0 hs hle hi hxx h7 hl i0 i7 g i3 i4 hT hA hp hc
  by_cases h8 : x.kind % 9 = 8
  · rcases hL with ⟨i5, i6⟩ | ⟨b2, r2, σ2, ρ2, A2, i5, i6, hT2, hA2, hdis, hp2⟩
    · exact round5_8N hx hC hf0 hs hle hi hxx h8 hl i0 i7 g i3 i4 hT hA hp i5 i6 hc
    · exact round5_8S hx hC hf0 hs hle hi hxx h8 hl i0 i7 g i3 i4 hT hA hp i5 i6 hT2 hA2 hdis hp2 hc
  have hM : x.kind % 9 < 7 := by have := Int.emod_nonneg x.kind (b := 9) (by decide); have := Int.emod_lt_of_pos x.kind (b := 9) (by decide); omega
  rcases hL with ⟨i5, i6⟩ | ⟨b2, r2, σ2, ρ2, A2, i5, i6, hT2, hA2, hdis, hp2⟩
  · exact round5_LN hx hC hf0 hs hle hi hxx h7 h8 hM hl i0 i7 g i3 i4 hT hA hp i5 i6 hc
  · exact round5_LS hx hC hf0 hs hle hi hxx h7 h8 hM hl i0 i7 g i3 i4 hT hA hp i5 i6 hT2 hA2 hdis hp2 hc


set_option maxHeartbeats 8000000 in
set_option maxRecDepth 100000 in
theorem loop5 {ext : CallT} (hx : ∀ f args H, f ≠ 22 → ext f args H = none) (hC : CopyOK ext) {Hs : AHeap} (hf0 : Hs.Fresh) {v : Value} {l : List Stp} (hs : Scr Hs v l) (hle : l.length ≤ 400) {c : Code} (hc : (loopsF Try.f5)[0]? = some c) :
    ∀ k s, (fun k s => ∃ tm H i, s = ⟨tm, [], H⟩ ∧ i + k = l.length ∧ PInv Hs v i tm H) k s →
      ∃ x s', theCode Try.prog ext false (.loop c) s = some (x, s') ∧ x ≠ .normal ∧ (fun x s => x = .exit 0 ∧ ∃ tm H, s = ⟨tm, [], H⟩ ∧ PInv Hs v l.length tm H) x s' := by
  refine theCode_loop_inv _ _ ?_
  rintro k _ ⟨tm, H, i, rfl, hik, h⟩
  cases k with
  | zero =>
    right
    have hc' := hc
    have h0 : (loopsF Try.f5)[0]? = some _ := rfl
    rw [h0] at hc
    obtain rfl := Option.some.inj hc
    clear hc h0
    obtain ⟨hl, i0, i7, g, b, r, σ, ρ, A, i3, i4, hT, hA, hp, hL⟩ := h
    have hln := (hs.grown hf0 g).len
    have hlt : ¬ ((i : Int) < (l.length : Int)) := by omega
    obtain rfl : i = l.length := by omega
    refine ⟨?x0, ?s0, ?h0, ?hx0, ?hq0⟩
    case h0 =>
      simp (config := { decide := true }) only [theCode_seq, theCode_list, theCode_exit, theCode_if, evalList_plain, evalList_nil, nd_move, nd_binOp, nd_call, ok_tmp, opA_move, opA_bin, opA_len, contA_val, putT_some, aev_tmp, rd_same, rd_ne, List.length_set, thenA_normal, thenA_exit, boolOf_bool, bin_lss, Option.isSome_some, ne_eq, ↓reduceIte, Nat.reduceLT, Option.some.injEq, decide_false, eq_self, hl, i0, i7, hln, hlt]
      rfl
    case hx0 => exact fun h => by cases h
    case hq0 =>
      refine ⟨rfl, _, H, rfl, ⟨by simp only [List.length_set, hl], ?_, ?_, g, b, r, σ, ρ, A, ?_, ?_, hT, hA, hp, ?_⟩⟩
      all_goals simp (config := { decide := true }) only [rd_ne, ne_eq, i0, i3, i4, i7]
      exact hL
  | succ k =>
    left
    obtain ⟨tm', H', e, h'⟩ := round5 hx hC hf0 hs hle (by omega) h hc
    exact ⟨_, e, k, Nat.lt_succ_self _, tm', H', i + 1, rfl, by omega, h'⟩

set_option maxHeartbeats 8000000 in
set_option maxRecDepth 100000 in
theorem scopePlays5 {ext : CallT} (hx : ∀ f args H, f ≠ 22 → ext f args H = none) (hC : CopyOK ext) {Hs : AHeap} (hf0 : Hs.Fresh) {v : Value} {l : List Stp} (hs : Scr Hs v l) : ∃ H', theCall Try.prog ext 5 [v] Hs = some (.ret (.bool true), H') ∧ Grown Hs H' := by
  have hln := hs.len
  by_cases hle : 400 < l.length
  · have hlt : (400 : Int) < (l.length : Int) := by omega
    refine ⟨Hs, ?_, Grown.refl hf0⟩
    refine theCall_run (hx _ _ _ (by decide)) Try.func5 (rs := [.tmp 2]) rfl rfl rfl (by simp) fun tm hl hi => ?_
    replace hl : tm.length = 79 := hl
    have i0 := hi 0
    simp only [List.getD_cons_zero] at i0
    simp (config := { decide := true }) only [theCode_seq, theCode_list, theCode_ret, theCode_block, theCode_if, evalList_plain, evalList_nil, nd_move, nd_assign, nd_binOp, nd_call, ok_tmp, ok_const, ok_func, cl_int, cl_bool, cl_ptr, opA_move, opA_assign, opA_bin, opA_call0, opA_len, contA_val, contA_enter, putT_some, aev_tmp, aev_const, aev_func, rd_same, rd_ne, List.length_set, thenA_normal, thenA_ret, boolOf_bool, bin_gtr, callS_func, leaveR_ret, resA_tmp, resA_nil, pack_one, Option.map_some, Option.isSome_some, ne_eq, ↓reduceIte, Nat.reduceLT, List.append_nil, decide_true, eq_self, bin_gtr, hl, i0, hln, hlt]
  · have hlt : ¬ (400 : Int) < (l.length : Int) := by omega
    obtain ⟨H1, F, e1, hS1, g1, n1⟩ := new8 (ext := ext) hx hf0
    obtain ⟨H2, G, e2, hR2, g2, n2⟩ := refnew21 (ext := ext) hx g1.fresh
    have hT : Two H2 Hs.next H1.next sc0 rf0 (fun j => F j ∨ G j) := ⟨F, G, hS1.grown g1.fresh g2, hR2, fun j e1 e2 => by have := hS1.lt g1.fresh e1; have := n2 j e2; omega, fun j => Iff.rfl⟩
    refine theCall_goal (F := fun z => ∃ H', z = some (.ret (.bool true), H') ∧ Grown Hs H') (hx _ _ _ (by decide)) Try.func5 (rs := [.tmp 2]) rfl rfl rfl (by simp) fun tm hl hi => ?_
    replace hl : tm.length = 79 := hl
    have i0 := hi 0
    simp only [List.getD_cons_zero] at i0
    simp (config := { decide := true }) only [theCode_seq, theCode_list, theCode_skip, theCode_ret, theCode_block, theCode_if, evalList_plain, evalList_nil, nd_move, nd_assign, nd_binOp, nd_call, ok_tmp, ok_const, ok_func, cl_int, cl_bool, cl_ptr, opA_move, opA_assign, opA_bin, opA_call0, opA_len, contA_val, contA_enter, callA_ret, putT_some, aev_tmp, aev_const, aev_func, rd_same, rd_ne, List.length_set, thenA_normal, boolOf_bool, bin_gtr, callS_func, Option.isSome_some, ne_eq, ↓reduceIte, Nat.reduceLT, Option.some.injEq, List.append_nil, decide_false, eq_self, bin_gtr, hl, i0, hln, hlt, en8, e1, en21, e2]
    refine loop_use (F := fun z => ∃ H', leaveR Try.prog [.tmp 2] (thenA (inBlockA 0 z) _) = some (.ret (.bool true), H') ∧ Grown Hs H') (loop5 hx hC hf0 hs (by omega) rfl) l.length ⟨_, H2, 0, rfl, Nat.zero_add _, ⟨by simp only [List.length_set, hl], ?_, ?_, g1.trans g2, Hs.next, H1.next, sc0, rf0, _, ?_, ?_, hT, ?_, pair0, .inl ⟨?_, ?_⟩⟩⟩ ?_
    · simp (config := { decide := true }) only [rd_ne, ne_eq, i0]
    · simp (config := { decide := true }) only [rd_same, List.length_set, hl]
      rfl
    · simp (config := { decide := true }) only [rd_ne, rd_same, List.length_set, hl, ne_eq]
    · simp (config := { decide := true }) only [rd_ne, rd_same, List.length_set, hl, ne_eq]
    · rintro j (e | e)
      · exact n1 j e
      · rw [n2 j e]; exact g1.next
    · simp (config := { decide := true }) only [rd_ne, rd_same, List.length_set, hl, ne_eq]
    · simp (config := { decide := true }) only [rd_ne, rd_same, List.length_set, hl, ne_eq]
    rintro x _ hx' ⟨rfl, tm, H, rfl, ⟨hl, i0, i7, g, b, r, σ, ρ, A, i3, i4, hT, hA, hp, hL⟩⟩
    obtain ⟨H3, e3, g3⟩ := hT.tells hx g.fresh hp (by omega)
    obtain ⟨H4, e4, g4⟩ := works15 (ext := ext) hx g3.fresh
    refine ⟨H4, ?_, (g.trans g3).trans g4⟩
    simp (config := { decide := true }) only [evalList_plain, evalList_guard, evalList_nil, nd_move, nd_assign, nd_pick, nd_call, ok_tmp, ok_const, ok_func, cl_bool, opA_move, opA_assign, opA_pick, opA_call, opA_call0, contA_val, contA_enter, callA_ret, putT_some, aev_tmp, aev_func, rd_same, rd_ne, List.length_set, thenA_normal, inBlockA_exit, boolOf_bool, bin_ptr_neq, callS_func, leaveR_ret, resA_tmp, resA_nil, yieldA_S, slotAt_succ, slotAt_zero, yieldS_some, pack_one, Option.map_some, Option.isSome_some, ne_eq, ↓reduceIte, Nat.reduceLT, List.map_cons, List.map_nil, List.all_cons, List.all_nil, Bool.and_true, List.nil_append, List.append_nil, eq_self, hl, i3, i4, isp23, en25, e3, en15, e4, bin_ptr_neq]

end Go.Proofs.Ytnjoaffnfjlcaaa
