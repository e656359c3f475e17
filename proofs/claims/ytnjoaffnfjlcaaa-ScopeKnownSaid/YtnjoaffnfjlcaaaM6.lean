/-
  Joined by program out of Sc2, Sc3, Sc4, Ops9, Ops11, RowKitS, Rf1, Ops14, Ops15, Ops16, Ops17, Ops18.
-/
import Derived.Test.YtnjoaffnfjlcaaaM5
import Derived.Test.YtnjoaffnfjlcaaaM3
import Derived.Test.YtnjoaffnfjlcaaaRows
import Derived.ProofKit
import Derived.ChangeMaps5
namespace Go.Proofs.Ytnjoaffnfjlcaaa
open Go Go.Proofs B

structure Stp where
  kind : Int
  name : ByteArray
  ty : Int
  turns : Bool

def stpC (s : Stp) : List Value := [.int .i64 s.kind, .string s.name, .int .i64 s.ty, .bool s.turns]

/-- A slice of steps that may be read. -/
structure Scr (H : AHeap) (v : Value) (l : List Stp) : Prop where
  shape : ∃ a c, v = .slice a l.length c ∧ l.length ≤ c ∧ (0 < l.length → a.isSome = true)
  eok : 0 < l.length → H.elemOk (baseOf v).block 38 = true
  cells : ∀ i, i < l.length → H.readN (addA (baseOf v) (i * 4)) 4 = some (stpC (l.getD i ⟨0, ⟨#[]⟩, 0, false⟩))

theorem readN_grown {H0 H : AHeap} (hf : H0.Fresh) (g : Grown H0 H) : ∀ {n : Nat} {a : Addr} {vs : List Value}, H0.readN a n = some vs → H.readN a n = some vs
  | 0, _, _, h => h
  | n + 1, a, vs, h => by
    unfold AHeap.readN at h ⊢
    cases h1 : H0.cell a with
    | none => rw [h1] at h; simp at h
    | some v =>
      rw [h1] at h
      dsimp only at h
      have hc : H.cell a = some v := by
        unfold AHeap.cell AHeap.view at h1 ⊢
        cases hg : H0.get a.block with
        | none => rw [hg] at h1; simp at h1
        | some o =>
          rw [g.get _ (get_lt hf hg), hg]
          rw [hg] at h1; exact h1
      rw [hc]
      dsimp only
      cases h2 : H0.readN (addA a 1) n with
      | none => rw [h2] at h; simp at h
      | some us => rw [h2] at h; rw [readN_grown hf g h2]; exact h

theorem Scr.grown {H0 H : AHeap} (hf : H0.Fresh) (g : Grown H0 H) {v : Value} {l : List Stp} (h : Scr H0 v l) : Scr H v l :=
  ⟨h.shape, fun hl => by
    have h1 := h.eok hl
    unfold AHeap.elemOk AHeap.view at h1 ⊢
    cases hg : H0.get (baseOf v).block with
    | none => rw [hg] at h1; simp at h1
    | some o => rw [g.get _ (get_lt hf hg), hg]; rw [hg] at h1; exact h1, fun i hi => readN_grown hf g (h.cells i hi)⟩

def stp0 : Stp := ⟨0, ⟨#[]⟩, 0, false⟩

/-- One step, cut out. -/
theorem Scr.one {H : AHeap} {v : Value} {l : List Stp} (h : Scr H v l) {i : Nat} (hi : i < l.length) {t : TypeId} {inf : TypeInfo} (ht : sliceInfo Try.prog t = some (inf, 38)) (hsz : inf.size = 4) (H2 : AHeap) (h2 : H2.elemOk (baseOf v).block 38 = true) :
    ∃ v', sliceS Try.prog H2 t v (some (.int .i64 i)) (some (.int .i64 ((i : Int) + 1))) = some (.val v' H2) ∧ Scr H v' [l.getD i ⟨0, ⟨#[]⟩, 0, false⟩] ∧ (baseOf v').block = (baseOf v).block := by
  obtain ⟨a, c, hv, hle, ha⟩ := h.shape
  obtain ⟨a, rfl⟩ := Option.isSome_iff_exists.1 (ha (by omega))
  have hc := h.cells i hi
  have ho := h.eok (by omega)
  subst hv
  have hcap : i + 1 ≤ c := by omega
  · refine ⟨.slice (some (addA a (i * 4))) 1 (c - i), ?_, ⟨⟨_, _, rfl, by show 1 ≤ c - i; omega, fun _ => rfl⟩, fun _ => ho, fun j hj => ?_⟩, rfl⟩
    · unfold sliceS
      rw [ht]
      dsimp only
      unfold sliceOf boundOf
      have e1 : (if (0 : Int) ≤ (i : Int) then some ((i : Int)).toNat else none) = some i := by rw [if_pos (by omega)]; simp
      have e2 : (if (0 : Int) ≤ (i : Int) + 1 then some ((i : Int) + 1).toNat else none) = some (i + 1) := by rw [if_pos (by omega)]; congr 1
      try dsimp only
      rw [e1, e2]
      try dsimp only
      rw [if_pos ⟨by omega, hcap⟩, hsz]
      try dsimp only
      rw [if_pos (.inr h2), Nat.add_sub_cancel_left]
      rfl
    · simp only [List.length_cons, List.length_nil] at hj
      obtain rfl : j = 0 := by omega
      show H.readN (addA (addA a (i * 4)) (0 * 4)) 4 = _
      rw [addA_add]
      exact hc

theorem Grown.ofUpd {H0 H H' : AHeap} {A A' : Nat → Prop} (g : Grown H0 H) (hA : ∀ j, A j → H0.next ≤ j) (u : Upd H A H' A') : Grown H0 H' ∧ ∀ j, A' j → H0.next ≤ j := by
  refine ⟨⟨fun j hj => ?_, Nat.le_trans g.next u.next, u.fresh⟩, fun j hj => ?_⟩
  · rw [u.frame j (fun e => by have := hA j e; omega) (Nat.lt_of_lt_of_le hj g.next)]; exact g.get j hj
  · rcases u.foot j hj with e | e
    · exact hA j e
    · exact Nat.le_trans g.next e

/-- A scope made since H0. -/
def St0 (H0 H : AHeap) (b : Nat) (σ : Sc) : Prop := Grown H0 H ∧ ∃ F, ScopeAt H b σ F ∧ ∀ j, F j → H0.next ≤ j

variable {H0 H H' : AHeap} {b : Nat} {σ σ' : Sc}

theorem St0.upd (h : Grown H0 H) {F F' : Nat → Prop} (hF : ∀ j, F j → H0.next ≤ j) (u : Upd H F H' F') (h' : ScopeAt H' b σ' F') : St0 H0 H' b σ' := by
  refine ⟨⟨fun j hj => ?_, Nat.le_trans h.next u.next, u.fresh⟩, F', h', fun j hj => ?_⟩
  · rw [u.frame j (fun e => by have := hF j e; omega) (Nat.lt_of_lt_of_le hj h.next)]; exact h.get j hj
  · rcases u.foot j hj with e | e
    · exact hF j e
    · exact Nat.le_trans h.next e

theorem St0.grow (h : St0 H0 H b σ) (g : Grown H H') : St0 H0 H' b σ := by
  obtain ⟨h1, F, h2, h3⟩ := h
  exact ⟨h1.trans g, F, h2.grown h1.fresh g, h3⟩

/-- A scope since Hs, where it stood in F0. -/
def USt (Hs : AHeap) (F0 : Nat → Prop) (H : AHeap) (b : Nat) (σ : Sc) : Prop := ∃ F, ScopeAt H b σ F ∧ Upd Hs F0 H F

theorem USt.grow {Hs : AHeap} {F0 : Nat → Prop} (h : USt Hs F0 H b σ) (g : Grown H H') : USt Hs F0 H' b σ := by
  obtain ⟨F, h1, h2⟩ := h
  exact ⟨F, h1.grown h2.fresh g, h2.trans (g.upd F)⟩
theorem USt.fresh {Hs : AHeap} {F0 : Nat → Prop} (h : USt Hs F0 H b σ) : H.Fresh := by
  obtain ⟨F, h1, h2⟩ := h
  exact h2.fresh

theorem Scr.blk_lt {v : Value} {l : List Stp} (h : Scr H v l) (hf : H.Fresh) (hl : 0 < l.length) : (baseOf v).block < H.next := by
  have h1 := h.eok hl
  unfold AHeap.elemOk AHeap.view at h1
  cases hg : H.get (baseOf v).block with
  | none => rw [hg] at h1; simp at h1
  | some o => exact get_lt hf hg

theorem readN_get2 {a : Addr} (hb : H'.get a.block = H.get a.block) : ∀ {n : Nat} {o : Nat}, H'.readN (addA a o) n = H.readN (addA a o) n
  | 0, _ => rfl
  | n + 1, o => by
    unfold AHeap.readN
    have hc : H'.cell (addA a o) = H.cell (addA a o) := by
      unfold AHeap.cell AHeap.view
      rw [show (addA a o).block = a.block from rfl, hb]
    rw [hc]
    cases H.cell (addA a o) with
    | none => rfl
    | some v => dsimp only; rw [addA_add, readN_get2 hb]

theorem Scr.upd {Hs : AHeap} {F0 : Nat → Prop} {v : Value} {l : List Stp} (h : Scr Hs v l) (hf : Hs.Fresh) (hd : 0 < l.length → ¬ F0 (baseOf v).block) (u : USt Hs F0 H b σ) : Scr H v l := by
  obtain ⟨F, _, u⟩ := u
  have hb : 0 < l.length → H.get (baseOf v).block = Hs.get (baseOf v).block := fun hl => u.frame _ (hd hl) (h.blk_lt hf hl)
  refine ⟨h.shape, fun hl => ?_, fun i hi => ?_⟩
  · have h1 := h.eok hl
    unfold AHeap.elemOk AHeap.view at h1 ⊢
    rw [hb hl]; exact h1
  · rw [readN_get2 (hb (by omega))]; exact h.cells i hi

/-- How large a state may be, and what holds of it. -/
structure Sc.wf (σ : Sc) (n : Nat) : Prop where
  pos : 0 < σ.blocks.length
  bl : σ.blocks.length ≤ n + 1
  tl : σ.turns.length ≤ n
  yl : σ.types.length ≤ n
  nx : σ.next ≤ n
  ok : σ.ok
  y256 : σ.types.length ≤ 256

theorem Sc.wf.up {n m : Nat} (h : σ.wf n) (hm : n ≤ m) : σ.wf m := ⟨h.pos, by have := h.bl; omega, by have := h.tl; omega, by have := h.yl; omega, by have := h.nx; omega, h.ok, h.y256⟩

theorem wf_open {n : Nat} (h : σ.wf n) : σ.open'.wf (n + 1) := by
  refine ⟨?_, ?_, Nat.le_succ_of_le h.tl, Nat.le_succ_of_le h.yl, Nat.le_succ_of_le h.nx, ?_, h.y256⟩
  · simp [Sc.open']
  · simp [Sc.open']; exact h.bl
  · intro m hm p hp
    simp only [Sc.open', List.mem_append, List.mem_singleton] at hm
    rcases hm with hm | rfl
    · exact h.ok m hm p hp
    · simp at hp

theorem wf_close {n : Nat} (h : σ.wf n) : σ.close.wf n := by
  unfold Sc.close
  split
  · exact h
  · rename_i hlt
    refine ⟨?_, ?_, h.tl, h.yl, h.nx, fun m hm => h.ok m (List.mem_of_mem_take hm), h.y256⟩
    · simp; omega
    · simp; have := h.bl; omega

theorem wf_leave {n : Nat} (h : σ.wf n) : σ.leave.wf n := by
  unfold Sc.leave
  split
  · exact h
  · exact ⟨h.pos, h.bl, by simp; have := h.tl; omega, h.yl, h.nx, h.ok, h.y256⟩

theorem wf_enter {n : Nat} (h : σ.wf n) (nm : ByteArray) (tn : Bool) : (σ.enter nm tn).wf (n + 1) := by
  unfold Sc.enter
  split
  · exact h.up (Nat.le_succ _)
  · exact ⟨h.pos, Nat.le_succ_of_le h.bl, by simp; exact h.tl, Nat.le_succ_of_le h.yl, by simp; exact h.nx, h.ok, h.y256⟩

theorem wf_decl {n : Nat} (h : σ.wf n) (nm : ByteArray) (ty : Int) : (σ.decl nm ty).wf (n + 1) := by
  unfold Sc.decl
  split
  · rename_i he
    have h256 : σ.types.length ≠ 256 := by
      intro e
      unfold Sc.declErr at he
      split at he
      · simp at he
      · first | (simp at he; done) | (rw [if_pos e] at he; simp at he)
    have := h.y256
    refine ⟨?_, ?_, Nat.le_succ_of_le h.tl, ?_, Nat.le_succ_of_le h.nx, ?_, ?_⟩
    · simp
    · simp; have := h.bl; omega
    · simp; exact h.yl
    · intro m hm p hp
      simp only [List.mem_append, List.mem_singleton] at hm
      simp only [List.length_append, List.length_cons, List.length_nil]
      rcases hm with hm | rfl
      · have := h.ok m (List.mem_of_mem_take hm) p hp; omega
      · simp only [List.mem_append, List.mem_singleton] at hp
        rcases hp with hp | rfl
        · have ht : σ.top ∈ σ.blocks := by
            unfold Sc.top
            have := h.pos
            rw [List.getD_eq_getElem?_getD, List.getElem?_eq_getElem (by omega)]
            exact List.getElem_mem _
          have := h.ok _ ht p hp; omega
        · show σ.types.length < _; omega
    · simp; omega
  · exact h.up (Nat.le_succ _)

theorem wf_sc0 : sc0.wf 0 := by
  refine ⟨by decide, by decide, by decide, by decide, by decide, ?_, by decide⟩
  show ∀ m ∈ sc0.blocks, ∀ p ∈ m, p.2 < sc0.types.length
  decide

/-- A step of 'run'. -/
def runS (σ : Sc) (s : Stp) : Sc :=
  if s.kind % 6 = 0 then σ.open' else if s.kind % 6 = 1 then σ.close else if s.kind % 6 = 2 then σ.decl s.name s.ty else if s.kind % 6 = 4 then σ.enter s.name s.turns else if s.kind % 6 = 5 then σ.leave else σ
/-- The blocks and turns that it opens. -/
def runB (σ : Sc) (s : Stp) : Int := if s.kind % 6 = 0 then 1 else if s.kind % 6 = 1 then (if 1 < σ.blocks.length then -1 else 0) else 0
def runT (σ : Sc) (s : Stp) : Int := if s.kind % 6 = 4 then (if σ.twice s.name then 0 else 1) else if s.kind % 6 = 5 then (if 0 < σ.turns.length then -1 else 0) else 0
def runL (σ : Sc) (l : List Stp) : Sc := l.foldl runS σ
def runLB : Sc → List Stp → Int
  | _, [] => 0
  | σ, s :: l => runB σ s + runLB (runS σ s) l
def runLT : Sc → List Stp → Int
  | _, [] => 0
  | σ, s :: l => runT σ s + runLT (runS σ s) l

theorem wf_runS {n : Nat} (h : σ.wf n) (s : Stp) : (runS σ s).wf (n + 1) := by
  unfold runS
  split
  · exact wf_open h
  · split
    · exact (wf_close h).up (Nat.le_succ _)
    · split
      · exact wf_decl h _ _
      · split
        · exact wf_enter h _ _
        · split
          · exact (wf_leave h).up (Nat.le_succ _)
          · exact h.up (Nat.le_succ _)

theorem wf_runL : ∀ (l : List Stp) {σ : Sc} {n : Nat}, σ.wf n → (runL σ l).wf (n + l.length)
  | [], _, _, h => h
  | s :: l, _, n, h => by
    have := wf_runL l (wf_runS h s)
    rw [List.length_cons, show n + (l.length + 1) = n + 1 + l.length by omega]
    exact this

end Go.Proofs.Ytnjoaffnfjlcaaa

namespace Go.Proofs.Ytnjoaffnfjlcaaa
open Go Go.Proofs B

variable {σ : Sc}

theorem lookN_snoc {m : Blk} {k : ByteArray} {n : Nat} (h : lookN m k = none) : lookN (m ++ [(k, n)]) k = some n := by
  induction m with
  | nil => simp [lookN]
  | cons p l ih =>
    unfold lookN at h
    split at h
    · simp at h
    · rename_i hk
      rw [List.cons_append]
      unfold lookN
      rw [if_neg hk]; exact ih h

theorem declErr_zero {nm : ByteArray} (h : σ.declErr nm = 0) : lookN σ.top nm = none ∧ σ.types.length ≠ 256 := by
  unfold Sc.declErr at h
  split at h
  · simp at h
  · rename_i hl
    split at h
    · simp at h
    · rename_i h2
      exact ⟨by simpa using hl, h2⟩

theorem find_decl {nm : ByteArray} {ty : Int} (h : σ.declErr nm = 0) (hp : 0 < σ.blocks.length) : (σ.decl nm ty).find nm = some σ.types.length ∧ (σ.decl nm ty).types.getD σ.types.length 0 = ty := by
  obtain ⟨h1, h2⟩ := declErr_zero h
  obtain ⟨m, hm⟩ : ∃ m, σ.blocks.length = m + 1 := ⟨σ.blocks.length - 1, by omega⟩
  have hD : σ.decl nm ty = { σ with blocks := σ.blocks.take m ++ [σ.top ++ [(nm, σ.types.length)]], types := σ.types ++ [ty] } := by
    unfold Sc.decl; rw [if_pos h, hm]; rfl
  rw [hD]
  have hget : (σ.blocks.take m ++ [σ.top ++ [(nm, σ.types.length)]]).getD m [] = σ.top ++ [(nm, σ.types.length)] := by
    rw [List.getD_eq_getElem?_getD, List.getElem?_append_right (by simp; omega)]
    simp [hm]
  have hlen : (σ.blocks.take m ++ [σ.top ++ [(nm, σ.types.length)]]).length = m + 1 := by simp [hm]
  refine ⟨?_, ?_⟩
  · unfold Sc.find Sc.findAt
    dsimp only
    rw [hlen, lastI_succ, hget, lookN_snoc h1, if_pos (by rfl), Option.bind_some, hget, lookN_snoc h1]
  · dsimp only
    rw [List.getD_eq_getElem?_getD, List.getElem?_append_right (Nat.le_refl _)]
    simp

theorem target_enter {nm : ByteArray} {tn : Bool} (h : σ.twice nm = false) : (σ.enter nm tn).target ⟨#[]⟩ false = some σ.next ∧ (σ.enter nm tn).target nm false = some σ.next := by
  have hE : σ.enter nm tn = { σ with turns := σ.turns ++ [⟨nm, tn, σ.next⟩], next := σ.next + 1 } := by unfold Sc.enter; rw [h]; rfl
  rw [hE]
  have hget : (σ.turns ++ [(⟨nm, tn, σ.next⟩ : Trn)]).getD σ.turns.length noTrn = ⟨nm, tn, σ.next⟩ := by
    rw [List.getD_eq_getElem?_getD, List.getElem?_append_right (Nat.le_refl _)]; simp
  have hlen : (σ.turns ++ [(⟨nm, tn, σ.next⟩ : Trn)]).length = σ.turns.length + 1 := by simp
  constructor
  · unfold Sc.target Sc.targetAt
    dsimp only
    rw [hlen, lastI_succ, hget, if_pos (by simp [tMatch]), Option.map_some, hget]
  · unfold Sc.target Sc.targetAt
    dsimp only
    rw [hlen, lastI_succ, hget, if_pos (by simp [tMatch]), Option.map_some, hget]

end Go.Proofs.Ytnjoaffnfjlcaaa

namespace Go.Proofs.Ytnjoaffnfjlcaaa
open Go Go.Proofs B

/-- σ is σ0 with so many blocks and turns more, and types. -/
structure Within (σ0 σ : Sc) (nb nt : Nat) : Prop where
  bl : σ.blocks.take σ0.blocks.length = σ0.blocks
  bn : σ.blocks.length = σ0.blocks.length + nb
  tl : σ.turns.take σ0.turns.length = σ0.turns
  tn : σ.turns.length = σ0.turns.length + nt
  yl : σ.types.take σ0.types.length = σ0.types
  yn : σ0.types.length ≤ σ.types.length

variable {σ0 σ : Sc} {nb nt : Nat}

theorem Within.refl (σ : Sc) : Within σ σ 0 0 := ⟨by simp, by simp, by simp, by simp, by simp, Nat.le_refl _⟩

theorem Within.open (h : Within σ0 σ nb nt) : Within σ0 σ.open' (nb + 1) nt := by
  refine ⟨?_, ?_, h.tl, h.tn, h.yl, h.yn⟩
  · simp only [Sc.open']; rw [List.take_append_of_le_length (by rw [h.bn]; omega)]; exact h.bl
  · simp [Sc.open', h.bn]; omega

theorem Within.close (h : Within σ0 σ (nb + 1) nt) (hp : 0 < σ0.blocks.length) : Within σ0 σ.close nb nt ∧ 1 < σ.blocks.length := by
  have hlt : 1 < σ.blocks.length := by rw [h.bn]; omega
  have hc : σ.close = { σ with blocks := σ.blocks.take (σ.blocks.length - 1) } := by unfold Sc.close; rw [if_neg (by omega)]
  rw [hc]
  refine ⟨⟨?_, ?_, h.tl, h.tn, h.yl, h.yn⟩, hlt⟩
  · dsimp only; rw [List.take_take, Nat.min_eq_left (by rw [h.bn]; omega)]; exact h.bl
  · dsimp only; rw [List.length_take, h.bn]; omega

theorem Within.leave (h : Within σ0 σ nb (nt + 1)) : Within σ0 σ.leave nb nt ∧ 0 < σ.turns.length := by
  have hlt : 0 < σ.turns.length := by rw [h.tn]; omega
  have hc : σ.leave = { σ with turns := σ.turns.take (σ.turns.length - 1) } := by unfold Sc.leave; rw [if_neg (by omega)]
  rw [hc]
  refine ⟨⟨h.bl, h.bn, ?_, ?_, h.yl, h.yn⟩, hlt⟩
  · dsimp only; rw [List.take_take, Nat.min_eq_left (by rw [h.tn]; omega)]; exact h.tl
  · dsimp only; rw [List.length_take, h.tn]; omega

theorem Within.enter (h : Within σ0 σ nb nt) (nm : ByteArray) (tn : Bool) (ht : σ.twice nm = false) : Within σ0 (σ.enter nm tn) nb (nt + 1) := by
  unfold Sc.enter
  rw [if_neg (by rw [ht]; simp)]
  refine ⟨h.bl, h.bn, ?_, ?_, h.yl, h.yn⟩
  · dsimp only; rw [List.take_append_of_le_length (by rw [h.tn]; omega)]; exact h.tl
  · simp [h.tn]; omega

theorem Within.decl (h : Within σ0 σ (nb + 1) nt) (nm : ByteArray) (ty : Int) : Within σ0 (σ.decl nm ty) (nb + 1) nt := by
  unfold Sc.decl
  split
  · refine ⟨?_, ?_, h.tl, h.tn, ?_, ?_⟩
    · dsimp only
      rw [List.take_append_of_le_length (by rw [List.length_take, h.bn]; omega), List.take_take, Nat.min_eq_left (by rw [h.bn]; omega)]
      exact h.bl
    · simp [h.bn]; omega
    · dsimp only; rw [List.take_append_of_le_length h.yn]; exact h.yl
    · simp; have := h.yn; omega
  · exact h

/-- A call of a script, but none that closes or leaves what was there. -/
theorem Within.step (h : Within σ0 σ (nb + 1) (nt + 1)) (hp : 0 < σ0.blocks.length) (s : Stp) (h1 : ¬ (s.kind % 6 = 1 ∧ nb = 0)) (h5 : ¬ (s.kind % 6 = 5 ∧ nt = 0)) :
    ∃ nb' nt' : Nat, Within σ0 (runS σ s) (nb' + 1) (nt' + 1) ∧ (nb' : Int) = nb + runB σ s ∧ (nt' : Int) = nt + runT σ s := by
  by_cases k0 : s.kind % 6 = 0
  · exact ⟨nb + 1, nt, by unfold runS; rw [if_pos k0]; exact h.open, by unfold runB; rw [if_pos k0]; omega, by unfold runT; simp [k0]⟩
  by_cases k1 : s.kind % 6 = 1
  · obtain ⟨m, rfl⟩ : ∃ m, nb = m + 1 := ⟨nb - 1, by have : nb ≠ 0 := fun e => h1 ⟨k1, e⟩; omega⟩
    obtain ⟨g1, g2⟩ := h.close hp
    exact ⟨m, nt, by unfold runS; rw [if_neg k0, if_pos k1]; exact g1, by unfold runB; rw [if_neg k0, if_pos k1, if_pos g2]; omega, by unfold runT; simp [k1]⟩
  by_cases k2 : s.kind % 6 = 2
  · exact ⟨nb, nt, by unfold runS; rw [if_neg k0, if_neg k1, if_pos k2]; exact h.decl _ _, by unfold runB; simp [k2], by unfold runT; simp [k2]⟩
  by_cases k4 : s.kind % 6 = 4
  · cases ht : σ.twice s.name with
    | false => exact ⟨nb, nt + 1, by unfold runS; rw [if_neg k0, if_neg k1, if_neg k2, if_pos k4]; exact h.enter _ _ ht, by unfold runB; simp [k4], by unfold runT; simp [k4, ht]⟩
    | true => exact ⟨nb, nt, by unfold runS Sc.enter; rw [if_neg k0, if_neg k1, if_neg k2, if_pos k4, if_pos ht]; exact h, by unfold runB; simp [k4], by unfold runT; simp [k4, ht]⟩
  by_cases k5 : s.kind % 6 = 5
  · obtain ⟨m, rfl⟩ : ∃ m, nt = m + 1 := ⟨nt - 1, by have : nt ≠ 0 := fun e => h5 ⟨k5, e⟩; omega⟩
    obtain ⟨g1, g2⟩ := h.leave
    exact ⟨nb, m, by unfold runS; rw [if_neg k0, if_neg k1, if_neg k2, if_neg k4, if_pos k5]; exact g1, by unfold runB; simp [k5], by unfold runT; rw [if_neg k4, if_pos k5, if_pos g2]; omega⟩
  · exact ⟨nb, nt, by unfold runS; rw [if_neg k0, if_neg k1, if_neg k2, if_neg k4, if_neg k5]; exact h, by unfold runB; simp [k0, k1], by unfold runT; simp [k4, k5]⟩

/-- All closed and left: names and labels mean what they meant. -/
theorem Within.same (h : Within σ0 σ 0 0) (hok : σ0.ok) (nm lb : ByteArray) (tn : Bool) : findV σ nm = findV σ0 nm ∧ targV σ lb tn = targV σ0 lb tn := by
  have hb : σ.blocks = σ0.blocks := by have := h.bl; rw [List.take_of_length_le (by rw [h.bn]; omega)] at this; exact this
  have ht : σ.turns = σ0.turns := by have := h.tl; rw [List.take_of_length_le (by rw [h.tn]; omega)] at this; exact this
  constructor
  · have hf : σ.find nm = σ0.find nm := by unfold Sc.find Sc.findAt; rw [hb]
    unfold findV
    rw [hf]
    cases hq : σ0.find nm with
    | none => rfl
    | some k =>
      have hk : k < σ0.types.length := by
        unfold Sc.find at hq
        rw [Option.bind_eq_some_iff] at hq
        obtain ⟨i, h1, h2⟩ := hq
        obtain ⟨hi, _, _⟩ := lastI_some h1
        exact hok _ (by rw [List.getD_eq_getElem?_getD, List.getElem?_eq_getElem hi]; exact List.getElem_mem hi) _ (lookN_mem h2)
      dsimp only
      have : σ.types.getD k 0 = σ0.types.getD k 0 := by
        rw [← h.yl, List.getD_eq_getElem?_getD, List.getD_eq_getElem?_getD, List.getElem?_take_of_lt hk]
      rw [this]
  · unfold targV Sc.target Sc.targetAt
    rw [ht]

end Go.Proofs.Ytnjoaffnfjlcaaa

namespace Go.Proofs.Ytnjoaffnfjlcaaa
open Go Go.Proofs B


theorem tmod_lt {x : Int} {n : Int} (hn : 0 < n) : -n < x.tmod n ∧ x.tmod n < n := by
  have h1 := Int.tmod_lt_of_pos x hn
  have h2 := Int.lt_tmod_of_pos x hn
  omega
theorem tmod_emod {x : Int} {n : Int} (hn : 0 < n) : (if x.tmod n < 0 then x.tmod n + n else x.tmod n) = x % n := by
  have h1 := Int.tmod_eq_emod (a := x) (b := n)
  have h2 := Int.emod_nonneg x (show n ≠ 0 by omega)
  have h3 := Int.emod_lt_of_pos x hn
  have h4 : (n.natAbs : Int) = n := by omega
  split at h1
  · rw [if_neg (by omega)]; omega
  · rw [if_pos (by omega)]; omega

theorem pick16 {ext : CallT} (hx : ∀ f args H, f ≠ 22 → ext f args H = none) {H : AHeap} {x n : Int} (hn : 0 < n) (hn2 : n < 1000) : theCall Try.prog ext 16 [.int .i64 x, .int .i64 n] H = some (.ret (.int .i64 (x % n)), H) := by
  have h1 : ¬ (n < 1) := by omega
  have h2 := tmod_lt (x := x) hn
  have h3 := tmod_emod (x := x) hn
  have hrem := fun (x' y' : Operand) => bin_rem (P := Try.prog) (H := H) (t := 3) (x := x') (y := y') (k := .i64) (a := x) (b := n) (by omega)
  refine theCall_run (hx _ _ _ (by decide)) Try.func16 (rs := [.tmp 4]) rfl rfl rfl (by simp) fun tm hl hi => ?_
  replace hl : tm.length = 17 := hl
  have i0 := hi 0
  have i1 := hi 1
  simp only [List.getD_cons_zero, List.getD_cons_succ] at i0 i1
  by_cases hneg : x.tmod n < 0
  · rw [if_pos hneg] at h3
    have hw : IntKind.i64.wrap (x.tmod n + n) = x % n := by rw [IntWalk.i64_in _ (by omega), h3]
    simp (config := { decide := true }) only [theCode_seq, theCode_list, theCode_skip, theCode_ret, theCode_if, evalList_plain, evalList_nil, nd_move, nd_assign, nd_binOp, ok_tmp, ok_const, cl_int, opA_move, opA_assign, opA_bin, contA_val, putT_some, aev_tmp, aev_const, rd_same, rd_ne, List.length_set, thenA_normal, boolOf_bool, bin_lss, bin_add, leaveR_ret, resA_tmp, resA_nil, pack_one, Option.map_some, Option.isSome_some, ne_eq, ↓reduceIte, Nat.reduceLT, Option.some.injEq, hl, i0, i1, h1, hrem, hneg, hw]
  · rw [if_neg hneg] at h3
    simp (config := { decide := true }) only [theCode_seq, theCode_list, theCode_skip, theCode_ret, theCode_if, evalList_plain, evalList_nil, nd_move, nd_assign, nd_binOp, ok_tmp, ok_const, cl_int, opA_move, opA_assign, opA_bin, contA_val, putT_some, aev_tmp, aev_const, rd_same, rd_ne, List.length_set, thenA_normal, boolOf_bool, bin_lss, leaveR_ret, resA_tmp, resA_nil, pack_one, Option.map_some, Option.isSome_some, ne_eq, ↓reduceIte, Nat.reduceLT, Option.some.injEq, hl, i0, i1, h1, hrem, hneg]
    rw [h3]


theorem zf38 : zeroOf Try.prog 38 = some (.agg #[.int .i64 0, .string ⟨#[]⟩, .int .i64 0, .bool false]) := by unfold zeroOf; rw [inf38]; rfl

theorem runLB_le : ∀ (l : List Stp) (σ : Sc), -(l.length : Int) ≤ runLB σ l ∧ runLB σ l ≤ l.length
  | [], σ => by simp [runLB]
  | s :: l, σ => by
    have h := runLB_le l (runS σ s)
    have h1 : -1 ≤ runB σ s ∧ runB σ s ≤ 1 := by unfold runB; split <;> (try split) <;> (try split) <;> omega
    simp only [runLB, List.length_cons]; omega
theorem runLT_le : ∀ (l : List Stp) (σ : Sc), -(l.length : Int) ≤ runLT σ l ∧ runLT σ l ≤ l.length
  | [], σ => by simp [runLT]
  | s :: l, σ => by
    have h := runLT_le l (runS σ s)
    have h1 : -1 ≤ runT σ s ∧ runT σ s ≤ 1 := by unfold runT; split <;> (try split) <;> (try split) <;> omega
    simp only [runLT, List.length_cons]; omega
theorem runLB_snoc : ∀ (l : List Stp) (σ : Sc) (s : Stp), runLB σ (l ++ [s]) = runLB σ l + runB (runL σ l) s
  | [], σ, s => by simp [runLB, runL]
  | t :: l, σ, s => by simp only [List.cons_append, runLB, runLB_snoc l, runL, List.foldl_cons]; omega
theorem runLT_snoc : ∀ (l : List Stp) (σ : Sc) (s : Stp), runLT σ (l ++ [s]) = runLT σ l + runT (runL σ l) s
  | [], σ, s => by simp [runLT, runL]
  | t :: l, σ, s => by simp only [List.cons_append, runLT, runLT_snoc l, runL, List.foldl_cons]; omega
theorem runL_snoc (l : List Stp) (σ : Sc) (s : Stp) : runL σ (l ++ [s]) = runS (runL σ l) s := by simp [runL]

theorem Scr.len {H : AHeap} {v : Value} {l : List Stp} (h : Scr H v l) (H2 : AHeap) : lenS Try.prog H2 22 v = some (.val (.int .i64 l.length) H2) := by
  obtain ⟨a, c, rfl, _, _⟩ := h.shape
  cases a <;> exact lenS_slice isl22
theorem Scr.index {H : AHeap} {v : Value} {l : List Stp} (h : Scr H v l) {i : Nat} (hi : i < l.length) (H2 : AHeap) : indexAddrS Try.prog H2 22 v (.int .i64 i) = some (.val (.pointer (some (addA (baseOf v) (i * 4)))) H2) := by
  obtain ⟨a, c, rfl, _, ha⟩ := h.shape
  obtain ⟨a, rfl⟩ := Option.isSome_iff_exists.1 (ha (by omega))
  rw [indexAddrS_of ⟨by omega, by omega⟩, es22, Int.toNat_natCast]
  rfl

set_option maxHeartbeats 2000000 in
theorem run9 {ext : CallT} (hx : ∀ f args H, f ≠ 22 → ext f args H = none) {Hs : AHeap} (hf0 : Hs.Fresh) {b : Nat} {σ : Sc} {n : Nat} {F0 : Nat → Prop} (h : ScopeAt Hs b σ F0) (hw : σ.wf n) {v : Value} {l : List Stp} (hs : Scr Hs v l) (hd : 0 < l.length → ¬ F0 (baseOf v).block) (hn : n + l.length < 100000) :
    ∃ H', theCall Try.prog ext 9 [.pointer (some ⟨b, 0, none⟩), v] Hs = some (.ret (.tuple #[.int .i64 (1 + runLB σ l), .int .i64 (runLT σ l)]), H') ∧ USt Hs F0 H' b (runL σ l) := by
  refine theCall_goal (F := fun z => ∃ H', z = some (.ret (.tuple #[.int .i64 (1 + runLB σ l), .int .i64 (runLT σ l)]), H') ∧ USt Hs F0 H' b (runL σ l)) (hx _ _ _ (by decide)) Try.func9 (rs := [.tmp 4, .tmp 5]) rfl rfl rfl (by simp) fun tm hl hi => ?_
  replace hl : tm.length = 68 := hl
  have i0 := hi 0
  have i1 := hi 1
  simp only [List.getD_cons_zero, List.getD_cons_succ] at i0 i1
  simp (config := { decide := true }) only [theCode_seq, theCode_list, theCode_ret, theCode_block, evalList_plain, evalList_nil, nd_move, nd_assign, ok_tmp, ok_const, cl_int, opA_move, opA_assign, contA_val, putT_some, aev_tmp, aev_const, rd_ne, thenA_normal, ne_eq]
  refine loop_goal (F := fun z => ∃ H', leaveR Try.prog [.tmp 4, .tmp 5] (thenA (inBlockA 0 z) _) = some (.ret (.tuple #[.int .i64 (1 + runLB σ l), .int .i64 (runLT σ l)]), H') ∧ USt Hs F0 H' b (runL σ l))
    (fun k s => ∃ tm H pre post, s = ⟨tm, [], H⟩ ∧ l = pre ++ post ∧ post.length = k ∧ tm.length = 68 ∧ tm.getD 0 undef = .pointer (some ⟨b, 0, none⟩) ∧ tm.getD 1 undef = v ∧ tm.getD 6 undef = .int .i64 (1 + runLB σ pre) ∧ tm.getD 7 undef = .int .i64 (runLT σ pre) ∧ tm.getD 8 undef = .int .i64 pre.length ∧ USt Hs F0 H b (runL σ pre))
    (fun x s => ∃ tm H, s = ⟨tm, [], H⟩ ∧ x = .exit 0 ∧ tm.length = 68 ∧ tm.getD 6 undef = .int .i64 (1 + runLB σ l) ∧ tm.getD 7 undef = .int .i64 (runLT σ l) ∧ USt Hs F0 H b (runL σ l)) l.length ?_ ?_ ?_
  · refine ⟨_, _, [], l, rfl, rfl, rfl, ?_, ?_, ?_, ?_, ?_, ?_, ⟨F0, h, Upd.refl hf0⟩⟩
    · simp only [List.length_set, hl]
    all_goals simp (config := { decide := true }) only [rd_ne, rd_same, List.length_set, hl, ne_eq, i0, i1, runLB, runLT, List.length_nil, Int.add_zero]
    rfl
  · rintro k _ ⟨tm, H, pre, post, rfl, hpp, hk, hl, i0, i1, i6, i7, i8, h⟩
    have hsH := hs.upd hf0 hd h
    have hln := hsH.len
    cases post with
    | nil =>
      right
      rw [List.append_nil] at hpp
      subst hpp
      have hlt : ¬ ((l.length : Int) < l.length) := by omega
      refine ⟨?x0, ?s0, ?h0, ?hx0, ?hq0⟩
      case h0 =>
        simp (config := { decide := true }) only [theCode_seq, theCode_list, theCode_exit, theCode_if, evalList_plain, evalList_nil, nd_move, nd_binOp, nd_call, ok_tmp, opA_move, opA_bin, opA_len, contA_val, putT_some, aev_tmp, rd_same, rd_ne, List.length_set, thenA_normal, thenA_exit, boolOf_bool, bin_lss, Option.isSome_some, ne_eq, ↓reduceIte, Nat.reduceLT, Option.some.injEq, hl, i1, i8, hln, hlt]
        rfl
      case hx0 => exact fun h => by cases h
      case hq0 =>
        refine ⟨_, _, rfl, rfl, ?_, ?_, ?_, h⟩
        · simp only [List.length_set, hl]
        all_goals simp (config := { decide := true }) only [rd_ne, ne_eq, i6, i7]
    | cons s post =>
      left
      have hil : pre.length < l.length := by rw [hpp]; simp
      have hlt : (pre.length : Int) < l.length := by omega
      have hget : l.getD pre.length ⟨0, ⟨#[]⟩, 0, false⟩ = s := by rw [hpp, List.getD_eq_getElem?_getD, List.getElem?_append_right (Nat.le_refl _)]; simp
      have hixs := hsH.index hil
      have hcl := hsH.cells _ hil
      rw [hget] at hcl
      have ld0 : H.loadV Try.prog 38 (addA (baseOf v) (pre.length * 4)) = some (.agg (stpC s).toArray) := by
        rw [loadV_agg agg38 info38, cells38, hcl]; rfl
      obtain ⟨Hb, eb⟩ : ∃ X, (H.push (.box [.int .i64 0, .string ⟨#[]⟩, .int .i64 0, .bool false] 38)).set H.next (.box (stpC s) 38) = X := ⟨_, rfl⟩
      have st0 : (H.push (.box [.int .i64 0, .string ⟨#[]⟩, .int .i64 0, .bool false] 38)).storeV Try.prog 38 ⟨H.next, 0, none⟩ (.agg (stpC s).toArray) = some Hb := by
        rw [storeV_box info38 get_push_new (by rw [cells38]; rfl) (by rw [vc_agg]; rfl) (by rw [vc_agg]; simp [stpC, fl_string, fl_bool, fl_int]), vc_agg, ← eb]
      have gb : Grown H Hb := by rw [← eb]; exact (Grown.push h.fresh _).set2 _ get_push_new (Nat.le_refl _)
      have hbx : Hb.get H.next = some (.box [.int .i64 s.kind, .string s.name, .int .i64 s.ty, .bool s.turns] 38) := by rw [← eb]; exact get_set_same
      obtain ⟨F, hsA, hU⟩ := h.grow gb
      have hwp := wf_runL pre hw
      have hple : pre.length + post.length + 1 = l.length := by rw [hpp]; simp; omega
      have hpk : theCall Try.prog ext 16 [.int .i64 s.kind, .int .i64 6] Hb = some (.ret (.int .i64 (s.kind % 6)), Hb) := pick16 hx (by decide) (by decide)
      have hbB := runLB_le pre σ
      have hbT := runLT_le pre σ
      have w8 : IntKind.i64.wrap ((pre.length : Int) + 1) = ((pre ++ [s]).length : Nat) := by rw [IntWalk.i64_in _ (by omega)]; simp
      by_cases k0 : s.kind % 6 = 0
      · obtain ⟨H', F', a, sA, u⟩ := open13 (ext := ext) hx gb.fresh hsA (by have := hwp.bl; omega)
        have eS : runS (runL σ pre) s = (runL σ pre).open' := by unfold runS; simp [k0]
        have eB : runB (runL σ pre) s = 1 := by unfold runB; simp [k0]
        have eT : runT (runL σ pre) s = 0 := by unfold runT; simp [k0]
        have w6 : IntKind.i64.wrap (1 + runLB σ pre + 1) = 1 + runLB σ (pre ++ [s]) := by rw [runLB_snoc, eB, IntWalk.i64_in _ (by omega)] <;> omega
        have w7 : runLT σ pre = runLT σ (pre ++ [s]) := by rw [runLT_snoc, eT] <;> omega
        refine ⟨?s1, ?h1, post.length, by rw [← hk]; simp, ?q1⟩
        case h1 =>
          simp (config := { decide := true }) only [theCode_seq, theCode_list, theCode_skip, theCode_block, theCode_if, evalList_plain, evalList_nil, nd_move, nd_assign, nd_alloc, nd_load, nd_store, nd_binOp, nd_fieldAddr, nd_indexAddr, nd_call, ok_tmp, ok_const, ok_func, cl_int, opA_move, opA_assign, opA_load, opA_store, opA_fieldAddr, opA_bin, opA_call, opA_len, opA_indexAddr, opA_alloc, contA_val, contA_skip, contA_enter, callA_ret, putT_some, putT_none, aev_tmp, aev_const, aev_func, rd_same, rd_ne, List.length_set, valA_some, skipA_some, thenA_normal, inBlockA_normal, boolOf_bool, loadS_ptr, storeS_ptr, fieldAddrS_eq, bin_lss, bin_eql, bin_add, callS_func, List.getElem?_cons_zero, Option.map_some, Option.isSome_some, ne_eq, ↓reduceIte, Nat.reduceLT, Nat.zero_add, Option.some.injEq, List.map_cons, List.map_nil, List.all_cons, List.all_nil, Bool.and_true, List.nil_append, List.append_nil, hl, i0, i1, i6, i8, hln, hlt, hixs, sli22, ld0, zf38, vc_agg, st0, hbx, cellO_box, off38_0, agg3, loadV_flat, cell_eq, en16, hpk, en13, k0, a, w6]
          rfl
        case q1 =>
          refine ⟨_, _, pre ++ [s], post, rfl, by rw [hpp]; simp, rfl, ?_, ?_, ?_, ?_, ?_, ?_, ?_⟩
          · simp only [List.length_set, hl]
          rotate_right
          · rw [runL_snoc, eS]; exact ⟨_, sA, hU.trans u⟩
          all_goals simp (config := { decide := true }) only [rd_ne, rd_same, List.length_set, hl, ne_eq, i0, i1, i7, w7, w8]
      by_cases k1 : s.kind % 6 = 1
      · obtain ⟨H', F', a, sA, u⟩ := close17 (ext := ext) hx gb.fresh hsA (by have := hwp.bl; omega)
        by_cases hc : 1 < (runL σ pre).blocks.length
        · rw [decide_eq_true hc] at a
          have eS : runS (runL σ pre) s = (runL σ pre).close := by unfold runS; simp [k1]
          have eB : runB (runL σ pre) s = -1 := by unfold runB; simp [k1, hc]
          have eT : runT (runL σ pre) s = 0 := by unfold runT; simp [k1]
          have w6 : IntKind.i64.wrap (1 + runLB σ pre - 1) = 1 + runLB σ (pre ++ [s]) := by rw [runLB_snoc, eB, IntWalk.i64_in _ (by omega)] <;> omega
          have w7 : runLT σ pre = runLT σ (pre ++ [s]) := by rw [runLT_snoc, eT] <;> omega
          refine ⟨?s2, ?h2, post.length, by rw [← hk]; simp, ?q2⟩
          case h2 =>
            simp (config := { decide := true }) only [theCode_seq, theCode_list, theCode_skip, theCode_block, theCode_if, evalList_plain, evalList_nil, nd_move, nd_assign, nd_alloc, nd_load, nd_store, nd_binOp, nd_fieldAddr, nd_indexAddr, nd_call, ok_tmp, ok_const, ok_func, cl_int, opA_move, opA_assign, opA_load, opA_store, opA_fieldAddr, opA_bin, opA_call, opA_len, opA_indexAddr, opA_alloc, contA_val, contA_skip, contA_enter, callA_ret, putT_some, putT_none, aev_tmp, aev_const, aev_func, rd_same, rd_ne, List.length_set, valA_some, skipA_some, thenA_normal, inBlockA_normal, boolOf_bool, loadS_ptr, storeS_ptr, fieldAddrS_eq, bin_lss, bin_eql, bin_add, bin_sub, callS_func, List.getElem?_cons_zero, Option.map_some, Option.isSome_some, ne_eq, ↓reduceIte, Nat.reduceLT, Nat.zero_add, Option.some.injEq, List.map_cons, List.map_nil, List.all_cons, List.all_nil, Bool.and_true, List.nil_append, List.append_nil, hl, i0, i1, i6, i8, hln, hlt, hixs, sli22, ld0, zf38, vc_agg, st0, hbx, cellO_box, off38_0, agg3, loadV_flat, cell_eq, en16, hpk, en17, k1, a, w6]
            rfl
          case q2 =>
            refine ⟨_, _, pre ++ [s], post, rfl, by rw [hpp]; simp, rfl, ?_, ?_, ?_, ?_, ?_, ?_, ?_⟩
            · simp only [List.length_set, hl]
            rotate_right
            · rw [runL_snoc, eS]; exact ⟨_, sA, hU.trans u⟩
            all_goals simp (config := { decide := true }) only [rd_ne, rd_same, List.length_set, hl, ne_eq, i0, i1, i7, w7, w8]
        · rw [decide_eq_false hc] at a
          have eS : runS (runL σ pre) s = (runL σ pre).close := by unfold runS; simp [k1]
          have eB : runB (runL σ pre) s = 0 := by unfold runB; simp [k1, hc]
          have eT : runT (runL σ pre) s = 0 := by unfold runT; simp [k1]
          have w6 : 1 + runLB σ pre = 1 + runLB σ (pre ++ [s]) := by rw [runLB_snoc, eB] <;> omega
          have w7 : runLT σ pre = runLT σ (pre ++ [s]) := by rw [runLT_snoc, eT] <;> omega
          refine ⟨?s3, ?h3, post.length, by rw [← hk]; simp, ?q3⟩
          case h3 =>
            simp (config := { decide := true }) only [theCode_seq, theCode_list, theCode_skip, theCode_block, theCode_if, evalList_plain, evalList_nil, nd_move, nd_assign, nd_alloc, nd_load, nd_store, nd_binOp, nd_fieldAddr, nd_indexAddr, nd_call, ok_tmp, ok_const, ok_func, cl_int, opA_move, opA_assign, opA_load, opA_store, opA_fieldAddr, opA_bin, opA_call, opA_len, opA_indexAddr, opA_alloc, contA_val, contA_skip, contA_enter, callA_ret, putT_some, putT_none, aev_tmp, aev_const, aev_func, rd_same, rd_ne, List.length_set, valA_some, skipA_some, thenA_normal, inBlockA_normal, boolOf_bool, loadS_ptr, storeS_ptr, fieldAddrS_eq, bin_lss, bin_eql, bin_add, callS_func, List.getElem?_cons_zero, Option.map_some, Option.isSome_some, ne_eq, ↓reduceIte, Nat.reduceLT, Nat.zero_add, Option.some.injEq, List.map_cons, List.map_nil, List.all_cons, List.all_nil, Bool.and_true, List.nil_append, List.append_nil, hl, i0, i1, i8, hln, hlt, hixs, sli22, ld0, zf38, vc_agg, st0, hbx, cellO_box, off38_0, agg3, loadV_flat, cell_eq, en16, hpk, en17, k1, a]
            rfl
          case q3 =>
            refine ⟨_, _, pre ++ [s], post, rfl, by rw [hpp]; simp, rfl, ?_, ?_, ?_, ?_, ?_, ?_, ?_⟩
            · simp only [List.length_set, hl]
            rotate_right
            · rw [runL_snoc, eS]; exact ⟨_, sA, hU.trans u⟩
            all_goals simp (config := { decide := true }) only [rd_ne, rd_same, List.length_set, hl, ne_eq, i0, i1, i6, i7, w6, w7, w8]
      by_cases k2 : s.kind % 6 = 2
      · obtain ⟨H', F', a, sA, u⟩ := declare20 (ext := ext) hx gb.fresh hsA hwp.pos (by have := hwp.bl; omega) (by have := hwp.yl; omega) s.name s.ty
        have eS : runS (runL σ pre) s = (runL σ pre).decl s.name s.ty := by unfold runS; simp [k2]
        have eB : runB (runL σ pre) s = 0 := by unfold runB; simp [k2]
        have eT : runT (runL σ pre) s = 0 := by unfold runT; simp [k2]
        have w6 : 1 + runLB σ pre = 1 + runLB σ (pre ++ [s]) := by rw [runLB_snoc, eB] <;> omega
        have w7 : runLT σ pre = runLT σ (pre ++ [s]) := by rw [runLT_snoc, eT] <;> omega
        refine ⟨?s4, ?h4, post.length, by rw [← hk]; simp, ?q4⟩
        case h4 =>
          simp (config := { decide := true }) only [theCode_seq, theCode_list, theCode_skip, theCode_block, theCode_if, evalList_plain, evalList_nil, nd_move, nd_assign, nd_alloc, nd_load, nd_store, nd_binOp, nd_fieldAddr, nd_indexAddr, nd_call, ok_tmp, ok_const, ok_func, cl_int, opA_move, opA_assign, opA_load, opA_store, opA_fieldAddr, opA_bin, opA_call, opA_len, opA_indexAddr, opA_alloc, contA_val, contA_skip, contA_enter, callA_ret, putT_some, putT_none, aev_tmp, aev_const, aev_func, rd_same, rd_ne, List.length_set, valA_some, skipA_some, thenA_normal, inBlockA_normal, boolOf_bool, loadS_ptr, storeS_ptr, fieldAddrS_eq, bin_lss, bin_eql, bin_add, callS_func, List.getElem?_cons_zero, List.getElem?_cons_succ, Option.map_some, Option.isSome_some, ne_eq, ↓reduceIte, Nat.reduceLT, Nat.zero_add, Option.some.injEq, List.map_cons, List.map_nil, List.all_cons, List.all_nil, Bool.and_true, List.nil_append, List.append_nil, hl, i0, i1, i8, hln, hlt, hixs, sli22, ld0, zf38, vc_agg, st0, hbx, cellO_box, off38_0, off38_1, off38_2, agg3, agg9, loadV_flat, cell_eq, en16, hpk, en20, k2, a]
          rfl
        case q4 =>
          refine ⟨_, _, pre ++ [s], post, rfl, by rw [hpp]; simp, rfl, ?_, ?_, ?_, ?_, ?_, ?_, ?_⟩
          · simp only [List.length_set, hl]
          rotate_right
          · rw [runL_snoc, eS]; exact ⟨_, sA, hU.trans u⟩
          all_goals simp (config := { decide := true }) only [rd_ne, rd_same, List.length_set, hl, ne_eq, i0, i1, i6, i7, w6, w7, w8]
      by_cases k4 : s.kind % 6 = 4
      · obtain ⟨H', F', a, sA, u⟩ := enter14 (ext := ext) hx gb.fresh hsA (by have := hwp.tl; omega) (by have := hwp.nx; omega) s.name s.turns
        cases hc : (runL σ pre).twice s.name with
        | true =>
          rw [show entV2 (runL σ pre) s.name = .tuple #[.int .i64 0, .int .i64 70] by unfold entV2; rw [hc]; rfl] at a
          have eS : runS (runL σ pre) s = (runL σ pre).enter s.name s.turns := by unfold runS; simp [k4]
          have eB : runB (runL σ pre) s = 0 := by unfold runB; simp [k4]
          have eT : runT (runL σ pre) s = 0 := by unfold runT; simp [k4, hc]
          have w6 : 1 + runLB σ pre = 1 + runLB σ (pre ++ [s]) := by rw [runLB_snoc, eB] <;> omega
          have w7 : runLT σ pre = runLT σ (pre ++ [s]) := by rw [runLT_snoc, eT] <;> omega
          refine ⟨?s5, ?h5, post.length, by rw [← hk]; simp, ?q5⟩
          case h5 =>
            simp (config := { decide := true }) only [theCode_seq, theCode_list, theCode_skip, theCode_block, theCode_if, evalList_plain, evalList_nil, nd_move, nd_assign, nd_alloc, nd_load, nd_store, nd_binOp, nd_fieldAddr, nd_indexAddr, nd_extract, nd_call, ok_tmp, ok_const, ok_func, cl_int, opA_move, opA_assign, opA_load, opA_store, opA_fieldAddr, opA_extract, opA_bin, opA_call, opA_len, opA_indexAddr, opA_alloc, contA_val, contA_skip, contA_enter, callA_ret, putT_some, putT_none, aev_tmp, aev_const, aev_func, rd_same, rd_ne, List.length_set, valA_some, skipA_some, thenA_normal, inBlockA_normal, boolOf_bool, loadS_ptr, storeS_ptr, fieldAddrS_eq, extractS_tuple, bin_lss, bin_eql, bin_add, callS_func, List.getElem?_toArray, List.getElem?_cons_zero, List.getElem?_cons_succ, Option.map_some, Option.isSome_some, ne_eq, ↓reduceIte, Nat.reduceLT, Nat.zero_add, Option.some.injEq, List.map_cons, List.map_nil, List.all_cons, List.all_nil, Bool.and_true, List.nil_append, List.append_nil, hl, i0, i1, i8, hln, hlt, hixs, sli22, ld0, zf38, vc_agg, st0, hbx, cellO_box, off38_0, off38_1, off38_3, agg3, agg9, agg4, loadV_flat, cell_eq, en16, hpk, en14, k4, a]
            rfl
          case q5 =>
            refine ⟨_, _, pre ++ [s], post, rfl, by rw [hpp]; simp, rfl, ?_, ?_, ?_, ?_, ?_, ?_, ?_⟩
            · simp only [List.length_set, hl]
            rotate_right
            · rw [runL_snoc, eS]; exact ⟨_, sA, hU.trans u⟩
            all_goals simp (config := { decide := true }) only [rd_ne, rd_same, List.length_set, hl, ne_eq, i0, i1, i6, i7, w6, w7, w8]
        | false =>
          rw [show entV2 (runL σ pre) s.name = .tuple #[.int .i64 (runL σ pre).next, .int .i64 0] by unfold entV2; rw [hc]; rfl] at a
          have eS : runS (runL σ pre) s = (runL σ pre).enter s.name s.turns := by unfold runS; simp [k4]
          have eB : runB (runL σ pre) s = 0 := by unfold runB; simp [k4]
          have eT : runT (runL σ pre) s = 1 := by unfold runT; simp [k4, hc]
          have w6 : 1 + runLB σ pre = 1 + runLB σ (pre ++ [s]) := by rw [runLB_snoc, eB] <;> omega
          have w7 : IntKind.i64.wrap (runLT σ pre + 1) = runLT σ (pre ++ [s]) := by rw [runLT_snoc, eT, IntWalk.i64_in _ (by omega)] <;> omega
          refine ⟨?s6, ?h6, post.length, by rw [← hk]; simp, ?q6⟩
          case h6 =>
            simp (config := { decide := true }) only [theCode_seq, theCode_list, theCode_skip, theCode_block, theCode_if, evalList_plain, evalList_nil, nd_move, nd_assign, nd_alloc, nd_load, nd_store, nd_binOp, nd_fieldAddr, nd_indexAddr, nd_extract, nd_call, ok_tmp, ok_const, ok_func, cl_int, opA_move, opA_assign, opA_load, opA_store, opA_fieldAddr, opA_extract, opA_bin, opA_call, opA_len, opA_indexAddr, opA_alloc, contA_val, contA_skip, contA_enter, callA_ret, putT_some, putT_none, aev_tmp, aev_const, aev_func, rd_same, rd_ne, List.length_set, valA_some, skipA_some, thenA_normal, inBlockA_normal, boolOf_bool, loadS_ptr, storeS_ptr, fieldAddrS_eq, extractS_tuple, bin_lss, bin_eql, bin_add, callS_func, List.getElem?_toArray, List.getElem?_cons_zero, List.getElem?_cons_succ, Option.map_some, Option.isSome_some, ne_eq, ↓reduceIte, Nat.reduceLT, Nat.zero_add, Option.some.injEq, List.map_cons, List.map_nil, List.all_cons, List.all_nil, Bool.and_true, List.nil_append, List.append_nil, hl, i0, i1, i7, i8, hln, hlt, hixs, sli22, ld0, zf38, vc_agg, st0, hbx, cellO_box, off38_0, off38_1, off38_3, agg3, agg9, agg4, loadV_flat, cell_eq, en16, hpk, en14, k4, a, w7]
            rfl
          case q6 =>
            refine ⟨_, _, pre ++ [s], post, rfl, by rw [hpp]; simp, rfl, ?_, ?_, ?_, ?_, ?_, ?_, ?_⟩
            · simp only [List.length_set, hl]
            rotate_right
            · rw [runL_snoc, eS]; exact ⟨_, sA, hU.trans u⟩
            all_goals simp (config := { decide := true }) only [rd_ne, rd_same, List.length_set, hl, ne_eq, i0, i1, i6, w6, w8]
      by_cases k5 : s.kind % 6 = 5
      · obtain ⟨H', F', a, sA, u⟩ := leave18 (ext := ext) hx gb.fresh hsA (by have := hwp.tl; omega)
        by_cases hc : 0 < (runL σ pre).turns.length
        · rw [decide_eq_true hc] at a
          have eS : runS (runL σ pre) s = (runL σ pre).leave := by unfold runS; simp [k5]
          have eB : runB (runL σ pre) s = 0 := by unfold runB; simp [k5]
          have eT : runT (runL σ pre) s = -1 := by unfold runT; simp [k5, hc]
          have w6 : 1 + runLB σ pre = 1 + runLB σ (pre ++ [s]) := by rw [runLB_snoc, eB] <;> omega
          have w7 : IntKind.i64.wrap (runLT σ pre - 1) = runLT σ (pre ++ [s]) := by rw [runLT_snoc, eT, IntWalk.i64_in _ (by omega)] <;> omega
          refine ⟨?s7, ?h7, post.length, by rw [← hk]; simp, ?q7⟩
          case h7 =>
            simp (config := { decide := true }) only [theCode_seq, theCode_list, theCode_skip, theCode_block, theCode_if, evalList_plain, evalList_nil, nd_move, nd_assign, nd_alloc, nd_load, nd_store, nd_binOp, nd_fieldAddr, nd_indexAddr, nd_call, ok_tmp, ok_const, ok_func, cl_int, opA_move, opA_assign, opA_load, opA_store, opA_fieldAddr, opA_bin, opA_call, opA_len, opA_indexAddr, opA_alloc, contA_val, contA_skip, contA_enter, callA_ret, putT_some, putT_none, aev_tmp, aev_const, aev_func, rd_same, rd_ne, List.length_set, valA_some, skipA_some, thenA_normal, inBlockA_normal, boolOf_bool, loadS_ptr, storeS_ptr, fieldAddrS_eq, bin_lss, bin_eql, bin_add, bin_sub, callS_func, List.getElem?_cons_zero, Option.map_some, Option.isSome_some, ne_eq, ↓reduceIte, Nat.reduceLT, Nat.zero_add, Option.some.injEq, List.map_cons, List.map_nil, List.all_cons, List.all_nil, Bool.and_true, List.nil_append, List.append_nil, hl, i0, i1, i7, i8, hln, hlt, hixs, sli22, ld0, zf38, vc_agg, st0, hbx, cellO_box, off38_0, agg3, loadV_flat, cell_eq, en16, hpk, en18, k5, a, w7]
            rfl
          case q7 =>
            refine ⟨_, _, pre ++ [s], post, rfl, by rw [hpp]; simp, rfl, ?_, ?_, ?_, ?_, ?_, ?_, ?_⟩
            · simp only [List.length_set, hl]
            rotate_right
            · rw [runL_snoc, eS]; exact ⟨_, sA, hU.trans u⟩
            all_goals simp (config := { decide := true }) only [rd_ne, rd_same, List.length_set, hl, ne_eq, i0, i1, i6, w6, w8]
        · rw [decide_eq_false hc] at a
          have eS : runS (runL σ pre) s = (runL σ pre).leave := by unfold runS; simp [k5]
          have eB : runB (runL σ pre) s = 0 := by unfold runB; simp [k5]
          have eT : runT (runL σ pre) s = 0 := by unfold runT; simp [k5, hc]
          have w6 : 1 + runLB σ pre = 1 + runLB σ (pre ++ [s]) := by rw [runLB_snoc, eB] <;> omega
          have w7 : runLT σ pre = runLT σ (pre ++ [s]) := by rw [runLT_snoc, eT] <;> omega
          refine ⟨?s8, ?h8, post.length, by rw [← hk]; simp, ?q8⟩
          case h8 =>
            simp (config := { decide := true }) only [theCode_seq, theCode_list, theCode_skip, theCode_block, theCode_if, evalList_plain, evalList_nil, nd_move, nd_assign, nd_alloc, nd_load, nd_store, nd_binOp, nd_fieldAddr, nd_indexAddr, nd_call, ok_tmp, ok_const, ok_func, cl_int, opA_move, opA_assign, opA_load, opA_store, opA_fieldAddr, opA_bin, opA_call, opA_len, opA_indexAddr, opA_alloc, contA_val, contA_skip, contA_enter, callA_ret, putT_some, putT_none, aev_tmp, aev_const, aev_func, rd_same, rd_ne, List.length_set, valA_some, skipA_some, thenA_normal, inBlockA_normal, boolOf_bool, loadS_ptr, storeS_ptr, fieldAddrS_eq, bin_lss, bin_eql, bin_add, callS_func, List.getElem?_cons_zero, Option.map_some, Option.isSome_some, ne_eq, ↓reduceIte, Nat.reduceLT, Nat.zero_add, Option.some.injEq, List.map_cons, List.map_nil, List.all_cons, List.all_nil, Bool.and_true, List.nil_append, List.append_nil, hl, i0, i1, i8, hln, hlt, hixs, sli22, ld0, zf38, vc_agg, st0, hbx, cellO_box, off38_0, agg3, loadV_flat, cell_eq, en16, hpk, en18, k5, a]
            rfl
          case q8 =>
            refine ⟨_, _, pre ++ [s], post, rfl, by rw [hpp]; simp, rfl, ?_, ?_, ?_, ?_, ?_, ?_, ?_⟩
            · simp only [List.length_set, hl]
            rotate_right
            · rw [runL_snoc, eS]; exact ⟨_, sA, hU.trans u⟩
            all_goals simp (config := { decide := true }) only [rd_ne, rd_same, List.length_set, hl, ne_eq, i0, i1, i6, i7, w6, w7, w8]
      have eS : runS (runL σ pre) s = runL σ pre := by unfold runS; simp [k0, k1, k2, k4, k5]
      have eB : runB (runL σ pre) s = 0 := by unfold runB; simp [k0, k1]
      have eT : runT (runL σ pre) s = 0 := by unfold runT; simp [k4, k5]
      have w6 : 1 + runLB σ pre = 1 + runLB σ (pre ++ [s]) := by rw [runLB_snoc, eB] <;> omega
      have w7 : runLT σ pre = runLT σ (pre ++ [s]) := by rw [runLT_snoc, eT] <;> omega
      refine ⟨?s9, ?h9, post.length, by rw [← hk]; simp, ?q9⟩
      case h9 =>
        simp (config := { decide := true }) only [theCode_seq, theCode_list, theCode_skip, theCode_block, theCode_if, evalList_plain, evalList_nil, nd_move, nd_assign, nd_alloc, nd_load, nd_store, nd_binOp, nd_fieldAddr, nd_indexAddr, nd_call, ok_tmp, ok_const, ok_func, cl_int, opA_move, opA_assign, opA_load, opA_store, opA_fieldAddr, opA_bin, opA_call, opA_len, opA_indexAddr, opA_alloc, contA_val, contA_skip, contA_enter, callA_ret, putT_some, putT_none, aev_tmp, aev_const, aev_func, rd_same, rd_ne, List.length_set, valA_some, skipA_some, thenA_normal, inBlockA_normal, boolOf_bool, loadS_ptr, storeS_ptr, fieldAddrS_eq, bin_lss, bin_eql, bin_add, callS_func, List.getElem?_cons_zero, Option.map_some, Option.isSome_some, ne_eq, ↓reduceIte, Nat.reduceLT, Nat.zero_add, Option.some.injEq, List.map_cons, List.map_nil, List.all_cons, List.all_nil, Bool.and_true, List.nil_append, List.append_nil, hl, i1, i8, hln, hlt, hixs, sli22, ld0, zf38, vc_agg, st0, hbx, cellO_box, off38_0, agg3, loadV_flat, cell_eq, en16, hpk, k0, k1, k2, k4, k5]
        rfl
      case q9 =>
        refine ⟨_, _, pre ++ [s], post, rfl, by rw [hpp]; simp, rfl, ?_, ?_, ?_, ?_, ?_, ?_, ?_⟩
        · simp only [List.length_set, hl]
        rotate_right
        · rw [runL_snoc, eS]; exact ⟨F, hsA, hU⟩
        all_goals simp (config := { decide := true }) only [rd_ne, rd_same, List.length_set, hl, ne_eq, i0, i1, i6, i7, w6, w7, w8]

  · rintro x _ hx' ⟨tm, H, rfl, rfl, hl, i6, i7, h⟩
    refine ⟨H, ?_, h⟩
    simp (config := { decide := true }) only [rd_same, rd_ne, List.length_set, thenA_normal, inBlockA_exit, leaveR_ret, resA_tmp, resA_nil, pack_two, Option.map_some, ne_eq, ↓reduceIte, Nat.reduceLT, hl, i6, i7]

end Go.Proofs.Ytnjoaffnfjlcaaa

namespace Go.Proofs.Ytnjoaffnfjlcaaa
open Go Go.Proofs B

theorem own_upto {H : AHeap} {t e sz : Nat} {i : TypeInfo} {v : Value} {n m : Nat} {cells : List Value} {k : IntKind} (h : Own H e sz v n cells) (hi : sliceInfo Try.prog t = some (i, e)) (hm : m ≤ n) (H2 : AHeap) :
    ∃ v', sliceS Try.prog H2 t v none (some (.int k m)) = some (.val v' H2) ∧ Own H e sz v' m (cells.take (m * sz)) := by
  rcases Nat.eq_zero_or_pos n with hn | hn
  · subst hn
    obtain rfl : m = 0 := by omega
    cases h with
    | nil =>
      refine ⟨.slice none 0 0, ?_, by simpa using Own.nil⟩
      unfold sliceS sliceOf boundOf
      rw [hi]
      simp [valA]
    | @row i' g n' c cs st hg h2 h3 h4 h5 =>
      have ho := Own.row (H := H) (e := e) (sz := sz) (i := i') (g := g) (n := 0) (c := c) (cs := cs) (st := st) hg h2 h3 h4 h5
      refine ⟨.slice (some ⟨i', 0, some g⟩) 0 c, ?_, by simpa using ho⟩
      unfold sliceS
      rw [hi]
      dsimp only
      rw [sliceOf_upto (by omega)]
      rfl
  · obtain ⟨hv, hc, _⟩ := h.shape hn
    have h1 := sliceS_upto (P := Try.prog) (k := k) (m := m) h hn hi (by omega) (by omega) H2
    rw [Int.toNat_natCast] at h1
    refine ⟨_, h1, ?_⟩
    rw [hv] at h
    exact h.cut hm


set_option maxHeartbeats 2000000 in
theorem same19 {ext : CallT} (hx : ∀ f args H, f ≠ 22 → ext f args H = none) {H : AHeap} {v w : Value} {xs : List Int} (ha : Own H 3 1 v xs.length (xs.map tyC)) (hb : Own H 3 1 w xs.length (xs.map tyC)) (hn : xs.length < 1000000) :
    theCall Try.prog ext 19 [v, w] H = some (.ret (.bool true), H) := by
  have ca := fun H2 => ha.lenS isl32 H2
  have cb := fun H2 => hb.lenS isl32 H2
  refine theCall_goal (F := fun z => z = some (.ret (.bool true), H)) (hx _ _ _ (by decide)) Try.func19 (rs := [.tmp 4]) rfl rfl rfl (by simp) fun tm hl hi => ?_
  replace hl : tm.length = 26 := hl
  have i0 := hi 0
  have i1 := hi 1
  simp only [List.getD_cons_zero, List.getD_cons_succ] at i0 i1
  simp (config := { decide := true }) only [theCode_seq, theCode_list, theCode_skip, theCode_ret, theCode_block, theCode_if, evalList_plain, evalList_nil, nd_move, nd_assign, nd_binOp, nd_call, ok_tmp, ok_const, cl_int, cl_bool, opA_move, opA_assign, opA_bin, opA_len, contA_val, putT_some, aev_tmp, aev_const, rd_same, rd_ne, List.length_set, thenA_normal, boolOf_bool, bin_neq, Option.isSome_some, ne_eq, ↓reduceIte, Nat.reduceLT, Option.some.injEq, hl, i0, i1, ca, cb, eq_self, decide_true, Bool.not_true]
  refine loop_goal (F := fun z => leaveR Try.prog [.tmp 4] (thenA (inBlockA 0 z) _) = some (.ret (.bool true), H))
    (fun k s => ∃ tm i, s = ⟨tm, [], H⟩ ∧ i + k = xs.length ∧ tm.length = 26 ∧ tm.getD 0 undef = v ∧ tm.getD 1 undef = w ∧ tm.getD 5 undef = .int .i64 (i : Nat))
    (fun x s => ∃ tm, s = ⟨tm, [], H⟩ ∧ x = .exit 0 ∧ tm.length = 26) xs.length ?_ ?_ ?_
  · refine ⟨_, 0, rfl, by omega, ?_, ?_, ?_, ?_⟩
    · simp only [List.length_set, hl]
    all_goals simp (config := { decide := true }) only [rd_ne, rd_same, List.length_set, hl, ne_eq, i0, i1]
    rfl
  · rintro k _ ⟨tm, i, rfl, hik, hl, i0, i1, i5⟩
    cases k with
    | zero =>
      right
      have hlt : ¬ ((i : Int) < xs.length) := by omega
      refine ⟨?x0, ?s0, ?h0, ?hx0, ?hq0⟩
      case h0 =>
        simp (config := { decide := true }) only [theCode_seq, theCode_list, theCode_exit, theCode_if, evalList_plain, evalList_nil, nd_move, nd_binOp, nd_call, ok_tmp, opA_move, opA_bin, opA_len, contA_val, putT_some, aev_tmp, rd_same, rd_ne, List.length_set, thenA_normal, thenA_exit, boolOf_bool, bin_lss, Option.isSome_some, ne_eq, ↓reduceIte, Nat.reduceLT, Option.some.injEq, hl, i0, i5, ca, hlt]
        rfl
      case hx0 => exact fun h => by cases h
      case hq0 => exact ⟨_, rfl, rfl, by simp only [List.length_set, hl]⟩
    | succ k =>
      left
      have hlt : (i : Int) < xs.length := by omega
      have hia := fun H2 => indexAddrS_own (j := i) (k := .i64) ha (by omega) (by omega) es32 H2
      have hib := fun H2 => indexAddrS_own (j := i) (k := .i64) hb (by omega) (by omega) es32 H2
      simp only [Int.toNat_natCast] at hia hib
      have hil : i < xs.length := by omega
      have la : H.cell (addA (baseOf v) (i * 1)) = some (.int .i64 xs[i]) := by
        rw [ha.cell (by omega)]; simp [List.getElem?_map, List.getElem?_eq_getElem hil, tyC]
      have lb : H.cell (addA (baseOf w) (i * 1)) = some (.int .i64 xs[i]) := by
        rw [hb.cell (by omega)]; simp [List.getElem?_map, List.getElem?_eq_getElem hil, tyC]
      have w5 : IntKind.i64.wrap ((i : Int) + 1) = ((i + 1 : Nat) : Int) := by rw [IntWalk.i64_in _ (by omega)]; omega
      refine ⟨?s1, ?h1, k, Nat.lt_succ_self _, ?q1⟩
      case h1 =>
        simp (config := { decide := true }) only [theCode_seq, theCode_list, theCode_skip, theCode_block, theCode_if, evalList_plain, evalList_nil, nd_move, nd_binOp, nd_call, ok_tmp, ok_const, cl_int, opA_move, opA_bin, opA_len, contA_val, putT_some, aev_tmp, aev_const, rd_same, rd_ne, List.length_set, thenA_normal, boolOf_bool, bin_lss, Option.isSome_some, ne_eq, ↓reduceIte, Nat.reduceLT, Option.some.injEq, hl, i0, i5, ca, hlt]
        rw [theCode_text (by kernel_rfl)]
        simp (config := { decide := true }) only [theCode_skip, theCode_if, evalList_plain, evalList_nil, nd_move, nd_assign, nd_load, nd_binOp, nd_indexAddr, ok_tmp, opA_move, opA_assign, opA_load, opA_bin, opA_indexAddr, contA_val, putT_some, aev_tmp, rd_same, rd_ne, List.length_set, valA_some, thenA_normal, inBlockA_normal, boolOf_bool, loadS_ptr, bin_neq, bin_add, Option.isSome_some, ne_eq, ↓reduceIte, Nat.reduceLT, Option.some.injEq, dropP_normal, hl, i0, i1, i5, hia, hib, sli32, la, lb, agg3, loadV_flat, eq_self, decide_true, Bool.not_true]
        rfl
      case q1 =>
        refine ⟨_, i + 1, rfl, by omega, ?_, ?_, ?_, ?_⟩
        · simp only [List.length_set, hl]
        all_goals simp (config := { decide := true }) only [rd_ne, rd_same, List.length_set, hl, ne_eq, i0, i1, w5]
  · rintro x _ hx' ⟨tm, rfl, rfl, hl⟩
    simp (config := { decide := true }) only [rd_same, thenA_normal, inBlockA_exit, leaveR_ret, resA_tmp, resA_nil, pack_one, Option.map_some, ↓reduceIte, Nat.reduceLT, hl]

end Go.Proofs.Ytnjoaffnfjlcaaa

namespace Go.Proofs.Ytnjoaffnfjlcaaa
open Go Go.Proofs B Go.ChangeShapes Go.WideShapes Go.ChangeAt Go.RowKit Go.ChangeMaps

theorem Try.own : ownKnob Try.prog.godebug = none := by kernel_rfl
theorem Try.laidOut : laidOutB Try.prog = true := by kernel_rfl
theorem Try.mapsRow : mapsRowed Try.prog = true := by kernel_rfl
theorem Try.kids : Kids Try.prog (· < Try.prog.types.size) := kids_rows Try.laidOut Try.mapsRow
theorem Try.full : ∀ t e, t < Try.prog.types.size → Try.prog.underlying t = some (.slice e) → 0 < Try.prog.cellsOf e := slices_full_of Try.prog (by kernel_rfl)
theorem ext0_ok : CallOK Try.prog (fun _ _ _ => none) := fun _ _ _ _ _ h => by simp at h
theorem Try.mixed : Try.prog.follows .mixedOrders = true := Try.checked.mixed

section
variable {H : Type} {enc : TypeId × Value → H} {W : World} {base : Nat} {spare : Nat → Bool} {held : Bool}

theorem trod_step {n : Nat} {cs : List Value} {x : DataW H × List MemPlace} (h : DataW.trod enc Try.prog W base spare held n 38 cs = some x) : ∃ s : Stp, cs = stpC s := by
  obtain ⟨xs, n', rfl, hx, hl, hxl, hf⟩ := DataW.trod_struct (und_of Try.underlying38) h
  have hl4 : cs.length = 4 := by rw [hl, cells38]
  obtain ⟨a, b, c, d, rfl⟩ : ∃ a b c d, cs = [a, b, c, d] := by
    match cs, hl4 with
    | [a, b, c, d], _ => exact ⟨a, b, c, d, rfl⟩
  have hx4 : xs.length = 4 := hxl
  have h0 : DataW.trod enc Try.prog W base spare held n' 3 ((([a, b, c, d] : List Value).drop 0).take (Try.prog.cellsOf 3)) = xs[0]? := hf 0 _ rfl
  have h1 : DataW.trod enc Try.prog W base spare held n' 9 ((([a, b, c, d] : List Value).drop 1).take (Try.prog.cellsOf 9)) = xs[1]? := hf 1 _ rfl
  have h2 : DataW.trod enc Try.prog W base spare held n' 3 ((([a, b, c, d] : List Value).drop 2).take (Try.prog.cellsOf 3)) = xs[2]? := hf 2 _ rfl
  have h3 : DataW.trod enc Try.prog W base spare held n' 4 ((([a, b, c, d] : List Value).drop 3).take (Try.prog.cellsOf 4)) = xs[3]? := hf 3 _ rfl
  rw [List.getElem?_eq_getElem (by omega)] at h0 h1 h2 h3
  simp only [cells3, cells9, cells4, List.drop_zero, List.drop_succ_cons, List.take_succ_cons, List.take_zero] at h0 h1 h2 h3
  obtain ⟨k, e0, _⟩ := DataW.trod_int Try.underlying3 h0
  obtain ⟨nm, e1, _⟩ := DataW.trod_string Try.underlying9 h1
  obtain ⟨ty, e2, _⟩ := DataW.trod_int Try.underlying3 h2
  obtain ⟨tn, e3, _⟩ := DataW.trod_bool Try.underlying4 h3
  simp only [List.cons.injEq, and_true] at e0 e1 e2 e3
  subst e0; subst e1; subst e2; subst e3
  exact ⟨⟨k, nm, ty, tn⟩, rfl⟩

/-- A script that came in: what the abstract machine is handed for it. -/
theorem script_in {v : Value} {d : DataW H} {p : List MemPlace} (hv : ∃ a len cap, v = .slice a len cap) (hs : ∀ b, spare b = true) (h : DataW.Trod enc Try.prog W base spare held 22 v d p) :
    ∃ v' l, VRel (embOf W) v' v ∧ Scr (heapOf W) v' l := by
  obtain ⟨n, h⟩ := h
  obtain ⟨a0, len0, cap0, rfl⟩ := hv
  rw [show (Value.slice a0 len0 cap0).cells.toList = [.slice a0 len0 cap0] by simp [Value.cells]] at h
  rcases DataW.trod_slice (und_of Try.underlying22) h with ⟨e, _⟩ | ⟨a, len, cap, elems, rest, n', _, e, _, hb, hlc, _, hel, hE, hR, _⟩
  · simp only [List.cons.injEq, Value.slice.injEq, and_true] at e
    obtain ⟨rfl, rfl, rfl⟩ := e
    exact ⟨_, [], .closed rfl, ⟨none, 0, rfl, Nat.le_refl _, fun h => by simp at h⟩, fun h => by simp at h, fun i hi => by simp at hi⟩
  · simp only [List.cons.injEq, Value.slice.injEq, and_true] at e
    obtain ⟨rfl, rfl, rfl⟩ := e
    rw [cells38] at hE hR
    rcases Nat.eq_zero_or_pos cap0 with hc0 | hc0
    · subst hc0
      obtain rfl : len0 = 0 := by omega
      exact ⟨_, [], good_empty, ⟨_, 0, rfl, Nat.le_refl _, fun h => by simp at h⟩, fun h => by simp at h, fun i hi => by simp at hi⟩
    have hstep : ∀ i, i < len0 → ∃ s : Stp, W.cells? base (a.add (i * 4)) 4 = some (stpC s) := by
      intro i hi
      have h1 := hE i hi
      rw [List.getElem?_eq_getElem (by omega), Option.bind_eq_some_iff] at h1
      obtain ⟨cs, h2, h3⟩ := h1
      obtain ⟨s, rfl⟩ := trod_step h3
      exact ⟨s, h2⟩
    have hrow : a.spot = none ∧ isRow W a.block = true := by
      have : ∃ cs, W.cells? base (a.add 0) 4 = some cs := by
        rcases Nat.eq_zero_or_pos len0 with hl0 | hl0
        · subst hl0
          obtain ⟨hr1, hr2⟩ := hR (hs _)
          have h1 := hr2 0 (by omega)
          rw [List.getElem?_eq_getElem (by omega), Option.bind_eq_some_iff] at h1
          obtain ⟨cs, h2, _⟩ := h1
          exact ⟨cs, by simpa using h2⟩
        · obtain ⟨s, hs⟩ := hstep 0 hl0
          exact ⟨_, by simpa using hs⟩
      obtain ⟨cs, hcs⟩ := this
      obtain ⟨h1, h2⟩ := cells?_at hcs
      have h3 := h2 0 (cs[0]'(by omega)) (List.getElem?_eq_getElem (by omega))
      have h4 := cell_isRow h3
      simpa [Addr.add] using h4
    obtain ⟨hsp, hir⟩ := hrow
    obtain ⟨f, hf⟩ : ∃ f : Nat → Stp, ∀ i, i < len0 → W.cells? base (a.add (i * 4)) 4 = some (stpC (f i)) :=
      ⟨fun i => if h : i < len0 then (hstep i h).choose else ⟨0, ⟨#[]⟩, 0, false⟩, fun i hi => by dsimp only; rw [dif_pos hi]; exact (hstep i hi).choose_spec⟩
    refine ⟨.slice (some a) len0 cap0, (List.range len0).map f, good_slice hsp hir hlc, ⟨some a, cap0, by simp, by simpa using hlc, fun _ => rfl⟩, fun _ => ?_, fun i hi => ?_⟩
    · obtain ⟨c, e', fz, hcl⟩ := isRow_some hir
      unfold AHeap.elemOk
      rw [show (baseOf (.slice (some a) len0 cap0)).block = a.block from rfl, heapOf_view hcl]
      rfl
    · have hi' : i < len0 := by simpa using hi
      have hg : ((List.range len0).map f).getD i ⟨0, ⟨#[]⟩, 0, false⟩ = f i := by
        rw [List.getD_eq_getElem?_getD, List.getElem?_map, List.getElem?_range hi']; rfl
      rw [hg]
      obtain ⟨h1, h2⟩ := cells?_at (hf i hi')
      have hsp' : (addA a (i * 4)).spot = none := hsp
      refine heapOf_readN (a := addA a (i * 4)) hsp' rfl fun j v hj => ?_
      have h3 := h2 j v hj
      rw [addA_add' hsp, addA_add' hsp'] at h3
      refine ⟨h3, .closed ?_⟩
      have hm := List.mem_of_getElem? hj
      simp only [stpC, List.mem_cons, List.not_mem_nil, or_false] at hm
      rcases hm with rfl | rfl | rfl | rfl <;> simp [closedV]

end
end Go.Proofs.Ytnjoaffnfjlcaaa

namespace Go.Proofs.Ytnjoaffnfjlcaaa
open Go Go.Proofs B

structure Loc where
  name : ByteArray
  block : Nat
  slot : Nat
  ty : Int

structure Rf where
  blocks : Nat
  locals : List Loc
  types : List Int
  turns : List Trn
  next : Nat

def noLoc : Loc := ⟨⟨#[]⟩, 0, 0, 0⟩
def locC (l : Loc) : List Value := [.string l.name, .int .i64 l.block, .int .i64 l.slot, .int .i64 l.ty]

/-- The turns of the document's scope are held as the program's. -/
def Rf.sc (ρ : Rf) : Sc := ⟨[], ρ.turns, ρ.types, ρ.next⟩

def rf0 : Rf := ⟨1, [], [], [], 0⟩
def Rf.open' (r : Rf) : Rf := { r with blocks := r.blocks + 1 }
def Rf.hasAt (r : Rf) (nm : ByteArray) (i : Nat) : Bool := decide ((r.locals.getD i noLoc).block = r.blocks) && decide ((r.locals.getD i noLoc).name = nm)
def Rf.has (r : Rf) (nm : ByteArray) : Bool := (lastI (fun i => r.hasAt nm i) r.locals.length).isSome
def Rf.declErr (r : Rf) (nm : ByteArray) : Nat := if r.has nm then 70 else if r.types.length = 256 then 73 else 0
def Rf.decl (r : Rf) (nm : ByteArray) (ty : Int) : Rf := if r.declErr nm = 0 then { r with types := r.types ++ [ty], locals := r.locals ++ [⟨nm, r.blocks, r.types.length, ty⟩] } else r
def Rf.declV (r : Rf) (nm : ByteArray) : Value := .tuple #[.int .i64 (if r.declErr nm = 0 then (r.types.length : Int) else 0), .int .i64 (r.declErr nm : Nat)]
def Rf.findAt (r : Rf) (nm : ByteArray) : Option Nat := lastI (fun i => decide ((r.locals.getD i noLoc).name = nm)) r.locals.length
def Rf.findV (r : Rf) (nm : ByteArray) : Value := match r.findAt nm with
  | some i => .tuple #[.int .i64 (r.locals.getD i noLoc).slot, .int .i64 (r.locals.getD i noLoc).ty, .bool true]
  | none => .tuple #[.int .i64 0, .int .i64 0, .bool false]
def Rf.enter (r : Rf) (nm : ByteArray) (tn : Bool) : Rf := if r.sc.twice nm then r else { r with turns := r.turns ++ [⟨nm, tn, r.next⟩], next := r.next + 1 }
def Rf.leave (r : Rf) : Rf := if r.turns.length = 0 then r else { r with turns := r.turns.take (r.turns.length - 1) }

def RFoot (b : Nat) (ls ys us : Value) : Nat → Prop := fun j => j = b ∨ idOf ls = some j ∨ idOf ys = some j ∨ idOf us = some j

structure RAt (H : AHeap) (b : Nat) (ρ : Rf) (ls ys us : Value) : Prop where
  box : H.get b = some (.box [.int .i64 ρ.blocks, ls, ys, us, .int .i64 ρ.next] 73)
  ol : Own H 85 4 ls ρ.locals.length (ρ.locals.flatMap locC)
  oy : Own H 3 1 ys ρ.types.length (ρ.types.map tyC)
  ou : Own H 87 3 us ρ.turns.length (ρ.turns.flatMap trnC)

def RefAt (H : AHeap) (b : Nat) (ρ : Rf) (F : Nat → Prop) : Prop := ∃ ls ys us, RAt H b ρ ls ys us ∧ F = RFoot b ls ys us

variable {H H2 : AHeap} {b : Nat} {ρ : Rf} {ls ys us : Value}

theorem RAt.lt (h : RAt H b ρ ls ys us) (hf : H.Fresh) {j : Nat} (hj : RFoot b ls ys us j) : j < H.next := by
  rcases hj with rfl | hj | hj | hj
  · exact get_lt hf h.box
  · exact h.ol.id_lt hf j hj
  · exact h.oy.id_lt hf j hj
  · exact h.ou.id_lt hf j hj

theorem RAt.keep (h : RAt H b ρ ls ys us) (hk : ∀ j, RFoot b ls ys us j → H2.get j = H.get j) : RAt H2 b ρ ls ys us where
  box := by rw [hk b (.inl rfl)]; exact h.box
  ol := h.ol.mono fun i hi => hk i (.inr (.inl hi))
  oy := h.oy.mono fun i hi => hk i (.inr (.inr (.inl hi)))
  ou := h.ou.mono fun i hi => hk i (.inr (.inr (.inr hi)))

theorem RAt.grown (h : RAt H b ρ ls ys us) (hf : H.Fresh) (g : Grown H H2) : RAt H2 b ρ ls ys us := h.keep fun j hj => g.get j (h.lt hf hj)

theorem RefAt.grown {F : Nat → Prop} (h : RefAt H b ρ F) (hf : H.Fresh) (g : Grown H H2) : RefAt H2 b ρ F := by
  obtain ⟨ls, ys, us, h1, h2⟩ := h
  exact ⟨ls, ys, us, h1.grown hf g, h2⟩
theorem RefAt.lt {F : Nat → Prop} (h : RefAt H b ρ F) (hf : H.Fresh) {j : Nat} (hj : F j) : j < H.next := by
  obtain ⟨ls, ys, us, h1, rfl⟩ := h
  exact h1.lt hf hj
theorem RefAt.keep {F : Nat → Prop} (h : RefAt H b ρ F) (hk : ∀ j, F j → H2.get j = H.get j) : RefAt H2 b ρ F := by
  obtain ⟨ls, ys, us, h1, rfl⟩ := h
  exact ⟨ls, ys, us, h1.keep hk, rfl⟩

theorem RAt.kb (h : RAt H b ρ ls ys us) : kindO (H.get b) = 1000 := by rw [h.box]; rfl

/-- One of the lists turns, or none. -/
theorem RAt.rep {ls' ys' us' : Value} {ρ' : Rf} (h : RAt H b ρ ls ys us) (e : Nat) (hfr : ∀ j, RFoot b ls ys us j → j ≠ b → kindO (H.get j) ≠ e → H2.get j = H.get j)
    (hbox : H2.get b = some (.box [.int .i64 ρ'.blocks, ls', ys', us', .int .i64 ρ'.next] 73))
    (hl : (Own H2 85 4 ls' ρ'.locals.length (ρ'.locals.flatMap locC)) ∨ (e ≠ 85 ∧ ls' = ls ∧ ρ'.locals = ρ.locals))
    (hy : (Own H2 3 1 ys' ρ'.types.length (ρ'.types.map tyC)) ∨ (e ≠ 3 ∧ ys' = ys ∧ ρ'.types = ρ.types))
    (hu : (Own H2 87 3 us' ρ'.turns.length (ρ'.turns.flatMap trnC)) ∨ (e ≠ 87 ∧ us' = us ∧ ρ'.turns = ρ.turns)) : RAt H2 b ρ' ls' ys' us' where
  box := hbox
  ol := by
    rcases hl with h1 | ⟨h1, rfl, h2⟩
    · exact h1
    · rw [h2]; exact h.ol.mono fun i hi => hfr i (.inr (.inl hi)) (fun e => by subst e; have := h.kb; have := h.ol.kind hi; omega) (by rw [h.ol.kind hi]; exact fun e => h1 e.symm)
  oy := by
    rcases hy with h1 | ⟨h1, rfl, h2⟩
    · exact h1
    · rw [h2]; exact h.oy.mono fun i hi => hfr i (.inr (.inr (.inl hi))) (fun e => by subst e; have := h.kb; have := h.oy.kind hi; omega) (by rw [h.oy.kind hi]; exact fun e => h1 e.symm)
  ou := by
    rcases hu with h1 | ⟨h1, rfl, h2⟩
    · exact h1
    · rw [h2]; exact h.ou.mono fun i hi => hfr i (.inr (.inr (.inr hi))) (fun e => by subst e; have := h.kb; have := h.ou.kind hi; omega) (by rw [h.ou.kind hi]; exact fun e => h1 e.symm)

theorem locC_drop (l : List Loc) {i : Nat} (hi : i < l.length) : ((l.flatMap locC).drop (i * 4)).take 4 = locC (l.getD i noLoc) := by
  induction l generalizing i with
  | nil => simp at hi
  | cons t l ih =>
    cases i with
    | zero => simp [locC]
    | succ i =>
      simp only [List.length_cons] at hi
      have h3 : ∀ X : List Value, (locC t ++ X).drop (i * 4 + 4) = X.drop (i * 4) := fun X => rfl
      rw [List.flatMap_cons, show (i + 1) * 4 = i * 4 + 4 by omega, h3, ih (by omega)]
      rfl

theorem RAt.cellL (h : RAt H b ρ ls ys us) {i k : Nat} (hi : i < ρ.locals.length) (hk : k < 4) : H.cell (addA (addA (baseOf ls) (i * 4)) k) = (locC (ρ.locals.getD i noLoc))[k]? := by
  have h1 := h.ol.readN (o := i * 4) (m := 4) (by omega) (by omega)
  rw [locC_drop _ hi] at h1
  exact readN_get h1 hk

theorem RAt.cellT (h : RAt H b ρ ls ys us) {i k : Nat} (hi : i < ρ.turns.length) (hk : k < 3) : H.cell (addA (addA (baseOf us) (i * 3)) k) = (trnC (ρ.turns.getD i noTrn))[k]? := by
  have h1 := h.ou.readN (o := i * 3) (m := 3) (by omega) (by omega)
  rw [trnC_drop _ hi] at h1
  exact readN_get h1 hk

theorem RAt.valT (h : RAt H b ρ ls ys us) {i : Nat} (hi : i < ρ.turns.length) : H.loadV Try.prog 87 (addA (baseOf us) (i * 3)) = some (trnV (ρ.turns.getD i noTrn)) := by
  rw [loadV_agg agg87 info87, cells87, h.ou.readN (by omega) (by decide), trnC_drop _ hi]
  rfl

end Go.Proofs.Ytnjoaffnfjlcaaa

namespace Go.Proofs.Ytnjoaffnfjlcaaa
open Go Go.Proofs B

theorem fieldAddrS_plus {P : Program} {H : AHeap} {s : TypeId} {f : Nat} {a : Addr} : fieldAddrS P H s f (.pointer (some a)) = (fieldOff P s f).map fun off => .val (.pointer (some (addA a off))) H := by
  obtain ⟨b, o, sp⟩ := a
  exact fieldAddrS_eq
theorem addA_mk {i o n : Nat} {sp : Option Nat} : addA ⟨i, o, sp⟩ n = ⟨i, o + n, sp⟩ := rfl
theorem build73 {H : AHeap} {n m : Nat} : buildS Try.prog H 73 [(0, .int .i64 n), (4, .int .i64 m)] = some (.val (.agg #[.int .i64 n, .slice none 0 0, .slice none 0 0, .slice none 0 0, .int .i64 m]) H) := by
  unfold buildS
  have h1 : zeroOf Try.prog 73 = some (.agg #[.int .i64 0, .slice none 0 0, .slice none 0 0, .slice none 0 0, .int .i64 0]) := by unfold zeroOf; rw [inf73]; rfl
  have h2 : Program.built Try.prog 73 [(0, .int .i64 n), (4, .int .i64 m)] = some #[.int .i64 n, .slice none 0 0, .slice none 0 0, .slice none 0 0, .int .i64 m] := by kernel_rfl
  rw [h1, h2]
theorem build73a {H : AHeap} : buildS Try.prog H 73 [(0, .int .i64 1)] = some (.val (.agg #[.int .i64 1, .slice none 0 0, .slice none 0 0, .slice none 0 0, .int .i64 0]) H) := by
  unfold buildS
  have h1 : zeroOf Try.prog 73 = some (.agg #[.int .i64 0, .slice none 0 0, .slice none 0 0, .slice none 0 0, .int .i64 0]) := by unfold zeroOf; rw [inf73]; rfl
  have h2 : Program.built Try.prog 73 [(0, .int .i64 1)] = some #[.int .i64 1, .slice none 0 0, .slice none 0 0, .slice none 0 0, .int .i64 0] := by kernel_rfl
  rw [h1, h2]
theorem zf73 : (zeroOf Try.prog 73).isSome = true := by unfold zeroOf; rw [inf73]; rfl


theorem refnew21 {ext : CallT} (hx : ∀ f args H, f ≠ 22 → ext f args H = none) {H : AHeap} (hf : H.Fresh) :
    ∃ H' F, theCall Try.prog ext 21 [] H = some (.ret (.pointer (some ⟨H.next, 0, none⟩)), H') ∧ RefAt H' H.next rf0 F ∧ Grown H H' ∧ (∀ j, F j → j = H.next) := by
  refine ⟨H.push (.box [.int .i64 1, .slice none 0 0, .slice none 0 0, .slice none 0 0, .int .i64 0] 73), _, ?_, ⟨_, _, _, ⟨get_push_new, .nil, .nil, .nil⟩, rfl⟩, Grown.push hf _, ?_⟩
  · refine theCall_run (hx _ _ _ (by decide)) Try.func21 (rs := [.tmp 0]) rfl rfl rfl (by simp) fun tm hl hi => ?_
    replace hl : tm.length = 3 := hl
    simp (config := { decide := true }) only [theCode_seq, theCode_list, theCode_ret, evalList_plain, evalList_nil, nd_assign, nd_box, nd_build, ok_tmp, ok_const, cl_int, cl_ptr, opA_assign, opA_build, opA_box, contA_val, putT_some, aev_tmp, aev_const, rd_same, List.length_set, thenA_normal, leaveR_ret, resA_tmp, resA_nil, pack_one, Option.map_some, Nat.reduceLT, List.map_cons, List.map_nil, List.all_cons, List.all_nil, Bool.and_true, hl, zf73, build73a, info73, vc_agg, fl_slice, fl_int]
  · rintro j (e | e | e | e)
    · exact e
    · simp [idOf] at e
    · simp [idOf] at e
    · simp [idOf] at e

theorem refopen37 {ext : CallT} (hx : ∀ f args H, f ≠ 22 → ext f args H = none) {H : AHeap} (hf : H.Fresh) {b : Nat} {ρ : Rf} {F : Nat → Prop} (h : RefAt H b ρ F) (hn : ρ.blocks < 1000000) :
    ∃ H', theCall Try.prog ext 37 [.pointer (some ⟨b, 0, none⟩)] H = some (.ret (.int .i64 (ρ.blocks + 1 : Nat)), H') ∧ RefAt H' b ρ.open' F ∧ Upd H F H' F := by
  obtain ⟨ls, ys, us, h, rfl⟩ := h
  have hw : IntKind.i64.wrap ((ρ.blocks : Int) + 1) = ((ρ.blocks + 1 : Nat) : Int) := by rw [IntWalk.i64_in _ (by omega)]; omega
  have hb := h.box
  refine ⟨H.set b (.box [.int .i64 (ρ.blocks + 1 : Nat), ls, ys, us, .int .i64 ρ.next] 73), ?_, ⟨ls, ys, us, ?_, rfl⟩, fun j hj _ => get_set_ne (fun e => hj (.inl e)), fun j hj => .inl hj, (AHeap.le_set hb).fresh hf, Nat.le_refl _⟩
  · refine theCall_run (hx _ _ _ (by decide)) Try.func37 (rs := [.tmp 2]) rfl rfl rfl (by simp) fun tm hl hi => ?_
    replace hl : tm.length = 14 := hl
    have i0 := hi 0
    simp only [List.getD_cons_zero] at i0
    simp (config := { decide := true }) only [theCode_seq, theCode_list, theCode_ret, evalList_plain, evalList_nil, nd_move, nd_assign, nd_load, nd_store, nd_nilCheck, nd_binOp, nd_fieldAddr, ok_tmp, ok_const, cl_int, opA_move, opA_assign, opA_load, opA_store, opA_nilCheck, opA_fieldAddr, opA_bin, contA_val, contA_skip, putT_some, putT_none, aev_tmp, aev_const, rd_same, rd_ne, List.length_set, valA_some, skipA_some, thenA_normal, loadS_ptr, storeS_ptr, nilCheckS_ptr, fieldAddrS_eq, bin_add, leaveR_ret, resA_tmp, resA_nil, List.getElem?_cons_zero, pack_one, Option.map_some, ne_eq, Nat.reduceLT, Nat.reduceAdd, Nat.zero_add, hl, i0, off73_0, agg3, info3, cells3, vc_int, fl_int, loadV_flat, storeV_flat, setCell_eq, setCellO_box, cell_eq, hb, get_set_same, cellO_box, hw, Option.getD_none, List.set_cons_zero, List.length_cons, List.length_nil]
  · exact h.rep 1 (fun j _ hjb _ => get_set_ne hjb) get_set_same (.inr ⟨by decide, rfl, rfl⟩) (.inr ⟨by decide, rfl, rfl⟩) (.inr ⟨by decide, rfl, rfl⟩)

theorem refleave42 {ext : CallT} (hx : ∀ f args H, f ≠ 22 → ext f args H = none) {H : AHeap} (hf : H.Fresh) {b : Nat} {ρ : Rf} {F : Nat → Prop} (h : RefAt H b ρ F) (hn : ρ.turns.length < 1000000) :
    ∃ H' F', theCall Try.prog ext 42 [.pointer (some ⟨b, 0, none⟩)] H = some (.ret (.bool (decide (0 < ρ.turns.length))), H') ∧ RefAt H' b ρ.leave F' ∧ Upd H F H' F' := by
  obtain ⟨ls, ys, us, h, rfl⟩ := h
  have hb := h.box
  have c3 := fun H2 => h.ou.lenS isl71 H2
  rcases Nat.eq_zero_or_pos ρ.turns.length with h0 | h0
  · have hL : ρ.leave = ρ := by unfold Rf.leave; rw [if_pos h0]
    rw [hL]
    refine ⟨H, _, ?_, ⟨ls, ys, us, h, rfl⟩, (Grown.refl hf).upd _⟩
    rw [h0] at c3
    refine theCall_run (hx _ _ _ (by decide)) Try.func42 (rs := [.tmp 2]) rfl rfl rfl (by simp) fun tm hl hi => ?_
    replace hl : tm.length = 21 := hl
    have i0 := hi 0
    simp only [List.getD_cons_zero] at i0
    simp (config := { decide := true }) only [theCode_seq, theCode_list, theCode_ret, theCode_if, evalList_plain, evalList_nil, nd_move, nd_assign, nd_load, nd_nilCheck, nd_binOp, nd_fieldAddr, nd_call, ok_tmp, ok_const, cl_int, cl_bool, opA_move, opA_assign, opA_load, opA_nilCheck, opA_fieldAddr, opA_bin, opA_len, contA_val, putT_some, aev_tmp, aev_const, rd_same, rd_ne, List.length_set, valA_some, thenA_normal, thenA_ret, boolOf_bool, loadS_ptr, nilCheckS_ptr, fieldAddrS_eq, bin_eql, leaveR_ret, resA_tmp, resA_nil, List.getElem?_cons_zero, List.getElem?_cons_succ, pack_one, Option.map_some, Option.isSome_some, ne_eq, ↓reduceIte, Nat.reduceLT, Nat.zero_add, decide_true, decide_false, hl, i0, off73_3, agg71, loadV_flat, cell_eq, hb, cellO_box, c3, h0, decide_false]
  · obtain ⟨m, hm⟩ : ∃ m, ρ.turns.length = m + 1 := ⟨ρ.turns.length - 1, by omega⟩
    have hL : ρ.leave = { ρ with turns := ρ.turns.take m } := by unfold Rf.leave; rw [if_neg (by omega), hm]; rfl
    rw [hL]
    have hnz : ¬ ((ρ.turns.length : Int) = 0) := by omega
    have hw : IntKind.i64.wrap ((ρ.turns.length : Int) - 1) = (m : Int) := by rw [hm, IntWalk.i64_in _ (by omega)]; omega
    have hsl := fun H2 => sliceS_upto (P := Try.prog) (k := .i64) (m := m) h.ou (by omega) sli71 (by omega) (by omega) H2
    simp only [Int.toNat_natCast] at hsl
    have hou := h.ou
    rw [hm] at hou
    have hcut := hou.cutLast
    refine ⟨H.set b (.box [.int .i64 ρ.blocks, ls, ys, .slice (some (baseOf us)) m (capOf us), .int .i64 ρ.next] 73), _, ?_, ⟨ls, ys, .slice (some (baseOf us)) m (capOf us), ?_, rfl⟩, fun j hj _ => get_set_ne (fun e => hj (.inl e)), fun j hj => ?_, (AHeap.le_set hb).fresh hf, Nat.le_refl _⟩
    · refine theCall_run (hx _ _ _ (by decide)) Try.func42 (rs := [.tmp 2]) rfl rfl rfl (by simp) fun tm hl hi => ?_
      replace hl : tm.length = 21 := hl
      have i0 := hi 0
      simp only [List.getD_cons_zero] at i0
      simp (config := { decide := true }) only [theCode_seq, theCode_list, theCode_skip, theCode_ret, theCode_if, evalList_plain, evalList_nil, nd_move, nd_assign, nd_load, nd_store, nd_nilCheck, nd_binOp, nd_slice, nd_fieldAddr, nd_call, ok_tmp, ok_const, cl_int, cl_bool, opA_move, opA_assign, opA_load, opA_store, opA_nilCheck, opA_fieldAddr, opA_bin, opA_len, opA_sliceHi, contA_val, contA_skip, putT_some, putT_none, aev_tmp, aev_const, rd_same, rd_ne, List.length_set, valA_some, skipA_some, thenA_normal, boolOf_bool, loadS_ptr, storeS_ptr, nilCheckS_ptr, fieldAddrS_eq, bin_eql, bin_sub, leaveR_ret, resA_tmp, resA_nil, List.getElem?_cons_zero, List.getElem?_cons_succ, pack_one, Option.map_some, Option.isSome_some, ne_eq, ↓reduceIte, Nat.reduceLT, Nat.reduceAdd, Nat.zero_add, Option.some.injEq, decide_true, decide_false, hl, i0, off73_3, agg71, info71, cells71, loadV_flat, storeV_flat, setCell_eq, setCellO_box, cell_eq, hb, cellO_box, c3, hnz, hw, hsl, sli71, vc_slice, fl_slice, h0, Option.getD_none, List.set_cons_zero, List.set_cons_succ, List.length_cons, List.length_nil]
    · refine h.rep 87 (fun j _ hjb _ => get_set_ne hjb) get_set_same (.inr ⟨by decide, rfl, rfl⟩) (.inr ⟨by decide, rfl, rfl⟩) (.inl ?_)
      have e1 : (ρ.turns.take m).length = m := by rw [List.length_take]; omega
      have e2 : (ρ.turns.take m).flatMap trnC = (ρ.turns.flatMap trnC).take (m * 3) := (flatMap_take ρ.turns m).symm
      show Own _ 87 3 _ (ρ.turns.take m).length ((ρ.turns.take m).flatMap trnC)
      rw [e1, e2]
      exact hcut.mono fun i hi => get_set_ne (by rintro rfl; exact hcut.id_ne hb hi)
    · have hid : idOf (.slice (some (baseOf us)) m (capOf us)) = idOf us := by
        obtain ⟨hv, _⟩ := h.ou.shape (by omega)
        rw [hv]; rfl
      rcases hj with e | e | e | e
      · exact .inl (.inl e)
      · exact .inl (.inr (.inl e))
      · exact .inl (.inr (.inr (.inl e)))
      · exact .inl (.inr (.inr (.inr (by rw [← hid]; exact e))))


set_option maxHeartbeats 4000000 in
set_option maxRecDepth 100000 in
theorem rf_l40 {ext : CallT} (hx : ∀ f args H, f ≠ 22 → ext f args H = none) {H : AHeap} {b : Nat} {ρ : Rf} {ls ys us : Value} (h : RAt H b ρ ls ys us) (hn : ρ.locals.length < 1000000) {nm : ByteArray} {c : Code} (hc : (loopsF Try.f40)[0]? = some c) :
    ∀ k s, (fun k s => ∃ tm, s = ⟨tm, [], H⟩ ∧ k ≤ ρ.locals.length ∧ lastI (fun i => decide ((ρ.locals.getD i noLoc).name = nm)) k = ρ.findAt nm ∧ tm.length = 44 ∧ tm.getD 0 undef = .pointer (some ⟨b, 0, none⟩) ∧ tm.getD 1 undef = .string nm ∧ tm.getD 7 undef = .int .i64 ((k : Int) - 1)) k s →
      ∃ x s', theCode Try.prog ext false (.loop c) s = some (x, s') ∧ x ≠ .normal ∧ (fun x s => ∃ tm, s = ⟨tm, [], H⟩ ∧ tm.length = 44 ∧ ((x = .exit 0 ∧ ρ.findAt nm = none) ∨ (x = .ret ∧ ∃ i, ρ.findAt nm = some i ∧ tm.getD 4 undef = .int .i64 (ρ.locals.getD i noLoc).slot ∧ tm.getD 5 undef = .int .i64 (ρ.locals.getD i noLoc).ty ∧ tm.getD 6 undef = .bool true))) x s' := by
  have h0 : (loopsF Try.f40)[0]? = some _ := rfl
  rw [h0] at hc
  obtain rfl := Option.some.inj hc
  refine theCode_loop_inv _ _ ?_
  rintro k _ ⟨tm, rfl, hkn, hq, hl, i0, i1, i7⟩
  have hb := h.box
  cases k with
  | zero =>
    right
    have hge : ¬ (((0 : Nat) : Int) - 1 ≥ 0) := by omega
    refine ⟨?x0, ?s0, ?h0, ?hx0, ?hq0⟩
    case h0 =>
      simp (config := { decide := true }) only [theCode_seq, theCode_list, theCode_exit, theCode_if, evalList_plain, evalList_nil, nd_move, nd_binOp, ok_tmp, ok_const, cl_int, opA_move, opA_bin, contA_val, putT_some, aev_tmp, aev_const, rd_same, List.length_set, thenA_normal, thenA_exit, boolOf_bool, bin_geq, Option.isSome_some, ↓reduceIte, Nat.reduceLT, Option.some.injEq, decide_false, hl, i7]
      rfl
    case hx0 => exact fun h => by cases h
    case hq0 => exact ⟨_, rfl, by simp only [List.length_set, hl], .inl ⟨rfl, hq.symm⟩⟩
  | succ k =>
    have hge : ((k + 1 : Nat) : Int) - 1 ≥ 0 := by omega
    have hkk : ((k + 1 : Nat) : Int) - 1 = (k : Int) := by omega
    rw [hkk] at i7 hge
    have hix := fun H2 => indexAddrS_own (P := Try.prog) (t := 70) (j := (k : Int)) (k := .i64) h.ol (by omega) (by omega) es70 H2
    simp only [Int.toNat_natCast] at hix
    have hc0 := h.cellL (i := k) (k := 0) (by omega) (by decide)
    have hc2 := h.cellL (i := k) (k := 2) (by omega) (by decide)
    have hc3 := h.cellL (i := k) (k := 3) (by omega) (by decide)
    simp only [locC, List.getElem?_cons_zero, List.getElem?_cons_succ] at hc0 hc2 hc3
    rw [lastI_succ] at hq
    by_cases hnm : (ρ.locals.getD k noLoc).name = nm
    · right
      rw [if_pos (by simpa using hnm)] at hq
      refine ⟨?x1, ?s1, ?h1, ?hx1, ?hq1⟩
      case h1 =>
        simp (config := { decide := true }) only [fieldAddrS_plus, theCode_seq, theCode_list, theCode_skip, theCode_ret, theCode_block, theCode_if, evalList_plain, evalList_nil, nd_move, nd_load, nd_nilCheck, nd_binOp, nd_fieldAddr, nd_indexAddr, ok_tmp, ok_const, cl_int, opA_move, opA_load, opA_nilCheck, opA_fieldAddr, opA_bin, opA_indexAddr, contA_val, putT_some, aev_tmp, aev_const, rd_same, rd_ne, List.length_set, valA_some, thenA_normal, boolOf_bool, loadS_ptr, nilCheckS_ptr, bin_geq, bin_seql, List.getElem?_cons_zero, List.getElem?_cons_succ, Option.map_some, Option.isSome_some, ne_eq, ↓reduceIte, Nat.reduceLT, Nat.zero_add, decide_true, hl, i0, i1, i7, hge, addA_mk, off73_1, agg70, agg9, loadV_flat, cell_eq, hb, cellO_box, hix, sli70, off85_0, hc0, hnm]
        rw [theCode_text (by kernel_rfl)]
        simp (config := { decide := true }) only [fieldAddrS_plus, evalList_plain, evalList_nil, nd_move, nd_assign, nd_load, nd_nilCheck, nd_fieldAddr, nd_indexAddr, ok_tmp, ok_const, cl_bool, opA_move, opA_assign, opA_load, opA_nilCheck, opA_fieldAddr, opA_indexAddr, contA_val, putT_some, aev_tmp, aev_const, rd_same, rd_ne, List.length_set, valA_some, thenA_normal, thenA_ret, inBlockA_ret, loadS_ptr, nilCheckS_ptr, List.getElem?_cons_zero, List.getElem?_cons_succ, Option.map_some, Option.isSome_some, ne_eq, Nat.reduceLT, Nat.zero_add, Option.some.injEq, dropP_normal, hl, i0, i7, addA_mk, off73_1, agg70, agg3, loadV_flat, cell_eq, hb, cellO_box, hix, sli70, off85_2, off85_3, hc2, hc3]
        rfl
      case hx1 => exact fun h => by cases h
      case hq1 =>
        refine ⟨_, rfl, by simp only [List.length_set, hl], .inr ⟨rfl, k, hq.symm, ?_, ?_, ?_⟩⟩
        all_goals simp (config := { decide := true }) only [rd_ne, rd_same, List.length_set, hl, ne_eq]
    · left
      rw [if_neg (by simpa using hnm)] at hq
      have hw : IntKind.i64.wrap ((k : Int) - 1) = (k : Int) - 1 := IntWalk.i64_in _ (by omega)
      refine ⟨?s2, ?h2, k, Nat.lt_succ_self _, ?q2⟩
      case h2 =>
        simp (config := { decide := true }) only [fieldAddrS_plus, theCode_seq, theCode_list, theCode_skip, theCode_block, theCode_if, evalList_plain, evalList_nil, nd_move, nd_assign, nd_load, nd_nilCheck, nd_binOp, nd_fieldAddr, nd_indexAddr, ok_tmp, ok_const, cl_int, opA_move, opA_assign, opA_load, opA_nilCheck, opA_fieldAddr, opA_bin, opA_indexAddr, contA_val, putT_some, aev_tmp, aev_const, rd_same, rd_ne, List.length_set, valA_some, thenA_normal, inBlockA_normal, boolOf_bool, loadS_ptr, nilCheckS_ptr, bin_geq, bin_sub, bin_seql, List.getElem?_cons_zero, List.getElem?_cons_succ, Option.map_some, Option.isSome_some, ne_eq, ↓reduceIte, Nat.reduceLT, Nat.zero_add, Option.some.injEq, decide_true, decide_false, hl, i0, i1, i7, hge, addA_mk, off73_1, agg70, agg9, loadV_flat, cell_eq, hb, cellO_box, hix, sli70, off85_0, hc0, hnm, hw]
        rfl
      case q2 =>
        refine ⟨_, rfl, by omega, hq, ?_, ?_, ?_, ?_⟩
        · simp only [List.length_set, hl]
        all_goals simp (config := { decide := true }) only [rd_ne, rd_same, List.length_set, hl, ne_eq, i0, i1]

set_option maxHeartbeats 4000000 in
set_option maxRecDepth 100000 in
theorem reffind40 {ext : CallT} (hx : ∀ f args H, f ≠ 22 → ext f args H = none) {H : AHeap} {b : Nat} {ρ : Rf} {F : Nat → Prop} (h : RefAt H b ρ F) (hn : ρ.locals.length < 1000000) (nm : ByteArray) :
    theCall Try.prog ext 40 [.pointer (some ⟨b, 0, none⟩), .string nm] H = some (.ret (ρ.findV nm), H) := by
  obtain ⟨ls, ys, us, h, rfl⟩ := h
  have hb := h.box
  have c3 := fun H2 => h.ol.lenS isl70 H2
  have hw : IntKind.i64.wrap ((ρ.locals.length : Int) - 1) = (ρ.locals.length : Int) - 1 := IntWalk.i64_in _ (by omega)
  refine theCall_goal (F := fun z => z = some (.ret (ρ.findV nm), H)) (hx _ _ _ (by decide)) Try.func40 (rs := [.tmp 4, .tmp 5, .tmp 6]) rfl rfl rfl (by simp) fun tm hl hi => ?_
  replace hl : tm.length = 44 := hl
  have i0 := hi 0
  have i1 := hi 1
  simp only [List.getD_cons_zero, List.getD_cons_succ] at i0 i1
  simp (config := { decide := true }) only [theCode_seq, theCode_list, theCode_ret, theCode_block, evalList_plain, evalList_nil, nd_move, nd_assign, nd_load, nd_nilCheck, nd_binOp, nd_fieldAddr, nd_call, ok_tmp, ok_const, cl_int, cl_bool, opA_move, opA_assign, opA_load, opA_nilCheck, opA_fieldAddr, opA_bin, opA_len, contA_val, putT_some, aev_tmp, aev_const, rd_same, rd_ne, List.length_set, valA_some, thenA_normal, loadS_ptr, nilCheckS_ptr, fieldAddrS_eq, bin_sub, List.getElem?_cons_zero, List.getElem?_cons_succ, Option.map_some, Option.isSome_some, ne_eq, Nat.reduceLT, Nat.zero_add, hl, i0, off73_1, agg70, loadV_flat, cell_eq, hb, cellO_box, c3, hw]
  refine loop_use (F := fun z => leaveR Try.prog [.tmp 4, .tmp 5, .tmp 6] (thenA (inBlockA 0 z) _) = some (.ret (ρ.findV nm), H)) (rf_l40 hx h hn (nm := nm) rfl) ρ.locals.length ⟨_, rfl, Nat.le_refl _, rfl, ?_, ?_, ?_, ?_⟩ ?_
  · simp only [List.length_set, hl]
  · simp (config := { decide := true }) only [rd_ne, ne_eq, i0]
  · simp (config := { decide := true }) only [rd_ne, ne_eq, i1]
  · simp (config := { decide := true }) only [rd_same, List.length_set, hl]
  rintro x _ hx' ⟨tm, rfl, hl, ⟨rfl, hq⟩ | ⟨rfl, i, hq, i4, i5, i6⟩⟩
  · have hv : ρ.findV nm = .tuple #[.int .i64 0, .int .i64 0, .bool false] := by unfold Rf.findV; rw [hq]
    rw [hv]
    simp (config := { decide := true }) only [rd_same, rd_ne, List.length_set, thenA_normal, inBlockA_exit, leaveR_ret, resA_tmp, resA_nil, pack_two, Option.map_some, ne_eq, ↓reduceIte, Nat.reduceLT, hl]
  · have hv : ρ.findV nm = .tuple #[.int .i64 (ρ.locals.getD i noLoc).slot, .int .i64 (ρ.locals.getD i noLoc).ty, .bool true] := by unfold Rf.findV; rw [hq]
    rw [hv]
    simp (config := { decide := true }) only [thenA_ret, inBlockA_ret, leaveR_ret, resA_tmp, resA_nil, pack_two, Option.map_some, i4, i5, i6]

end Go.Proofs.Ytnjoaffnfjlcaaa

namespace Go.Proofs.Ytnjoaffnfjlcaaa
open Go Go.Proofs B

theorem zf87 : zeroOf Try.prog 87 = some (.agg #[.string ⟨#[]⟩, .bool false, .int .i64 0]) := by unfold zeroOf; rw [inf87]; rfl


set_option maxHeartbeats 4000000 in
set_option maxRecDepth 100000 in
theorem rf_t43_false_false {ext : CallT} {H : AHeap} (hf : H.Fresh) {b : Nat} {ρ : Rf} {ls ys us : Value} (h : RAt H b ρ ls ys us) (hn : ρ.turns.length < 1000000) {nm s : ByteArray} {no k : Nat} (hk : k < ρ.turns.length) (ht : ρ.turns.getD k noTrn = ⟨s, false, no⟩) {c : Code} (hc : (loopsF Try.f43)[0]? = some c)
    {tm : List Value} (hl : tm.length = 45) (i0 : tm.getD 0 undef = .pointer (some ⟨b, 0, none⟩)) (i1 : tm.getD 1 undef = .string nm) (i2 : tm.getD 2 undef = .bool false) (i8 : tm.getD 8 undef = .int .i64 (k : Nat)) :
    ∃ x tm' , theCode Try.prog ext false c ⟨tm, [], H⟩ = some (x, ⟨tm', [], (H.push (.box [.string ⟨#[]⟩, .bool false, .int .i64 0] 87)).set H.next (.box [.string s, .bool false, .int .i64 no] 87)⟩) ∧ tm'.length = 45 ∧
      ((tMatch ⟨s, false, no⟩ nm false = true ∧ x = .ret ∧ tm'.getD 6 undef = .int .i64 no ∧ tm'.getD 7 undef = .int .i64 0) ∨
       (tMatch ⟨s, false, no⟩ nm false = false ∧ x = .normal ∧ tm'.getD 0 undef = .pointer (some ⟨b, 0, none⟩) ∧ tm'.getD 1 undef = .string nm ∧ tm'.getD 2 undef = .bool false ∧ tm'.getD 8 undef = .int .i64 ((k : Int) - 1))) := by
  have h0 : (loopsF Try.f43)[0]? = some _ := rfl
  rw [h0] at hc
  obtain rfl := Option.some.inj hc
  clear hc h0
  have hb := h.box
  have hge : (k : Int) ≥ 0 := by omega
  have hix := fun H2 => indexAddrS_own (P := Try.prog) (t := 71) (j := (k : Int)) (k := .i64) h.ou (by omega) (by omega) es71 H2
  simp only [Int.toNat_natCast] at hix
  have hv := h.valT hk
  rw [ht] at hv
  have hbl : b < H.next := get_lt hf hb
  have hst : (H.push (.box [.string ⟨#[]⟩, .bool false, .int .i64 0] 87)).storeV Try.prog 87 ⟨H.next, 0, none⟩ (trnV ⟨s, false, no⟩) = some ((H.push (.box [.string ⟨#[]⟩, .bool false, .int .i64 0] 87)).set H.next (.box [.string s, .bool false, .int .i64 no] 87)) := by
    rw [storeV_box info87 get_push_new (by rw [cells87]; rfl) (by simp [trnV, vc_agg, trnC]) (by simp [trnV, vc_agg, trnC, fl_string, fl_bool, fl_int])]
    simp [trnV, vc_agg, trnC]
  have hcb : ((H.push (.box [.string ⟨#[]⟩, .bool false, .int .i64 0] 87)).set H.next (.box [.string s, .bool false, .int .i64 no] 87)).get H.next = some (.box [.string s, .bool false, .int .i64 no] 87) := get_set_same
  have hw : IntKind.i64.wrap ((k : Int) - 1) = (k : Int) - 1 := IntWalk.i64_in _ (by omega)
  obtain ⟨q1, hq1⟩ : ∃ q, decide (nm = ⟨#[]⟩) = q := ⟨_, rfl⟩
  obtain ⟨q2, hq2⟩ : ∃ q, decide (s = nm) = q := ⟨_, rfl⟩
  obtain ⟨Hx, hHx⟩ : ∃ X, (H.push (.box [.string ⟨#[]⟩, .bool false, .int .i64 0] 87)).set H.next (.box [.string s, .bool false, .int .i64 no] 87) = X := ⟨_, rfl⟩
  rw [hHx] at hst hcb ⊢

  cases q1 with
  | false =>
    cases q2 with
    | false =>
      refine ⟨?xff, ?tmff, ?hff, ?lff, ?qff⟩
      case hff =>
        simp (config := { decide := true }) only [theCode_seq, theCode_list, theCode_skip, theCode_block, theCode_if, evalList_plain, evalList_guard, evalList_nil, nd_move, nd_assign, nd_pick, nd_alloc, nd_load, nd_store, nd_nilCheck, nd_binOp, nd_unOp, nd_fieldAddr, nd_indexAddr, ok_tmp, ok_const, cl_int, cl_bool, cl_string, opA_move, opA_assign, opA_pick, opA_load, opA_store, opA_nilCheck, opA_fieldAddr, opA_bin, opA_indexAddr, opA_alloc, contA_val, contA_skip, putT_some, putT_none, aev_tmp, aev_const, rd_same, rd_ne, List.length_set, valA_some, skipA_some, thenA_normal, inBlockA_normal, boolOf_bool, loadS_ptr, storeS_ptr, nilCheckS_ptr, fieldAddrS_eq, bin_geq, bin_sub, bin_seql, yieldA_S, slotAt_succ, slotAt_zero, yieldS_some, List.getElem?_cons_zero, List.getElem?_cons_succ, Option.map_some, Option.isSome_some, ne_eq, ↓reduceIte, Nat.reduceLT, Nat.zero_add, Option.some.injEq, decide_true, hl, i0, i1, i8, hge, off73_3, agg71, loadV_flat, cell_eq, hb, cellO_box, hix, sli71, zf87, vc_agg, hv, hst, hq1, hq2, off87_0, agg9, hcb, hw]
        rfl
      case lff => simp only [List.length_set, hl]
      case qff =>
        have hm : tMatch ⟨s, false, no⟩ nm false = false := by unfold tMatch; simp only [hq1, hq2]; rfl
        refine .inr ⟨hm, rfl, ?_, ?_, ?_, ?_⟩
        all_goals simp (config := { decide := true }) only [rd_ne, rd_same, List.length_set, hl, ne_eq, i0, i1, i2]

    | true =>
      refine ⟨?xft, ?tmft, ?hft, ?lft, ?qft⟩
      case hft =>
        simp (config := { decide := true }) only [theCode_seq, theCode_list, theCode_skip, theCode_ret, theCode_block, theCode_if, evalList_plain, evalList_guard, evalList_nil, nd_move, nd_assign, nd_pick, nd_alloc, nd_load, nd_store, nd_nilCheck, nd_binOp, nd_unOp, nd_fieldAddr, nd_indexAddr, ok_tmp, ok_const, cl_int, cl_bool, cl_string, opA_move, opA_assign, opA_pick, opA_load, opA_store, opA_nilCheck, opA_fieldAddr, opA_bin, opA_un, opA_indexAddr, opA_alloc, contA_val, contA_skip, putT_some, putT_none, aev_tmp, aev_const, rd_same, rd_ne, List.length_set, valA_some, skipA_some, thenA_normal, thenA_ret, inBlockA_ret, boolOf_bool, loadS_ptr, storeS_ptr, nilCheckS_ptr, fieldAddrS_eq, un_not,
    bin_geq, bin_seql, yieldA_S, slotAt_succ, slotAt_zero, yieldS_some, List.getElem?_cons_zero, List.getElem?_cons_succ, Option.map_some, Option.isSome_some, ne_eq, ↓reduceIte, Nat.reduceLT, Nat.zero_add, Option.some.injEq, decide_true, hl, i0, i1, i2, i8, hge, off73_3, agg71, loadV_flat, cell_eq, hb, cellO_box, hix, sli71, zf87, vc_agg, hv, hst, hq1, hq2, off87_0, off87_1, off87_2, agg9, agg4, agg3, hcb, Bool.not_false]
        rfl
      case lft => simp only [List.length_set, hl]
      case qft =>
        have hm : tMatch ⟨s, false, no⟩ nm false = true := by unfold tMatch; simp only [hq1, hq2]; rfl
        refine .inl ⟨hm, rfl, ?_, ?_⟩
        all_goals simp (config := { decide := true }) only [rd_ne, rd_same, List.length_set, hl, ne_eq]

  | true =>
    cases q2 with
    | false =>
      refine ⟨?xtf, ?tmtf, ?htf, ?ltf, ?qtf⟩
      case htf =>
        simp (config := { decide := true }) only [theCode_seq, theCode_list, theCode_skip, theCode_ret, theCode_block, theCode_if, evalList_plain, evalList_guard, evalList_nil, nd_move, nd_assign, nd_pick, nd_alloc, nd_load, nd_store, nd_nilCheck, nd_binOp, nd_unOp, nd_fieldAddr, nd_indexAddr, ok_tmp, ok_const, cl_int, cl_bool, cl_string, opA_move, opA_assign, opA_pick, opA_load, opA_store, opA_nilCheck, opA_fieldAddr, opA_bin, opA_un, opA_indexAddr, opA_alloc, contA_val, contA_skip, putT_some, putT_none, aev_tmp, aev_const, rd_same, rd_ne, List.length_set, valA_some, skipA_some, thenA_normal, thenA_ret, inBlockA_ret, boolOf_bool, loadS_ptr, storeS_ptr, nilCheckS_ptr, fieldAddrS_eq, un_not,
    bin_geq, bin_seql, yieldA_S, slotAt_succ, slotAt_zero, yieldS_some, List.getElem?_cons_zero, List.getElem?_cons_succ, Option.map_some, Option.isSome_some, ne_eq, ↓reduceIte, Nat.reduceLT, Nat.zero_add, Option.some.injEq, decide_true, hl, i0, i1, i2, i8, hge, off73_3, agg71, loadV_flat, cell_eq, hb, cellO_box, hix, sli71, zf87, vc_agg, hv, hst, hq1, off87_1, off87_2, agg4, agg3, hcb, Bool.not_false]
        rfl
      case ltf => simp only [List.length_set, hl]
      case qtf =>
        have hm : tMatch ⟨s, false, no⟩ nm false = true := by unfold tMatch; simp only [hq1, hq2]; rfl
        refine .inl ⟨hm, rfl, ?_, ?_⟩
        all_goals simp (config := { decide := true }) only [rd_ne, rd_same, List.length_set, hl, ne_eq]

    | true =>
      refine ⟨?xtt, ?tmtt, ?htt, ?ltt, ?qtt⟩
      case htt =>
        simp (config := { decide := true }) only [theCode_seq, theCode_list, theCode_skip, theCode_ret, theCode_block, theCode_if, evalList_plain, evalList_guard, evalList_nil, nd_move, nd_assign, nd_pick, nd_alloc, nd_load, nd_store, nd_nilCheck, nd_binOp, nd_unOp, nd_fieldAddr, nd_indexAddr, ok_tmp, ok_const, cl_int, cl_bool, cl_string, opA_move, opA_assign, opA_pick, opA_load, opA_store, opA_nilCheck, opA_fieldAddr, opA_bin, opA_un, opA_indexAddr, opA_alloc, contA_val, contA_skip, putT_some, putT_none, aev_tmp, aev_const, rd_same, rd_ne, List.length_set, valA_some, skipA_some, thenA_normal, thenA_ret, inBlockA_ret, boolOf_bool, loadS_ptr, storeS_ptr, nilCheckS_ptr, fieldAddrS_eq, un_not,
    bin_geq, bin_seql, yieldA_S, slotAt_succ, slotAt_zero, yieldS_some, List.getElem?_cons_zero, List.getElem?_cons_succ, Option.map_some, Option.isSome_some, ne_eq, ↓reduceIte, Nat.reduceLT, Nat.zero_add, Option.some.injEq, decide_true, hl, i0, i1, i2, i8, hge, off73_3, agg71, loadV_flat, cell_eq, hb, cellO_box, hix, sli71, zf87, vc_agg, hv, hst, hq1, off87_1, off87_2, agg4, agg3, hcb, Bool.not_false]
        rfl
      case ltt => simp only [List.length_set, hl]
      case qtt =>
        have hm : tMatch ⟨s, false, no⟩ nm false = true := by unfold tMatch; simp only [hq1, hq2]; rfl
        refine .inl ⟨hm, rfl, ?_, ?_⟩
        all_goals simp (config := { decide := true }) only [rd_ne, rd_same, List.length_set, hl, ne_eq]


set_option maxHeartbeats 4000000 in
set_option maxRecDepth 100000 in
theorem rf_t43_false_true {ext : CallT} {H : AHeap} (hf : H.Fresh) {b : Nat} {ρ : Rf} {ls ys us : Value} (h : RAt H b ρ ls ys us) (hn : ρ.turns.length < 1000000) {nm s : ByteArray} {no k : Nat} (hk : k < ρ.turns.length) (ht : ρ.turns.getD k noTrn = ⟨s, false, no⟩) {c : Code} (hc : (loopsF Try.f43)[0]? = some c)
    {tm : List Value} (hl : tm.length = 45) (i0 : tm.getD 0 undef = .pointer (some ⟨b, 0, none⟩)) (i1 : tm.getD 1 undef = .string nm) (i2 : tm.getD 2 undef = .bool true) (i8 : tm.getD 8 undef = .int .i64 (k : Nat)) :
    ∃ x tm' , theCode Try.prog ext false c ⟨tm, [], H⟩ = some (x, ⟨tm', [], (H.push (.box [.string ⟨#[]⟩, .bool false, .int .i64 0] 87)).set H.next (.box [.string s, .bool false, .int .i64 no] 87)⟩) ∧ tm'.length = 45 ∧
      ((tMatch ⟨s, false, no⟩ nm true = true ∧ x = .ret ∧ tm'.getD 6 undef = .int .i64 no ∧ tm'.getD 7 undef = .int .i64 0) ∨
       (tMatch ⟨s, false, no⟩ nm true = false ∧ x = .normal ∧ tm'.getD 0 undef = .pointer (some ⟨b, 0, none⟩) ∧ tm'.getD 1 undef = .string nm ∧ tm'.getD 2 undef = .bool true ∧ tm'.getD 8 undef = .int .i64 ((k : Int) - 1))) := by
  have h0 : (loopsF Try.f43)[0]? = some _ := rfl
  rw [h0] at hc
  obtain rfl := Option.some.inj hc
  clear hc h0
  have hb := h.box
  have hge : (k : Int) ≥ 0 := by omega
  have hix := fun H2 => indexAddrS_own (P := Try.prog) (t := 71) (j := (k : Int)) (k := .i64) h.ou (by omega) (by omega) es71 H2
  simp only [Int.toNat_natCast] at hix
  have hv := h.valT hk
  rw [ht] at hv
  have hbl : b < H.next := get_lt hf hb
  have hst : (H.push (.box [.string ⟨#[]⟩, .bool false, .int .i64 0] 87)).storeV Try.prog 87 ⟨H.next, 0, none⟩ (trnV ⟨s, false, no⟩) = some ((H.push (.box [.string ⟨#[]⟩, .bool false, .int .i64 0] 87)).set H.next (.box [.string s, .bool false, .int .i64 no] 87)) := by
    rw [storeV_box info87 get_push_new (by rw [cells87]; rfl) (by simp [trnV, vc_agg, trnC]) (by simp [trnV, vc_agg, trnC, fl_string, fl_bool, fl_int])]
    simp [trnV, vc_agg, trnC]
  have hcb : ((H.push (.box [.string ⟨#[]⟩, .bool false, .int .i64 0] 87)).set H.next (.box [.string s, .bool false, .int .i64 no] 87)).get H.next = some (.box [.string s, .bool false, .int .i64 no] 87) := get_set_same
  have hw : IntKind.i64.wrap ((k : Int) - 1) = (k : Int) - 1 := IntWalk.i64_in _ (by omega)
  obtain ⟨q1, hq1⟩ : ∃ q, decide (nm = ⟨#[]⟩) = q := ⟨_, rfl⟩
  obtain ⟨q2, hq2⟩ : ∃ q, decide (s = nm) = q := ⟨_, rfl⟩
  obtain ⟨Hx, hHx⟩ : ∃ X, (H.push (.box [.string ⟨#[]⟩, .bool false, .int .i64 0] 87)).set H.next (.box [.string s, .bool false, .int .i64 no] 87) = X := ⟨_, rfl⟩
  rw [hHx] at hst hcb ⊢

  cases q1 with
  | false =>
    cases q2 with
    | false =>
      refine ⟨?xff, ?tmff, ?hff, ?lff, ?qff⟩
      case hff =>
        simp (config := { decide := true }) only [theCode_seq, theCode_list, theCode_skip, theCode_block, theCode_if, evalList_plain, evalList_guard, evalList_nil, nd_move, nd_assign, nd_pick, nd_alloc, nd_load, nd_store, nd_nilCheck, nd_binOp, nd_unOp, nd_fieldAddr, nd_indexAddr, ok_tmp, ok_const, cl_int, cl_bool, cl_string, opA_move, opA_assign, opA_pick, opA_load, opA_store, opA_nilCheck, opA_fieldAddr, opA_bin, opA_indexAddr, opA_alloc, contA_val, contA_skip, putT_some, putT_none, aev_tmp, aev_const, rd_same, rd_ne, List.length_set, valA_some, skipA_some, thenA_normal, inBlockA_normal, boolOf_bool, loadS_ptr, storeS_ptr, nilCheckS_ptr, fieldAddrS_eq, bin_geq, bin_sub, bin_seql, yieldA_S, slotAt_succ, slotAt_zero, yieldS_some, List.getElem?_cons_zero, List.getElem?_cons_succ, Option.map_some, Option.isSome_some, ne_eq, ↓reduceIte, Nat.reduceLT, Nat.zero_add, Option.some.injEq, decide_true, hl, i0, i1, i8, hge, off73_3, agg71, loadV_flat, cell_eq, hb, cellO_box, hix, sli71, zf87, vc_agg, hv, hst, hq1, hq2, off87_0, agg9, hcb, hw]
        rfl
      case lff => simp only [List.length_set, hl]
      case qff =>
        have hm : tMatch ⟨s, false, no⟩ nm true = false := by unfold tMatch; simp only [hq1, hq2]; rfl
        refine .inr ⟨hm, rfl, ?_, ?_, ?_, ?_⟩
        all_goals simp (config := { decide := true }) only [rd_ne, rd_same, List.length_set, hl, ne_eq, i0, i1, i2]

    | true =>
      refine ⟨?xft, ?tmft, ?hft, ?lft, ?qft⟩
      case hft =>
        simp (config := { decide := true }) only [theCode_seq, theCode_list, theCode_skip, theCode_block, theCode_if, evalList_plain, evalList_guard, evalList_nil, nd_move, nd_assign, nd_pick, nd_alloc, nd_load, nd_store, nd_nilCheck, nd_binOp, nd_unOp, nd_fieldAddr, nd_indexAddr, ok_tmp, ok_const, cl_int, cl_bool, cl_string, opA_move, opA_assign, opA_pick, opA_load, opA_store, opA_nilCheck, opA_fieldAddr, opA_bin, opA_un, opA_indexAddr, opA_alloc, contA_val, contA_skip, putT_some, putT_none, aev_tmp, aev_const, rd_same, rd_ne, List.length_set, valA_some, skipA_some, thenA_normal, inBlockA_normal, boolOf_bool, loadS_ptr, storeS_ptr, nilCheckS_ptr, fieldAddrS_eq, un_not,
    bin_geq, bin_sub, bin_seql, yieldA_S, slotAt_succ, slotAt_zero, yieldS_some, List.getElem?_cons_zero, List.getElem?_cons_succ, Option.map_some, Option.isSome_some, ne_eq, ↓reduceIte, Nat.reduceLT, Nat.zero_add, Option.some.injEq, decide_true, hl, i0, i1, i2, i8, hge, off73_3, agg71, loadV_flat, cell_eq, hb, cellO_box, hix, sli71, zf87, vc_agg, hv, hst, hq1, hq2, off87_0, off87_1, agg9, agg4, hcb, hw, Bool.not_true]
        rfl
      case lft => simp only [List.length_set, hl]
      case qft =>
        have hm : tMatch ⟨s, false, no⟩ nm true = false := by unfold tMatch; simp only [hq1, hq2]; rfl
        refine .inr ⟨hm, rfl, ?_, ?_, ?_, ?_⟩
        all_goals simp (config := { decide := true }) only [rd_ne, rd_same, List.length_set, hl, ne_eq, i0, i1, i2]

  | true =>
    cases q2 with
    | false =>
      refine ⟨?xtf, ?tmtf, ?htf, ?ltf, ?qtf⟩
      case htf =>
        simp (config := { decide := true }) only [theCode_seq, theCode_list, theCode_skip, theCode_block, theCode_if, evalList_plain, evalList_guard, evalList_nil, nd_move, nd_assign, nd_pick, nd_alloc, nd_load, nd_store, nd_nilCheck, nd_binOp, nd_unOp, nd_fieldAddr, nd_indexAddr, ok_tmp, ok_const, cl_int, cl_bool, cl_string, opA_move, opA_assign, opA_pick, opA_load, opA_store, opA_nilCheck, opA_fieldAddr, opA_bin, opA_un, opA_indexAddr, opA_alloc, contA_val, contA_skip, putT_some, putT_none, aev_tmp, aev_const, rd_same, rd_ne, List.length_set, valA_some, skipA_some, thenA_normal, inBlockA_normal, boolOf_bool, loadS_ptr, storeS_ptr, nilCheckS_ptr, fieldAddrS_eq, un_not,
    bin_geq, bin_sub, bin_seql, yieldA_S, slotAt_succ, slotAt_zero, yieldS_some, List.getElem?_cons_zero, List.getElem?_cons_succ, Option.map_some, Option.isSome_some, ne_eq, ↓reduceIte, Nat.reduceLT, Nat.zero_add, Option.some.injEq, decide_true, hl, i0, i1, i2, i8, hge, off73_3, agg71, loadV_flat, cell_eq, hb, cellO_box, hix, sli71, zf87, vc_agg, hv, hst, hq1, off87_1, agg4, hcb, hw, Bool.not_true]
        rfl
      case ltf => simp only [List.length_set, hl]
      case qtf =>
        have hm : tMatch ⟨s, false, no⟩ nm true = false := by unfold tMatch; simp only [hq1, hq2]; rfl
        refine .inr ⟨hm, rfl, ?_, ?_, ?_, ?_⟩
        all_goals simp (config := { decide := true }) only [rd_ne, rd_same, List.length_set, hl, ne_eq, i0, i1, i2]

    | true =>
      refine ⟨?xtt, ?tmtt, ?htt, ?ltt, ?qtt⟩
      case htt =>
        simp (config := { decide := true }) only [theCode_seq, theCode_list, theCode_skip, theCode_block, theCode_if, evalList_plain, evalList_guard, evalList_nil, nd_move, nd_assign, nd_pick, nd_alloc, nd_load, nd_store, nd_nilCheck, nd_binOp, nd_unOp, nd_fieldAddr, nd_indexAddr, ok_tmp, ok_const, cl_int, cl_bool, cl_string, opA_move, opA_assign, opA_pick, opA_load, opA_store, opA_nilCheck, opA_fieldAddr, opA_bin, opA_un, opA_indexAddr, opA_alloc, contA_val, contA_skip, putT_some, putT_none, aev_tmp, aev_const, rd_same, rd_ne, List.length_set, valA_some, skipA_some, thenA_normal, inBlockA_normal, boolOf_bool, loadS_ptr, storeS_ptr, nilCheckS_ptr, fieldAddrS_eq, un_not,
    bin_geq, bin_sub, bin_seql, yieldA_S, slotAt_succ, slotAt_zero, yieldS_some, List.getElem?_cons_zero, List.getElem?_cons_succ, Option.map_some, Option.isSome_some, ne_eq, ↓reduceIte, Nat.reduceLT, Nat.zero_add, Option.some.injEq, decide_true, hl, i0, i1, i2, i8, hge, off73_3, agg71, loadV_flat, cell_eq, hb, cellO_box, hix, sli71, zf87, vc_agg, hv, hst, hq1, off87_1, agg4, hcb, hw, Bool.not_true]
        rfl
      case ltt => simp only [List.length_set, hl]
      case qtt =>
        have hm : tMatch ⟨s, false, no⟩ nm true = false := by unfold tMatch; simp only [hq1, hq2]; rfl
        refine .inr ⟨hm, rfl, ?_, ?_, ?_, ?_⟩
        all_goals simp (config := { decide := true }) only [rd_ne, rd_same, List.length_set, hl, ne_eq, i0, i1, i2]


set_option maxHeartbeats 4000000 in
set_option maxRecDepth 100000 in
theorem rf_t43_true_false {ext : CallT} {H : AHeap} (hf : H.Fresh) {b : Nat} {ρ : Rf} {ls ys us : Value} (h : RAt H b ρ ls ys us) (hn : ρ.turns.length < 1000000) {nm s : ByteArray} {no k : Nat} (hk : k < ρ.turns.length) (ht : ρ.turns.getD k noTrn = ⟨s, true, no⟩) {c : Code} (hc : (loopsF Try.f43)[0]? = some c)
    {tm : List Value} (hl : tm.length = 45) (i0 : tm.getD 0 undef = .pointer (some ⟨b, 0, none⟩)) (i1 : tm.getD 1 undef = .string nm) (i2 : tm.getD 2 undef = .bool false) (i8 : tm.getD 8 undef = .int .i64 (k : Nat)) :
    ∃ x tm' , theCode Try.prog ext false c ⟨tm, [], H⟩ = some (x, ⟨tm', [], (H.push (.box [.string ⟨#[]⟩, .bool false, .int .i64 0] 87)).set H.next (.box [.string s, .bool true, .int .i64 no] 87)⟩) ∧ tm'.length = 45 ∧
      ((tMatch ⟨s, true, no⟩ nm false = true ∧ x = .ret ∧ tm'.getD 6 undef = .int .i64 no ∧ tm'.getD 7 undef = .int .i64 0) ∨
       (tMatch ⟨s, true, no⟩ nm false = false ∧ x = .normal ∧ tm'.getD 0 undef = .pointer (some ⟨b, 0, none⟩) ∧ tm'.getD 1 undef = .string nm ∧ tm'.getD 2 undef = .bool false ∧ tm'.getD 8 undef = .int .i64 ((k : Int) - 1))) := by
  have h0 : (loopsF Try.f43)[0]? = some _ := rfl
  rw [h0] at hc
  obtain rfl := Option.some.inj hc
  clear hc h0
  have hb := h.box
  have hge : (k : Int) ≥ 0 := by omega
  have hix := fun H2 => indexAddrS_own (P := Try.prog) (t := 71) (j := (k : Int)) (k := .i64) h.ou (by omega) (by omega) es71 H2
  simp only [Int.toNat_natCast] at hix
  have hv := h.valT hk
  rw [ht] at hv
  have hbl : b < H.next := get_lt hf hb
  have hst : (H.push (.box [.string ⟨#[]⟩, .bool false, .int .i64 0] 87)).storeV Try.prog 87 ⟨H.next, 0, none⟩ (trnV ⟨s, true, no⟩) = some ((H.push (.box [.string ⟨#[]⟩, .bool false, .int .i64 0] 87)).set H.next (.box [.string s, .bool true, .int .i64 no] 87)) := by
    rw [storeV_box info87 get_push_new (by rw [cells87]; rfl) (by simp [trnV, vc_agg, trnC]) (by simp [trnV, vc_agg, trnC, fl_string, fl_bool, fl_int])]
    simp [trnV, vc_agg, trnC]
  have hcb : ((H.push (.box [.string ⟨#[]⟩, .bool false, .int .i64 0] 87)).set H.next (.box [.string s, .bool true, .int .i64 no] 87)).get H.next = some (.box [.string s, .bool true, .int .i64 no] 87) := get_set_same
  have hw : IntKind.i64.wrap ((k : Int) - 1) = (k : Int) - 1 := IntWalk.i64_in _ (by omega)
  obtain ⟨q1, hq1⟩ : ∃ q, decide (nm = ⟨#[]⟩) = q := ⟨_, rfl⟩
  obtain ⟨q2, hq2⟩ : ∃ q, decide (s = nm) = q := ⟨_, rfl⟩
  obtain ⟨Hx, hHx⟩ : ∃ X, (H.push (.box [.string ⟨#[]⟩, .bool false, .int .i64 0] 87)).set H.next (.box [.string s, .bool true, .int .i64 no] 87) = X := ⟨_, rfl⟩
  rw [hHx] at hst hcb ⊢

  cases q1 with
  | false =>
    cases q2 with
    | false =>
      refine ⟨?xff, ?tmff, ?hff, ?lff, ?qff⟩
      case hff =>
        simp (config := { decide := true }) only [theCode_seq, theCode_list, theCode_skip, theCode_block, theCode_if, evalList_plain, evalList_guard, evalList_nil, nd_move, nd_assign, nd_pick, nd_alloc, nd_load, nd_store, nd_nilCheck, nd_binOp, nd_unOp, nd_fieldAddr, nd_indexAddr, ok_tmp, ok_const, cl_int, cl_bool, cl_string, opA_move, opA_assign, opA_pick, opA_load, opA_store, opA_nilCheck, opA_fieldAddr, opA_bin, opA_indexAddr, opA_alloc, contA_val, contA_skip, putT_some, putT_none, aev_tmp, aev_const, rd_same, rd_ne, List.length_set, valA_some, skipA_some, thenA_normal, inBlockA_normal, boolOf_bool, loadS_ptr, storeS_ptr, nilCheckS_ptr, fieldAddrS_eq, bin_geq, bin_sub, bin_seql, yieldA_S, slotAt_succ, slotAt_zero, yieldS_some, List.getElem?_cons_zero, List.getElem?_cons_succ, Option.map_some, Option.isSome_some, ne_eq, ↓reduceIte, Nat.reduceLT, Nat.zero_add, Option.some.injEq, decide_true, hl, i0, i1, i8, hge, off73_3, agg71, loadV_flat, cell_eq, hb, cellO_box, hix, sli71, zf87, vc_agg, hv, hst, hq1, hq2, off87_0, agg9, hcb, hw]
        rfl
      case lff => simp only [List.length_set, hl]
      case qff =>
        have hm : tMatch ⟨s, true, no⟩ nm false = false := by unfold tMatch; simp only [hq1, hq2]; rfl
        refine .inr ⟨hm, rfl, ?_, ?_, ?_, ?_⟩
        all_goals simp (config := { decide := true }) only [rd_ne, rd_same, List.length_set, hl, ne_eq, i0, i1, i2]

    | true =>
      refine ⟨?xft, ?tmft, ?hft, ?lft, ?qft⟩
      case hft =>
        simp (config := { decide := true }) only [theCode_seq, theCode_list, theCode_skip, theCode_ret, theCode_block, theCode_if, evalList_plain, evalList_guard, evalList_nil, nd_move, nd_assign, nd_pick, nd_alloc, nd_load, nd_store, nd_nilCheck, nd_binOp, nd_unOp, nd_fieldAddr, nd_indexAddr, ok_tmp, ok_const, cl_int, cl_bool, cl_string, opA_move, opA_assign, opA_pick, opA_load, opA_store, opA_nilCheck, opA_fieldAddr, opA_bin, opA_indexAddr, opA_alloc, contA_val, contA_skip, putT_some, putT_none, aev_tmp, aev_const, rd_same, rd_ne, List.length_set, valA_some, skipA_some, thenA_normal, thenA_ret, inBlockA_ret, boolOf_bool, loadS_ptr, storeS_ptr, nilCheckS_ptr, fieldAddrS_eq, bin_geq, bin_seql, yieldA_S, slotAt_succ, slotAt_zero, yieldS_some, List.getElem?_cons_zero, List.getElem?_cons_succ, Option.map_some, Option.isSome_some, ne_eq, ↓reduceIte, Nat.reduceLT, Nat.zero_add, Option.some.injEq, decide_true, hl, i0, i1, i8, hge, off73_3, agg71, loadV_flat, cell_eq, hb, cellO_box, hix, sli71, zf87, vc_agg, hv, hst, hq1, hq2, off87_0, off87_1, off87_2, agg9, agg4, agg3, hcb]
        rfl
      case lft => simp only [List.length_set, hl]
      case qft =>
        have hm : tMatch ⟨s, true, no⟩ nm false = true := by unfold tMatch; simp only [hq1, hq2]; rfl
        refine .inl ⟨hm, rfl, ?_, ?_⟩
        all_goals simp (config := { decide := true }) only [rd_ne, rd_same, List.length_set, hl, ne_eq]

  | true =>
    cases q2 with
    | false =>
      refine ⟨?xtf, ?tmtf, ?htf, ?ltf, ?qtf⟩
      case htf =>
        simp (config := { decide := true }) only [theCode_seq, theCode_list, theCode_skip, theCode_ret, theCode_block, theCode_if, evalList_plain, evalList_guard, evalList_nil, nd_move, nd_assign, nd_pick, nd_alloc, nd_load, nd_store, nd_nilCheck, nd_binOp, nd_unOp, nd_fieldAddr, nd_indexAddr, ok_tmp, ok_const, cl_int, cl_bool, cl_string, opA_move, opA_assign, opA_pick, opA_load, opA_store, opA_nilCheck, opA_fieldAddr, opA_bin, opA_indexAddr, opA_alloc, contA_val, contA_skip, putT_some, putT_none, aev_tmp, aev_const, rd_same, rd_ne, List.length_set, valA_some, skipA_some, thenA_normal, thenA_ret, inBlockA_ret, boolOf_bool, loadS_ptr, storeS_ptr, nilCheckS_ptr, fieldAddrS_eq, bin_geq, bin_seql, yieldA_S, slotAt_succ, slotAt_zero, yieldS_some, List.getElem?_cons_zero, List.getElem?_cons_succ, Option.map_some, Option.isSome_some, ne_eq, ↓reduceIte, Nat.reduceLT, Nat.zero_add, Option.some.injEq, decide_true, hl, i0, i1, i8, hge, off73_3, agg71, loadV_flat, cell_eq, hb, cellO_box, hix, sli71, zf87, vc_agg, hv, hst, hq1, off87_1, off87_2, agg4, agg3, hcb]
        rfl
      case ltf => simp only [List.length_set, hl]
      case qtf =>
        have hm : tMatch ⟨s, true, no⟩ nm false = true := by unfold tMatch; simp only [hq1, hq2]; rfl
        refine .inl ⟨hm, rfl, ?_, ?_⟩
        all_goals simp (config := { decide := true }) only [rd_ne, rd_same, List.length_set, hl, ne_eq]

    | true =>
      refine ⟨?xtt, ?tmtt, ?htt, ?ltt, ?qtt⟩
      case htt =>
        simp (config := { decide := true }) only [theCode_seq, theCode_list, theCode_skip, theCode_ret, theCode_block, theCode_if, evalList_plain, evalList_guard, evalList_nil, nd_move, nd_assign, nd_pick, nd_alloc, nd_load, nd_store, nd_nilCheck, nd_binOp, nd_unOp, nd_fieldAddr, nd_indexAddr, ok_tmp, ok_const, cl_int, cl_bool, cl_string, opA_move, opA_assign, opA_pick, opA_load, opA_store, opA_nilCheck, opA_fieldAddr, opA_bin, opA_indexAddr, opA_alloc, contA_val, contA_skip, putT_some, putT_none, aev_tmp, aev_const, rd_same, rd_ne, List.length_set, valA_some, skipA_some, thenA_normal, thenA_ret, inBlockA_ret, boolOf_bool, loadS_ptr, storeS_ptr, nilCheckS_ptr, fieldAddrS_eq, bin_geq, bin_seql, yieldA_S, slotAt_succ, slotAt_zero, yieldS_some, List.getElem?_cons_zero, List.getElem?_cons_succ, Option.map_some, Option.isSome_some, ne_eq, ↓reduceIte, Nat.reduceLT, Nat.zero_add, Option.some.injEq, decide_true, hl, i0, i1, i8, hge, off73_3, agg71, loadV_flat, cell_eq, hb, cellO_box, hix, sli71, zf87, vc_agg, hv, hst, hq1, off87_1, off87_2, agg4, agg3, hcb]
        rfl
      case ltt => simp only [List.length_set, hl]
      case qtt =>
        have hm : tMatch ⟨s, true, no⟩ nm false = true := by unfold tMatch; simp only [hq1, hq2]; rfl
        refine .inl ⟨hm, rfl, ?_, ?_⟩
        all_goals simp (config := { decide := true }) only [rd_ne, rd_same, List.length_set, hl, ne_eq]


set_option maxHeartbeats 4000000 in
set_option maxRecDepth 100000 in
theorem rf_t43_true_true {ext : CallT} {H : AHeap} (hf : H.Fresh) {b : Nat} {ρ : Rf} {ls ys us : Value} (h : RAt H b ρ ls ys us) (hn : ρ.turns.length < 1000000) {nm s : ByteArray} {no k : Nat} (hk : k < ρ.turns.length) (ht : ρ.turns.getD k noTrn = ⟨s, true, no⟩) {c : Code} (hc : (loopsF Try.f43)[0]? = some c)
    {tm : List Value} (hl : tm.length = 45) (i0 : tm.getD 0 undef = .pointer (some ⟨b, 0, none⟩)) (i1 : tm.getD 1 undef = .string nm) (i2 : tm.getD 2 undef = .bool true) (i8 : tm.getD 8 undef = .int .i64 (k : Nat)) :
    ∃ x tm' , theCode Try.prog ext false c ⟨tm, [], H⟩ = some (x, ⟨tm', [], (H.push (.box [.string ⟨#[]⟩, .bool false, .int .i64 0] 87)).set H.next (.box [.string s, .bool true, .int .i64 no] 87)⟩) ∧ tm'.length = 45 ∧
      ((tMatch ⟨s, true, no⟩ nm true = true ∧ x = .ret ∧ tm'.getD 6 undef = .int .i64 no ∧ tm'.getD 7 undef = .int .i64 0) ∨
       (tMatch ⟨s, true, no⟩ nm true = false ∧ x = .normal ∧ tm'.getD 0 undef = .pointer (some ⟨b, 0, none⟩) ∧ tm'.getD 1 undef = .string nm ∧ tm'.getD 2 undef = .bool true ∧ tm'.getD 8 undef = .int .i64 ((k : Int) - 1))) := by
  have h0 : (loopsF Try.f43)[0]? = some _ := rfl
  rw [h0] at hc
  obtain rfl := Option.some.inj hc
  clear hc h0
  have hb := h.box
  have hge : (k : Int) ≥ 0 := by omega
  have hix := fun H2 => indexAddrS_own (P := Try.prog) (t := 71) (j := (k : Int)) (k := .i64) h.ou (by omega) (by omega) es71 H2
  simp only [Int.toNat_natCast] at hix
  have hv := h.valT hk
  rw [ht] at hv
  have hbl : b < H.next := get_lt hf hb
  have hst : (H.push (.box [.string ⟨#[]⟩, .bool false, .int .i64 0] 87)).storeV Try.prog 87 ⟨H.next, 0, none⟩ (trnV ⟨s, true, no⟩) = some ((H.push (.box [.string ⟨#[]⟩, .bool false, .int .i64 0] 87)).set H.next (.box [.string s, .bool true, .int .i64 no] 87)) := by
    rw [storeV_box info87 get_push_new (by rw [cells87]; rfl) (by simp [trnV, vc_agg, trnC]) (by simp [trnV, vc_agg, trnC, fl_string, fl_bool, fl_int])]
    simp [trnV, vc_agg, trnC]
  have hcb : ((H.push (.box [.string ⟨#[]⟩, .bool false, .int .i64 0] 87)).set H.next (.box [.string s, .bool true, .int .i64 no] 87)).get H.next = some (.box [.string s, .bool true, .int .i64 no] 87) := get_set_same
  have hw : IntKind.i64.wrap ((k : Int) - 1) = (k : Int) - 1 := IntWalk.i64_in _ (by omega)
  obtain ⟨q1, hq1⟩ : ∃ q, decide (nm = ⟨#[]⟩) = q := ⟨_, rfl⟩
  obtain ⟨q2, hq2⟩ : ∃ q, decide (s = nm) = q := ⟨_, rfl⟩
  obtain ⟨Hx, hHx⟩ : ∃ X, (H.push (.box [.string ⟨#[]⟩, .bool false, .int .i64 0] 87)).set H.next (.box [.string s, .bool true, .int .i64 no] 87) = X := ⟨_, rfl⟩
  rw [hHx] at hst hcb ⊢

  cases q1 with
  | false =>
    cases q2 with
    | false =>
      refine ⟨?xff, ?tmff, ?hff, ?lff, ?qff⟩
      case hff =>
        simp (config := { decide := true }) only [theCode_seq, theCode_list, theCode_skip, theCode_block, theCode_if, evalList_plain, evalList_guard, evalList_nil, nd_move, nd_assign, nd_pick, nd_alloc, nd_load, nd_store, nd_nilCheck, nd_binOp, nd_unOp, nd_fieldAddr, nd_indexAddr, ok_tmp, ok_const, cl_int, cl_bool, cl_string, opA_move, opA_assign, opA_pick, opA_load, opA_store, opA_nilCheck, opA_fieldAddr, opA_bin, opA_indexAddr, opA_alloc, contA_val, contA_skip, putT_some, putT_none, aev_tmp, aev_const, rd_same, rd_ne, List.length_set, valA_some, skipA_some, thenA_normal, inBlockA_normal, boolOf_bool, loadS_ptr, storeS_ptr, nilCheckS_ptr, fieldAddrS_eq, bin_geq, bin_sub, bin_seql, yieldA_S, slotAt_succ, slotAt_zero, yieldS_some, List.getElem?_cons_zero, List.getElem?_cons_succ, Option.map_some, Option.isSome_some, ne_eq, ↓reduceIte, Nat.reduceLT, Nat.zero_add, Option.some.injEq, decide_true, hl, i0, i1, i8, hge, off73_3, agg71, loadV_flat, cell_eq, hb, cellO_box, hix, sli71, zf87, vc_agg, hv, hst, hq1, hq2, off87_0, agg9, hcb, hw]
        rfl
      case lff => simp only [List.length_set, hl]
      case qff =>
        have hm : tMatch ⟨s, true, no⟩ nm true = false := by unfold tMatch; simp only [hq1, hq2]; rfl
        refine .inr ⟨hm, rfl, ?_, ?_, ?_, ?_⟩
        all_goals simp (config := { decide := true }) only [rd_ne, rd_same, List.length_set, hl, ne_eq, i0, i1, i2]

    | true =>
      refine ⟨?xft, ?tmft, ?hft, ?lft, ?qft⟩
      case hft =>
        simp (config := { decide := true }) only [theCode_seq, theCode_list, theCode_skip, theCode_ret, theCode_block, theCode_if, evalList_plain, evalList_guard, evalList_nil, nd_move, nd_assign, nd_pick, nd_alloc, nd_load, nd_store, nd_nilCheck, nd_binOp, nd_unOp, nd_fieldAddr, nd_indexAddr, ok_tmp, ok_const, cl_int, cl_bool, cl_string, opA_move, opA_assign, opA_pick, opA_load, opA_store, opA_nilCheck, opA_fieldAddr, opA_bin, opA_indexAddr, opA_alloc, contA_val, contA_skip, putT_some, putT_none, aev_tmp, aev_const, rd_same, rd_ne, List.length_set, valA_some, skipA_some, thenA_normal, thenA_ret, inBlockA_ret, boolOf_bool, loadS_ptr, storeS_ptr, nilCheckS_ptr, fieldAddrS_eq, bin_geq, bin_seql, yieldA_S, slotAt_succ, slotAt_zero, yieldS_some, List.getElem?_cons_zero, List.getElem?_cons_succ, Option.map_some, Option.isSome_some, ne_eq, ↓reduceIte, Nat.reduceLT, Nat.zero_add, Option.some.injEq, decide_true, hl, i0, i1, i8, hge, off73_3, agg71, loadV_flat, cell_eq, hb, cellO_box, hix, sli71, zf87, vc_agg, hv, hst, hq1, hq2, off87_0, off87_1, off87_2, agg9, agg4, agg3, hcb]
        rfl
      case lft => simp only [List.length_set, hl]
      case qft =>
        have hm : tMatch ⟨s, true, no⟩ nm true = true := by unfold tMatch; simp only [hq1, hq2]; rfl
        refine .inl ⟨hm, rfl, ?_, ?_⟩
        all_goals simp (config := { decide := true }) only [rd_ne, rd_same, List.length_set, hl, ne_eq]

  | true =>
    cases q2 with
    | false =>
      refine ⟨?xtf, ?tmtf, ?htf, ?ltf, ?qtf⟩
      case htf =>
        simp (config := { decide := true }) only [theCode_seq, theCode_list, theCode_skip, theCode_ret, theCode_block, theCode_if, evalList_plain, evalList_guard, evalList_nil, nd_move, nd_assign, nd_pick, nd_alloc, nd_load, nd_store, nd_nilCheck, nd_binOp, nd_unOp, nd_fieldAddr, nd_indexAddr, ok_tmp, ok_const, cl_int, cl_bool, cl_string, opA_move, opA_assign, opA_pick, opA_load, opA_store, opA_nilCheck, opA_fieldAddr, opA_bin, opA_indexAddr, opA_alloc, contA_val, contA_skip, putT_some, putT_none, aev_tmp, aev_const, rd_same, rd_ne, List.length_set, valA_some, skipA_some, thenA_normal, thenA_ret, inBlockA_ret, boolOf_bool, loadS_ptr, storeS_ptr, nilCheckS_ptr, fieldAddrS_eq, bin_geq, bin_seql, yieldA_S, slotAt_succ, slotAt_zero, yieldS_some, List.getElem?_cons_zero, List.getElem?_cons_succ, Option.map_some, Option.isSome_some, ne_eq, ↓reduceIte, Nat.reduceLT, Nat.zero_add, Option.some.injEq, decide_true, hl, i0, i1, i8, hge, off73_3, agg71, loadV_flat, cell_eq, hb, cellO_box, hix, sli71, zf87, vc_agg, hv, hst, hq1, off87_1, off87_2, agg4, agg3, hcb]
        rfl
      case ltf => simp only [List.length_set, hl]
      case qtf =>
        have hm : tMatch ⟨s, true, no⟩ nm true = true := by unfold tMatch; simp only [hq1, hq2]; rfl
        refine .inl ⟨hm, rfl, ?_, ?_⟩
        all_goals simp (config := { decide := true }) only [rd_ne, rd_same, List.length_set, hl, ne_eq]

    | true =>
      refine ⟨?xtt, ?tmtt, ?htt, ?ltt, ?qtt⟩
      case htt =>
        simp (config := { decide := true }) only [theCode_seq, theCode_list, theCode_skip, theCode_ret, theCode_block, theCode_if, evalList_plain, evalList_guard, evalList_nil, nd_move, nd_assign, nd_pick, nd_alloc, nd_load, nd_store, nd_nilCheck, nd_binOp, nd_unOp, nd_fieldAddr, nd_indexAddr, ok_tmp, ok_const, cl_int, cl_bool, cl_string, opA_move, opA_assign, opA_pick, opA_load, opA_store, opA_nilCheck, opA_fieldAddr, opA_bin, opA_indexAddr, opA_alloc, contA_val, contA_skip, putT_some, putT_none, aev_tmp, aev_const, rd_same, rd_ne, List.length_set, valA_some, skipA_some, thenA_normal, thenA_ret, inBlockA_ret, boolOf_bool, loadS_ptr, storeS_ptr, nilCheckS_ptr, fieldAddrS_eq, bin_geq, bin_seql, yieldA_S, slotAt_succ, slotAt_zero, yieldS_some, List.getElem?_cons_zero, List.getElem?_cons_succ, Option.map_some, Option.isSome_some, ne_eq, ↓reduceIte, Nat.reduceLT, Nat.zero_add, Option.some.injEq, decide_true, hl, i0, i1, i8, hge, off73_3, agg71, loadV_flat, cell_eq, hb, cellO_box, hix, sli71, zf87, vc_agg, hv, hst, hq1, off87_1, off87_2, agg4, agg3, hcb]
        rfl
      case ltt => simp only [List.length_set, hl]
      case qtt =>
        have hm : tMatch ⟨s, true, no⟩ nm true = true := by unfold tMatch; simp only [hq1, hq2]; rfl
        refine .inl ⟨hm, rfl, ?_, ?_⟩
        all_goals simp (config := { decide := true }) only [rd_ne, rd_same, List.length_set, hl, ne_eq]


theorem rf_t43 {ext : CallT} {H : AHeap} (hf : H.Fresh) {b : Nat} {ρ : Rf} {ls ys us : Value} (h : RAt H b ρ ls ys us) (hn : ρ.turns.length < 1000000) {nm : ByteArray} {tn : Bool} {k : Nat} (hk : k < ρ.turns.length) {c : Code} (hc : (loopsF Try.f43)[0]? = some c)
    {tm : List Value} (hl : tm.length = 45) (i0 : tm.getD 0 undef = .pointer (some ⟨b, 0, none⟩)) (i1 : tm.getD 1 undef = .string nm) (i2 : tm.getD 2 undef = .bool tn) (i8 : tm.getD 8 undef = .int .i64 (k : Nat)) :
    ∃ x tm' H', theCode Try.prog ext false c ⟨tm, [], H⟩ = some (x, ⟨tm', [], H'⟩) ∧ Grown H H' ∧ tm'.length = 45 ∧
      ((tMatch (ρ.turns.getD k noTrn) nm tn = true ∧ x = .ret ∧ tm'.getD 6 undef = .int .i64 (ρ.turns.getD k noTrn).no ∧ tm'.getD 7 undef = .int .i64 0) ∨
       (tMatch (ρ.turns.getD k noTrn) nm tn = false ∧ x = .normal ∧ tm'.getD 0 undef = .pointer (some ⟨b, 0, none⟩) ∧ tm'.getD 1 undef = .string nm ∧ tm'.getD 2 undef = .bool tn ∧ tm'.getD 8 undef = .int .i64 ((k : Int) - 1))) := by
  have hg : ∀ s lp no, Grown H ((H.push (.box [.string ⟨#[]⟩, .bool false, .int .i64 0] 87)).set H.next (.box [.string s, .bool lp, .int .i64 no] 87)) := fun s lp no =>
    Grown.set2 (Grown.push hf _) _ get_push_new (Nat.le_refl _)
  obtain ⟨⟨s, lp, no⟩, ht⟩ : ∃ t, ρ.turns.getD k noTrn = t := ⟨_, rfl⟩
  rw [ht]
  cases lp <;> cases tn
  · obtain ⟨x, tm', h1, h2⟩ := rf_t43_false_false (ext := ext) hf h hn hk ht hc hl i0 i1 i2 i8
    exact ⟨x, tm', _, h1, hg _ _ _, h2⟩
  · obtain ⟨x, tm', h1, h2⟩ := rf_t43_false_true (ext := ext) hf h hn hk ht hc hl i0 i1 i2 i8
    exact ⟨x, tm', _, h1, hg _ _ _, h2⟩
  · obtain ⟨x, tm', h1, h2⟩ := rf_t43_true_false (ext := ext) hf h hn hk ht hc hl i0 i1 i2 i8
    exact ⟨x, tm', _, h1, hg _ _ _, h2⟩
  · obtain ⟨x, tm', h1, h2⟩ := rf_t43_true_true (ext := ext) hf h hn hk ht hc hl i0 i1 i2 i8
    exact ⟨x, tm', _, h1, hg _ _ _, h2⟩

set_option maxHeartbeats 4000000 in
set_option maxRecDepth 100000 in
theorem rf_l43 {ext : CallT} {H : AHeap} (hf : H.Fresh) {b : Nat} {ρ : Rf} {ls ys us : Value} (h : RAt H b ρ ls ys us) (hn : ρ.turns.length < 1000000) {nm : ByteArray} {tn : Bool} {c : Code} (hc : (loopsF Try.f43)[0]? = some c) :
    ∀ k s, (fun k s => ∃ tm Hk, s = ⟨tm, [], Hk⟩ ∧ Grown H Hk ∧ k ≤ ρ.turns.length ∧ lastI (fun i => tMatch (ρ.turns.getD i noTrn) nm tn) k = ρ.sc.targetAt nm tn ∧ tm.length = 45 ∧ tm.getD 0 undef = .pointer (some ⟨b, 0, none⟩) ∧ tm.getD 1 undef = .string nm ∧ tm.getD 2 undef = .bool tn ∧ tm.getD 8 undef = .int .i64 ((k : Int) - 1)) k s →
      ∃ x s', theCode Try.prog ext false (.loop c) s = some (x, s') ∧ x ≠ .normal ∧ (fun x s => ∃ tm Hk, s = ⟨tm, [], Hk⟩ ∧ Grown H Hk ∧ tm.length = 45 ∧ ((x = .exit 0 ∧ ρ.sc.targetAt nm tn = none) ∨ (x = .ret ∧ ∃ i, ρ.sc.targetAt nm tn = some i ∧ tm.getD 6 undef = .int .i64 (ρ.turns.getD i noTrn).no ∧ tm.getD 7 undef = .int .i64 0))) x s' := by
  refine theCode_loop_inv _ _ ?_
  rintro k _ ⟨tm, Hk, rfl, g, hkn, hq, hl, i0, i1, i2, i8⟩
  cases k with
  | zero =>
    right
    have h0 : (loopsF Try.f43)[0]? = some _ := rfl
    rw [h0] at hc
    obtain rfl := Option.some.inj hc
    clear hc h0
    have hge : ¬ (((0 : Nat) : Int) - 1 ≥ 0) := by omega
    refine ⟨?x0, ?s0, ?h0, ?hx0, ?hq0⟩
    case h0 =>
      simp (config := { decide := true }) only [theCode_seq, theCode_list, theCode_exit, theCode_if, evalList_plain, evalList_nil, nd_move, nd_binOp, ok_tmp, ok_const, cl_int, opA_move, opA_bin, contA_val, putT_some, aev_tmp, aev_const, rd_same, List.length_set, thenA_normal, thenA_exit, boolOf_bool, bin_geq, Option.isSome_some, ↓reduceIte, Nat.reduceLT, Option.some.injEq, decide_false, hl, i8]
      rfl
    case hx0 => exact fun h => by cases h
    case hq0 => exact ⟨_, _, rfl, g, by simp only [List.length_set, hl], .inl ⟨rfl, hq.symm⟩⟩
  | succ k =>
    have hkk : ((k + 1 : Nat) : Int) - 1 = (k : Int) := by omega
    rw [hkk] at i8
    obtain ⟨x, tm', H', e1, g1, l1, hr⟩ := rf_t43 (ext := ext) g.fresh (h.grown hf g) hn (nm := nm) (tn := tn) (k := k) (by omega) hc hl i0 i1 i2 i8
    rw [lastI_succ] at hq
    rcases hr with ⟨hm, rfl, j6, j7⟩ | ⟨hm, rfl, j0, j1, j2, j8⟩
    · rw [if_pos hm] at hq
      exact .inr ⟨_, _, e1, (fun h => by cases h), tm', H', rfl, g.trans g1, l1, .inr ⟨rfl, k, hq.symm, j6, j7⟩⟩
    · rw [if_neg (by rw [hm]; simp)] at hq
      exact .inl ⟨_, e1, k, Nat.lt_succ_self _, tm', H', rfl, g.trans g1, by omega, hq, l1, j0, j1, j2, j8⟩

set_option maxHeartbeats 4000000 in
set_option maxRecDepth 100000 in
theorem reftarget43 {ext : CallT} (hx : ∀ f args H, f ≠ 22 → ext f args H = none) {H : AHeap} (hf : H.Fresh) {b : Nat} {ρ : Rf} {F : Nat → Prop} (h : RefAt H b ρ F) (hn : ρ.turns.length < 1000000) (nm : ByteArray) (tn : Bool) :
    ∃ H', theCall Try.prog ext 43 [.pointer (some ⟨b, 0, none⟩), .string nm, .bool tn] H = some (.ret (targV ρ.sc nm tn), H') ∧ Grown H H' := by
  obtain ⟨ls, ys, us, h, rfl⟩ := h
  have hb := h.box
  have c3 := fun H2 => h.ou.lenS isl71 H2
  have hw : IntKind.i64.wrap ((ρ.turns.length : Int) - 1) = (ρ.turns.length : Int) - 1 := IntWalk.i64_in _ (by omega)
  refine theCall_goal (F := fun z => ∃ H', z = some (.ret (targV ρ.sc nm tn), H') ∧ Grown H H') (hx _ _ _ (by decide)) Try.func43 (rs := [.tmp 6, .tmp 7]) rfl rfl rfl (by simp) fun tm hl hi => ?_
  replace hl : tm.length = 45 := hl
  have i0 := hi 0
  have i1 := hi 1
  have i2 := hi 2
  simp only [List.getD_cons_zero, List.getD_cons_succ] at i0 i1 i2
  simp (config := { decide := true }) only [theCode_seq, theCode_list, theCode_ret, theCode_block, evalList_plain, evalList_nil, nd_move, nd_assign, nd_load, nd_nilCheck, nd_binOp, nd_fieldAddr, nd_call, ok_tmp, ok_const, cl_int, opA_move, opA_assign, opA_load, opA_nilCheck, opA_fieldAddr, opA_bin, opA_len, contA_val, putT_some, aev_tmp, aev_const, rd_same, rd_ne, List.length_set, valA_some, thenA_normal, loadS_ptr, nilCheckS_ptr, fieldAddrS_eq, bin_sub, List.getElem?_cons_zero, List.getElem?_cons_succ, Option.map_some, Option.isSome_some, ne_eq, Nat.reduceLT, Nat.zero_add, hl, i0, off73_3, agg71, loadV_flat, cell_eq, hb, cellO_box, c3, hw]
  refine loop_use (F := fun z => ∃ H', leaveR Try.prog [.tmp 6, .tmp 7] (thenA (inBlockA 0 z) _) = some (.ret (targV ρ.sc nm tn), H') ∧ Grown H H') (rf_l43 hf h hn (nm := nm) (tn := tn) rfl) ρ.turns.length ⟨_, H, rfl, Grown.refl hf, Nat.le_refl _, rfl, ?_, ?_, ?_, ?_, ?_⟩ ?_
  · simp only [List.length_set, hl]
  · simp (config := { decide := true }) only [rd_ne, ne_eq, i0]
  · simp (config := { decide := true }) only [rd_ne, ne_eq, i1]
  · simp (config := { decide := true }) only [rd_ne, ne_eq, i2]
  · simp (config := { decide := true }) only [rd_same, List.length_set, hl]
  rintro x _ hx' ⟨tm, Hk, rfl, g, hl, ⟨rfl, hq⟩ | ⟨rfl, i, hq, i6, i7⟩⟩
  · have hv : targV ρ.sc nm tn = .tuple #[.int .i64 0, .int .i64 72] := by unfold targV Sc.target; rw [hq]; rfl
    rw [hv]
    refine ⟨Hk, ?_, g⟩
    simp (config := { decide := true }) only [rd_same, rd_ne, List.length_set, thenA_normal, inBlockA_exit, leaveR_ret, resA_tmp, resA_nil, pack_two, Option.map_some, ne_eq, ↓reduceIte, Nat.reduceLT, hl]
  · have hv : targV ρ.sc nm tn = .tuple #[.int .i64 (ρ.turns.getD i noTrn).no, .int .i64 0] := by unfold targV Sc.target; rw [hq]; rfl
    rw [hv]
    refine ⟨Hk, ?_, g⟩
    simp (config := { decide := true }) only [thenA_ret, inBlockA_ret, leaveR_ret, resA_tmp, resA_nil, pack_two, Option.map_some, i6, i7]

end Go.Proofs.Ytnjoaffnfjlcaaa

namespace Go.Proofs.Ytnjoaffnfjlcaaa
open Go Go.Proofs B

theorem lastI_none_of {p : Nat → Bool} : ∀ {n : Nat}, (∀ j, j < n → p j = false) → lastI p n = none
  | 0, _ => rfl
  | n + 1, h => by
    rw [lastI_succ, if_neg (by rw [h n (Nat.lt_succ_self _)]; simp)]
    exact lastI_none_of fun j hj => h j (Nat.lt_succ_of_lt hj)
theorem lastI_some_of {p : Nat → Bool} {n j : Nat} (hj : j < n) (h : p j = true) : (lastI p n).isSome = true := by
  cases hl : lastI p n with
  | some _ => rfl
  | none => rw [lastI_none hl j hj] at h; cases h

theorem build87 {H : AHeap} {nm : ByteArray} {tn : Bool} {n : Nat} : buildS Try.prog H 87 [(0, .string nm), (1, .bool tn), (2, .int .i64 n)] = some (.val (.agg #[.string nm, .bool tn, .int .i64 n]) H) := by
  unfold buildS
  rw [zf87]
  have : Program.built Try.prog 87 [(0, .string nm), (1, .bool tn), (2, .int .i64 n)] = some #[.string nm, .bool tn, .int .i64 n] := by kernel_rfl
  rw [this]
theorem zf85 : zeroOf Try.prog 85 = some (.agg #[.string ⟨#[]⟩, .int .i64 0, .int .i64 0, .int .i64 0]) := by unfold zeroOf; rw [inf85]; rfl
theorem build85 {H : AHeap} {nm : ByteArray} {x y : Nat} {ty : Int} : buildS Try.prog H 85 [(0, .string nm), (1, .int .i64 x), (2, .int .i64 y), (3, .int .i64 ty)] = some (.val (.agg #[.string nm, .int .i64 x, .int .i64 y, .int .i64 ty]) H) := by
  unfold buildS
  rw [zf85]
  have : Program.built Try.prog 85 [(0, .string nm), (1, .int .i64 x), (2, .int .i64 y), (3, .int .i64 ty)] = some #[.string nm, .int .i64 x, .int .i64 y, .int .i64 ty] := by kernel_rfl
  rw [this]
theorem zf87s : (zeroOf Try.prog 87).isSome = true := by rw [zf87]; rfl
theorem zf85s : (zeroOf Try.prog 85).isSome = true := by rw [zf85]; rfl


set_option maxHeartbeats 4000000 in
set_option maxRecDepth 100000 in
theorem rf_l41 {ext : CallT} {H : AHeap} {b : Nat} {ρ : Rf} {ls ys us : Value} (h : RAt H b ρ ls ys us) (hn : ρ.turns.length < 1000000) {nm : ByteArray} {tn : Bool} {c : Code} (hc : (loopsF Try.f41)[0]? = some c) :
    ∀ k s, (fun k s => ∃ tm i, s = ⟨tm, [], H⟩ ∧ i + k = ρ.turns.length ∧ (∀ j, j < i → tTwice (ρ.turns.getD j noTrn) nm = false) ∧ tm.length = 60 ∧ tm.getD 0 undef = .pointer (some ⟨b, 0, none⟩) ∧ tm.getD 1 undef = .string nm ∧ tm.getD 2 undef = .bool tn ∧ tm.getD 8 undef = .int .i64 (i : Nat)) k s →
      ∃ x s', theCode Try.prog ext false (.loop c) s = some (x, s') ∧ x ≠ .normal ∧ (fun x s => ∃ tm, s = ⟨tm, [], H⟩ ∧ tm.length = 60 ∧ ((x = .exit 0 ∧ ρ.sc.twice nm = false ∧ tm.getD 0 undef = .pointer (some ⟨b, 0, none⟩) ∧ tm.getD 1 undef = .string nm ∧ tm.getD 2 undef = .bool tn) ∨ (x = .ret ∧ ρ.sc.twice nm = true ∧ tm.getD 6 undef = .int .i64 0 ∧ tm.getD 7 undef = .int .i64 70))) x s' := by
  refine theCode_loop_inv _ _ ?_
  rintro k _ ⟨tm, i, rfl, hik, hq, hl, i0, i1, i2, i8⟩
  have h0 : (loopsF Try.f41)[0]? = some _ := rfl
  rw [h0] at hc
  obtain rfl := Option.some.inj hc
  clear hc h0
  have hb := h.box
  have c3 := fun H2 => h.ou.lenS isl71 H2
  cases k with
  | zero =>
    right
    have hlt : ¬ ((i : Int) < (ρ.turns.length : Int)) := by omega
    refine ⟨?x0, ?s0, ?h0, ?hx0, ?hq0⟩
    case h0 =>
      simp (config := { decide := true }) only [theCode_seq, theCode_list, theCode_exit, theCode_if, evalList_plain, evalList_nil, nd_move, nd_load, nd_nilCheck, nd_binOp, nd_fieldAddr, nd_call, ok_tmp, opA_move, opA_load, opA_nilCheck, opA_fieldAddr, opA_bin, opA_len, contA_val, putT_some, aev_tmp, rd_same, rd_ne, List.length_set, valA_some, thenA_normal, thenA_exit, boolOf_bool, loadS_ptr, nilCheckS_ptr, fieldAddrS_eq, bin_lss, List.getElem?_cons_zero, List.getElem?_cons_succ, Option.map_some, Option.isSome_some, ne_eq, ↓reduceIte, Nat.reduceLT, Nat.zero_add, Option.some.injEq, decide_false, hl, i0, i8, off73_3, agg71, loadV_flat, cell_eq, hb, cellO_box, c3, hlt]
      rfl
    case hx0 => exact fun h => by cases h
    case hq0 =>
      refine ⟨_, rfl, by simp only [List.length_set, hl], .inl ⟨rfl, ?_, ?_, ?_, ?_⟩⟩
      · unfold Sc.twice
        rw [show ρ.sc.turns = ρ.turns from rfl, lastI_none_of fun j hj => hq j (by omega)]; rfl
      all_goals simp (config := { decide := true }) only [rd_ne, ne_eq, i0, i1, i2]
  | succ k =>
    have hlt : (i : Int) < (ρ.turns.length : Int) := by omega
    have hix := fun H2 => indexAddrS_own (P := Try.prog) (t := 71) (j := (i : Int)) (k := .i64) h.ou (by omega) (by omega) es71 H2
    simp only [Int.toNat_natCast] at hix
    have hc0 := h.cellT (i := i) (k := 0) (by omega) (by decide)
    simp only [trnC, List.getElem?_cons_zero] at hc0
    have hw : IntKind.i64.wrap ((i : Int) + 1) = ((i + 1 : Nat) : Int) := by rw [IntWalk.i64_in _ (by omega)]; omega
    obtain ⟨q1, hq1⟩ : ∃ q, decide (nm = ⟨#[]⟩) = q := ⟨_, rfl⟩
    obtain ⟨q2, hq2⟩ : ∃ q, decide ((ρ.turns.getD i noTrn).label = nm) = q := ⟨_, rfl⟩
    have hT : tTwice (ρ.turns.getD i noTrn) nm = (!q1 && q2) := by unfold tTwice; rw [hq1, hq2]
    have nxt : (!q1 && q2) = false → ∀ j, j < i + 1 → tTwice (ρ.turns.getD j noTrn) nm = false := by
      intro h1 j hj
      rcases Nat.lt_or_ge j i with h2 | h2
      · exact hq j h2
      · obtain rfl : j = i := by omega
        rw [hT]; exact h1

    cases q1 with
    | false =>
     cases q2 with
     | false =>
      left
      refine ⟨?sff, ?hff, k, Nat.lt_succ_self _, ?qff⟩
      case hff =>
        simp (config := { decide := true }) only [fieldAddrS_plus, theCode_seq, theCode_list, theCode_skip, theCode_block, theCode_if, evalList_plain, evalList_guard, evalList_nil, nd_move, nd_assign, nd_pick, nd_load, nd_nilCheck, nd_binOp, nd_fieldAddr, nd_indexAddr, nd_call, ok_tmp, ok_const, cl_int, cl_bool, cl_string, opA_move, opA_assign, opA_pick, opA_load, opA_nilCheck, opA_fieldAddr, opA_bin, opA_len, opA_indexAddr, contA_val, putT_some, aev_tmp, aev_const, rd_same, rd_ne, List.length_set, valA_some, thenA_normal, inBlockA_normal, boolOf_bool, loadS_ptr, nilCheckS_ptr, bin_lss, bin_add, bin_seql, bin_sneq, yieldA_S, slotAt_succ, slotAt_zero, yieldS_some, List.getElem?_cons_zero, List.getElem?_cons_succ, Option.map_some, Option.isSome_some, ne_eq, ↓reduceIte, Nat.reduceLT, Nat.zero_add, Option.some.injEq, decide_true, hl, i0, i1, i8, hlt, addA_mk, off73_3, agg71, agg9, loadV_flat, cell_eq, hb, cellO_box, c3, hix, sli71, off87_0, hc0, hq1, hq2, Bool.not_false, hw]
        rfl
      case qff =>
        refine ⟨_, i + 1, rfl, by omega, nxt rfl, ?_, ?_, ?_, ?_, ?_⟩
        · simp only [List.length_set, hl]
        all_goals simp (config := { decide := true }) only [rd_ne, rd_same, List.length_set, hl, ne_eq, i0, i1, i2]

     | true =>
      right
      refine ⟨?xft, ?sft, ?hft, ?hxft, ?hqft⟩
      case hft =>
        simp (config := { decide := true }) only [fieldAddrS_plus, theCode_seq, theCode_list, theCode_skip, theCode_ret, theCode_block, theCode_if, evalList_plain, evalList_guard, evalList_nil, nd_move, nd_assign, nd_pick, nd_load, nd_nilCheck, nd_binOp, nd_fieldAddr, nd_indexAddr, nd_call, ok_tmp, ok_const, cl_int, cl_bool, cl_string, opA_move, opA_assign, opA_pick, opA_load, opA_nilCheck, opA_fieldAddr, opA_bin, opA_len, opA_indexAddr, contA_val, putT_some, aev_tmp, aev_const, rd_same, rd_ne, List.length_set, valA_some, thenA_normal, thenA_ret, inBlockA_ret, boolOf_bool, loadS_ptr, nilCheckS_ptr, bin_lss, bin_seql, bin_sneq, yieldA_S, slotAt_succ, slotAt_zero, yieldS_some, List.getElem?_cons_zero, List.getElem?_cons_succ, Option.map_some, Option.isSome_some, ne_eq, ↓reduceIte, Nat.reduceLT, Nat.zero_add, Option.some.injEq, decide_true, hl, i0, i1, i8, hlt, addA_mk, off73_3, agg71, agg9, loadV_flat, cell_eq, hb, cellO_box, c3, hix, sli71, off87_0, hc0, hq1, hq2, Bool.not_false]
        rfl
      case hxft => exact fun h => by cases h
      case hqft =>
        refine ⟨_, rfl, by simp only [List.length_set, hl], .inr ⟨rfl, ?_, ?_, ?_⟩⟩
        · exact lastI_some_of (p := fun j => tTwice (ρ.sc.turns.getD j noTrn) nm) (n := ρ.sc.turns.length) (j := i) (by show i < ρ.turns.length; omega) hT
        all_goals simp (config := { decide := true }) only [rd_ne, rd_same, List.length_set, hl, ne_eq]

    | true =>
     cases q2 with
     | false =>
      left
      refine ⟨?stf, ?htf, k, Nat.lt_succ_self _, ?qtf⟩
      case htf =>
        simp (config := { decide := true }) only [fieldAddrS_plus, theCode_seq, theCode_list, theCode_skip, theCode_block, theCode_if, evalList_plain, evalList_guard, evalList_nil, nd_move, nd_assign, nd_pick, nd_load, nd_nilCheck, nd_binOp, nd_fieldAddr, nd_indexAddr, nd_call, ok_tmp, ok_const, cl_int, cl_bool, cl_string, opA_move, opA_assign, opA_pick, opA_load, opA_nilCheck, opA_fieldAddr, opA_bin, opA_len, contA_val, putT_some, aev_tmp, aev_const, rd_same, rd_ne, List.length_set, valA_some, thenA_normal, inBlockA_normal, boolOf_bool, loadS_ptr, nilCheckS_ptr, bin_lss, bin_add, bin_sneq, yieldA_S, slotAt_succ, slotAt_zero, yieldS_some, List.getElem?_cons_zero, List.getElem?_cons_succ, Option.map_some, Option.isSome_some, ne_eq, ↓reduceIte, Nat.reduceLT, Nat.zero_add, Option.some.injEq, decide_true, hl, i0, i1, i8, hlt, addA_mk, off73_3, agg71, loadV_flat, cell_eq, hb, cellO_box, c3, hq1, Bool.not_true, hw]
        rfl
      case qtf =>
        refine ⟨_, i + 1, rfl, by omega, nxt rfl, ?_, ?_, ?_, ?_, ?_⟩
        · simp only [List.length_set, hl]
        all_goals simp (config := { decide := true }) only [rd_ne, rd_same, List.length_set, hl, ne_eq, i0, i1, i2]

     | true =>
      left
      refine ⟨?stt, ?htt, k, Nat.lt_succ_self _, ?qtt⟩
      case htt =>
        simp (config := { decide := true }) only [fieldAddrS_plus, theCode_seq, theCode_list, theCode_skip, theCode_block, theCode_if, evalList_plain, evalList_guard, evalList_nil, nd_move, nd_assign, nd_pick, nd_load, nd_nilCheck, nd_binOp, nd_fieldAddr, nd_indexAddr, nd_call, ok_tmp, ok_const, cl_int, cl_bool, cl_string, opA_move, opA_assign, opA_pick, opA_load, opA_nilCheck, opA_fieldAddr, opA_bin, opA_len, contA_val, putT_some, aev_tmp, aev_const, rd_same, rd_ne, List.length_set, valA_some, thenA_normal, inBlockA_normal, boolOf_bool, loadS_ptr, nilCheckS_ptr, bin_lss, bin_add, bin_sneq, yieldA_S, slotAt_succ, slotAt_zero, yieldS_some, List.getElem?_cons_zero, List.getElem?_cons_succ, Option.map_some, Option.isSome_some, ne_eq, ↓reduceIte, Nat.reduceLT, Nat.zero_add, Option.some.injEq, decide_true, hl, i0, i1, i8, hlt, addA_mk, off73_3, agg71, loadV_flat, cell_eq, hb, cellO_box, c3, hq1, Bool.not_true, hw]
        rfl
      case qtt =>
        refine ⟨_, i + 1, rfl, by omega, nxt rfl, ?_, ?_, ?_, ?_, ?_⟩
        · simp only [List.length_set, hl]
        all_goals simp (config := { decide := true }) only [rd_ne, rd_same, List.length_set, hl, ne_eq, i0, i1, i2]


/-- A turn more. -/
theorem RAt.pushT {H : AHeap} (hf : H.Fresh) {b : Nat} {ρ : Rf} {ls ys us us' : Value} (h : RAt H b ρ ls ys us) {Ha : AHeap} {t : Trn} (h2 : Own Ha 87 3 us' (ρ.turns.length + 1) (ρ.turns.flatMap trnC ++ trnC t)) (hu : Upd H (sliceFoot us) Ha (sliceFoot us')) (n : Nat) :
    RAt (Ha.set b (.box [.int .i64 ρ.blocks, ls, ys, us', .int .i64 n] 73)) b { ρ with turns := ρ.turns ++ [t], next := n } ls ys us' ∧ Upd H (RFoot b ls ys us) (Ha.set b (.box [.int .i64 ρ.blocks, ls, ys, us', .int .i64 n] 73)) (RFoot b ls ys us') := by
  have hbl : b < H.next := get_lt hf h.box
  have hnb : ¬ sliceFoot us b := h.ou.id_ne h.box
  have hb2 : Ha.get b = some (.box [.int .i64 ρ.blocks, ls, ys, us, .int .i64 ρ.next] 73) := by rw [hu.frame b hnb hbl]; exact h.box
  have hnb' : idOf us' ≠ some b := h2.id_ne hb2
  refine ⟨?_, ?_⟩
  · refine h.rep 87 (fun j hj hjb hk => ?_) get_set_same (.inr ⟨by decide, rfl, rfl⟩) (.inr ⟨by decide, rfl, rfl⟩) (.inl ?_)
    · rw [get_set_ne hjb]
      exact hu.frame j (fun e => hk (h.ou.kind e)) (h.lt hf hj)
    · have := h2.mono (H2 := Ha.set b (.box [.int .i64 ρ.blocks, ls, ys, us', .int .i64 n] 73)) fun i hi => get_set_ne (by rintro rfl; exact hnb' hi)
      simpa [List.flatMap_append] using this
  · refine ⟨fun j hj hlt => ?_, fun j hj => ?_, (AHeap.le_set hb2).fresh hu.fresh, hu.next⟩
    · rw [get_set_ne (fun e => hj (.inl e))]
      exact hu.frame j (fun e => hj (.inr (.inr (.inr e)))) hlt
    · rcases hj with e | e | e | e
      · exact .inl (.inl e)
      · exact .inl (.inr (.inl e))
      · exact .inl (.inr (.inr (.inl e)))
      · exact (hu.foot j e).imp (fun e => .inr (.inr (.inr e))) id

set_option maxHeartbeats 4000000 in
set_option maxRecDepth 100000 in
theorem refenter41 {ext : CallT} (hx : ∀ f args H, f ≠ 22 → ext f args H = none) {H : AHeap} (hf : H.Fresh) {b : Nat} {ρ : Rf} {F : Nat → Prop} (h : RefAt H b ρ F) (hn : ρ.turns.length < 1000000) (hn2 : ρ.next < 1000000) (nm : ByteArray) (tn : Bool) :
    ∃ H' F', theCall Try.prog ext 41 [.pointer (some ⟨b, 0, none⟩), .string nm, .bool tn] H = some (.ret (entV2 ρ.sc nm), H') ∧ RefAt H' b (ρ.enter nm tn) F' ∧ Upd H F H' F' := by
  obtain ⟨ls, ys, us, h, rfl⟩ := h
  have hb := h.box
  refine theCall_goal (F := fun z => ∃ H' F', z = some (.ret (entV2 ρ.sc nm), H') ∧ RefAt H' b (ρ.enter nm tn) F' ∧ Upd H (RFoot b ls ys us) H' F') (hx _ _ _ (by decide)) Try.func41 (rs := [.tmp 6, .tmp 7]) rfl rfl rfl (by simp) fun tm hl hi => ?_
  replace hl : tm.length = 60 := hl
  have i0 := hi 0
  have i1 := hi 1
  have i2 := hi 2
  simp only [List.getD_cons_zero, List.getD_cons_succ] at i0 i1 i2
  simp (config := { decide := true }) only [theCode_seq, theCode_list, theCode_ret, theCode_block, evalList_plain, evalList_nil, nd_move, nd_assign, nd_nilCheck, ok_tmp, ok_const, cl_int, opA_move, opA_assign, opA_nilCheck, contA_val, putT_some, aev_tmp, aev_const, thenA_normal]
  refine loop_use (F := fun z => ∃ H' F', leaveR Try.prog [.tmp 6, .tmp 7] (thenA (inBlockA 0 z) _) = some (.ret (entV2 ρ.sc nm), H') ∧ RefAt H' b (ρ.enter nm tn) F' ∧ Upd H (RFoot b ls ys us) H' F') (rf_l41 h hn (nm := nm) (tn := tn) rfl) ρ.turns.length ⟨_, 0, rfl, Nat.zero_add _, fun j hj => absurd hj (Nat.not_lt_zero _), ?_, ?_, ?_, ?_, ?_⟩ ?_
  · simp only [List.length_set, hl]
  · simp (config := { decide := true }) only [rd_ne, ne_eq, i0]
  · simp (config := { decide := true }) only [rd_ne, ne_eq, i1]
  · simp (config := { decide := true }) only [rd_ne, ne_eq, i2]
  · simp (config := { decide := true }) only [rd_same, List.length_set, hl]
    rfl
  rintro x _ hx' ⟨tm, rfl, hl, ⟨rfl, hq, i0, i1, i2⟩ | ⟨rfl, hq, i6, i7⟩⟩
  · have hv : entV2 ρ.sc nm = .tuple #[.int .i64 ρ.next, .int .i64 0] := by unfold entV2; rw [hq]; rfl
    have hE : ρ.enter nm tn = { ρ with turns := ρ.turns ++ [⟨nm, tn, ρ.next⟩], next := ρ.next + 1 } := by unfold Rf.enter; rw [hq]; rfl
    rw [hv, hE]
    obtain ⟨us', Ha, h1, h2, hu⟩ := h.ou.append1U (xs := [.string nm, .bool tn, .int .i64 ρ.next]) (i := Try.t87) (z := .agg #[.string ⟨#[]⟩, .bool false, .int .i64 0]) hf rfl (by decide) rfl rfl rfl rfl (by omega) (by show (ρ.turns.length + 1) * 32 ≤ 140737488355328; omega)
    simp only [List.length_cons, List.length_nil, Nat.zero_add, Nat.reduceAdd] at h1
    have hbl : b < H.next := get_lt hf hb
    have hnb : ¬ sliceFoot us b := h.ou.id_ne hb
    have hb2 : Ha.get b = some (.box [.int .i64 ρ.blocks, ls, ys, us, .int .i64 ρ.next] 73) := by rw [hu.frame b hnb hbl]; exact hb
    have c1 := h2.vcells
    have c2 := h2.flat
    have hw : IntKind.i64.wrap ((ρ.next : Int) + 1) = ((ρ.next + 1 : Nat) : Int) := by rw [IntWalk.i64_in _ (by omega)]; omega
    have hw2 : IntKind.i64.wrap (((ρ.next + 1 : Nat) : Int) - 1) = (ρ.next : Int) := by rw [IntWalk.i64_in _ (by omega)]; omega
    obtain ⟨r1, r2⟩ := h.pushT hf (t := ⟨nm, tn, ρ.next⟩) h2 hu (ρ.next + 1)
    refine ⟨Ha.set b (.box [.int .i64 ρ.blocks, ls, ys, us', .int .i64 (ρ.next + 1 : Nat)] 73), _, ?_, ⟨ls, ys, us', r1, rfl⟩, r2⟩
    simp (config := { decide := true }) only [thenA_normal, inBlockA_exit, ↓reduceIte]
    rw [theCode_text (by kernel_rfl)]
    simp (config := { decide := true }) only [evalList_plain, evalList_nil, nd_move, nd_assign, nd_build, nd_buildSlice, nd_load, nd_store, nd_nilCheck, nd_binOp, nd_fieldAddr, nd_call, ok_tmp, ok_const, cl_int, opA_move, opA_assign, opA_load, opA_store, opA_nilCheck, opA_fieldAddr, opA_bin, opA_appendS, opA_build, contA_val, contA_skip, putT_some, putT_none, aev_tmp, aev_const, rd_same, rd_ne, List.length_set, valA_some, skipA_some, pairA_some,
    thenA_normal, loadS_ptr, storeS_ptr, nilCheckS_ptr, fieldAddrS_eq, bin_add, bin_sub, leaveR_ret, resA_tmp, resA_nil, List.getElem?_cons_zero, List.getElem?_cons_succ, pack_two, Option.map_some, Option.isSome_some, ne_eq, Nat.reduceLT, Nat.reduceAdd, Nat.zero_add, List.map_cons, List.map_nil, List.all_cons, List.all_nil, Bool.and_true, dropP_normal, hl, i0, i1, i2, off73_3, off73_4, agg71, agg3, info71, cells71, info3, cells3, vc_int, fl_int, loadV_flat, storeV_flat, setCell_eq, setCellO_box, cell_eq, hb, hb2, cellO_box, build87, zf87s, opA_build1F, b1_71, es71, vc_agg, fl_string, fl_bool, appendS_of sli71, build1S_of sli71, h1, sli71, c1, c2, hw, hw2, get_set_same, B.set_set, Option.getD_none, List.set_cons_zero, List.set_cons_succ, List.length_cons, List.length_nil, List.size_toArray]
  · have hv : entV2 ρ.sc nm = .tuple #[.int .i64 0, .int .i64 70] := by unfold entV2; rw [hq]; rfl
    have hE : ρ.enter nm tn = ρ := by unfold Rf.enter; rw [hq]; rfl
    rw [hv, hE]
    refine ⟨H, _, ?_, ⟨ls, ys, us, h, rfl⟩, (Grown.refl hf).upd _⟩
    simp (config := { decide := true }) only [thenA_ret, inBlockA_ret, leaveR_ret, resA_tmp, resA_nil, pack_two, Option.map_some, i6, i7]

end Go.Proofs.Ytnjoaffnfjlcaaa

namespace Go.Proofs.Ytnjoaffnfjlcaaa
open Go Go.Proofs B

theorem natInt {a b : Nat} : decide ((a : Int) = (b : Int)) = decide (a = b) := by
  by_cases h : a = b
  · subst h; simp
  · have : ¬ ((a : Int) = (b : Int)) := by omega
    simp [h, this]


set_option maxHeartbeats 4000000 in
set_option maxRecDepth 100000 in
theorem rf_l39 {ext : CallT} {H : AHeap} {b : Nat} {ρ : Rf} {ls ys us : Value} (h : RAt H b ρ ls ys us) (hn : ρ.locals.length < 1000000) {nm : ByteArray} {ty : Int} {c : Code} (hc : (loopsF Try.f39)[0]? = some c) :
    ∀ k s, (fun k s => ∃ tm i, s = ⟨tm, [], H⟩ ∧ i + k = ρ.locals.length ∧ (∀ j, j < i → ρ.hasAt nm j = false) ∧ tm.length = 79 ∧ tm.getD 0 undef = .pointer (some ⟨b, 0, none⟩) ∧ tm.getD 1 undef = .string nm ∧ tm.getD 2 undef = .int .i64 ty ∧ tm.getD 8 undef = .int .i64 (i : Nat)) k s →
      ∃ x s', theCode Try.prog ext false (.loop c) s = some (x, s') ∧ x ≠ .normal ∧ (fun x s => ∃ tm, s = ⟨tm, [], H⟩ ∧ tm.length = 79 ∧ ((x = .exit 0 ∧ ρ.has nm = false ∧ tm.getD 0 undef = .pointer (some ⟨b, 0, none⟩) ∧ tm.getD 1 undef = .string nm ∧ tm.getD 2 undef = .int .i64 ty) ∨ (x = .ret ∧ ρ.has nm = true ∧ tm.getD 6 undef = .int .i64 0 ∧ tm.getD 7 undef = .int .i64 70))) x s' := by
  refine theCode_loop_inv _ _ ?_
  rintro k _ ⟨tm, i, rfl, hik, hq, hl, i0, i1, i2, i8⟩
  have h0 : (loopsF Try.f39)[0]? = some _ := rfl
  rw [h0] at hc
  obtain rfl := Option.some.inj hc
  clear hc h0
  have hb := h.box
  have c3 := fun H2 => h.ol.lenS isl70 H2
  cases k with
  | zero =>
    right
    have hlt : ¬ ((i : Int) < (ρ.locals.length : Int)) := by omega
    refine ⟨?x0, ?s0, ?h0, ?hx0, ?hq0⟩
    case h0 =>
      simp (config := { decide := true }) only [theCode_seq, theCode_list, theCode_exit, theCode_if, evalList_plain, evalList_nil, nd_move, nd_load, nd_nilCheck, nd_binOp, nd_fieldAddr, nd_call, ok_tmp, opA_move, opA_load, opA_nilCheck, opA_fieldAddr, opA_bin, opA_len, contA_val, putT_some, aev_tmp, rd_same, rd_ne, List.length_set, valA_some, thenA_normal, thenA_exit, boolOf_bool, loadS_ptr, nilCheckS_ptr, fieldAddrS_eq, bin_lss, List.getElem?_cons_zero, List.getElem?_cons_succ, Option.map_some, Option.isSome_some, ne_eq, ↓reduceIte, Nat.reduceLT, Nat.zero_add, Option.some.injEq, decide_false, hl, i0, i8, off73_1, agg70, loadV_flat, cell_eq, hb, cellO_box, c3, hlt]
      rfl
    case hx0 => exact fun h => by cases h
    case hq0 =>
      refine ⟨_, rfl, by simp only [List.length_set, hl], .inl ⟨rfl, ?_, ?_, ?_, ?_⟩⟩
      · unfold Rf.has
        rw [lastI_none_of fun j hj => hq j (by omega)]; rfl
      all_goals simp (config := { decide := true }) only [rd_ne, ne_eq, i0, i1, i2]
  | succ k =>
    have hlt : (i : Int) < (ρ.locals.length : Int) := by omega
    have hix := fun H2 => indexAddrS_own (P := Try.prog) (t := 70) (j := (i : Int)) (k := .i64) h.ol (by omega) (by omega) es70 H2
    simp only [Int.toNat_natCast] at hix
    have hc0 := h.cellL (i := i) (k := 0) (by omega) (by decide)
    have hc1 := h.cellL (i := i) (k := 1) (by omega) (by decide)
    simp only [locC, List.getElem?_cons_zero, List.getElem?_cons_succ] at hc0 hc1
    have hw : IntKind.i64.wrap ((i : Int) + 1) = ((i + 1 : Nat) : Int) := by rw [IntWalk.i64_in _ (by omega)]; omega
    obtain ⟨q1, hq1⟩ : ∃ q, decide (((ρ.locals.getD i noLoc).block : Int) = (ρ.blocks : Int)) = q := ⟨_, rfl⟩
    obtain ⟨q2, hq2⟩ : ∃ q, decide ((ρ.locals.getD i noLoc).name = nm) = q := ⟨_, rfl⟩
    have hT : ρ.hasAt nm i = (q1 && q2) := by unfold Rf.hasAt; rw [← natInt, hq1, hq2]
    have nxt : (q1 && q2) = false → ∀ j, j < i + 1 → ρ.hasAt nm j = false := by
      intro h1 j hj
      rcases Nat.lt_or_ge j i with h2 | h2
      · exact hq j h2
      · obtain rfl : j = i := by omega
        rw [hT]; exact h1
    cases q1 with

    | false =>
     cases q2 with
     | false =>
      left
      refine ⟨?sff, ?hff, k, Nat.lt_succ_self _, ?qff⟩
      case hff =>
        simp (config := { decide := true }) only [fieldAddrS_plus, theCode_seq, theCode_list, theCode_skip, theCode_block, theCode_if, evalList_plain, evalList_nil, nd_move, nd_load, nd_nilCheck, nd_binOp, nd_fieldAddr, nd_call, ok_tmp, ok_const, cl_int, opA_move, opA_load, opA_nilCheck, opA_fieldAddr, opA_bin, opA_len, contA_val, putT_some, aev_tmp, aev_const, rd_same, rd_ne, List.length_set, valA_some, thenA_normal, boolOf_bool, loadS_ptr, nilCheckS_ptr, bin_lss, List.getElem?_cons_zero, List.getElem?_cons_succ, Option.map_some, Option.isSome_some, ne_eq, ↓reduceIte, Nat.reduceLT, Nat.zero_add, decide_true, hl, i0, i8, hlt, addA_mk, off73_1, agg70, loadV_flat, cell_eq, hb, cellO_box, c3]
        rw [theCode_text (by kernel_rfl)]
        simp (config := { decide := true }) only [fieldAddrS_plus, theCode_skip, theCode_if, evalList_plain, evalList_guard, evalList_nil, nd_move, nd_assign, nd_pick, nd_load, nd_nilCheck, nd_binOp, nd_fieldAddr, nd_indexAddr, ok_tmp, ok_const, cl_bool, opA_move, opA_assign, opA_pick, opA_load, opA_nilCheck, opA_fieldAddr, opA_bin, opA_indexAddr, contA_val, putT_some, aev_tmp, aev_const, rd_same, rd_ne, List.length_set, valA_some, thenA_normal, inBlockA_normal, boolOf_bool, loadS_ptr, nilCheckS_ptr, bin_eql, bin_add, yieldA_S, slotAt_succ, slotAt_zero, yieldS_some, List.getElem?_cons_zero, List.getElem?_cons_succ, Option.map_some, Option.isSome_some, ne_eq, ↓reduceIte, Nat.reduceLT, Nat.zero_add, Option.some.injEq, dropP_normal, hl, i0, i8, addA_mk, off73_0, off73_1, agg70, agg3, loadV_flat, cell_eq, hb, cellO_box, hix, sli70, off85_1, hc1, hq1, hw]
        rfl
      case qff =>
        refine ⟨_, i + 1, rfl, by omega, nxt rfl, ?_, ?_, ?_, ?_, ?_⟩
        · simp only [List.length_set, hl]
        all_goals simp (config := { decide := true }) only [rd_ne, rd_same, List.length_set, hl, ne_eq, i0, i1, i2]

     | true =>
      left
      refine ⟨?sft, ?hft, k, Nat.lt_succ_self _, ?qft⟩
      case hft =>
        simp (config := { decide := true }) only [fieldAddrS_plus, theCode_seq, theCode_list, theCode_skip, theCode_block, theCode_if, evalList_plain, evalList_nil, nd_move, nd_load, nd_nilCheck, nd_binOp, nd_fieldAddr, nd_call, ok_tmp, ok_const, cl_int, opA_move, opA_load, opA_nilCheck, opA_fieldAddr, opA_bin, opA_len, contA_val, putT_some, aev_tmp, aev_const, rd_same, rd_ne, List.length_set, valA_some, thenA_normal, boolOf_bool, loadS_ptr, nilCheckS_ptr, bin_lss, List.getElem?_cons_zero, List.getElem?_cons_succ, Option.map_some, Option.isSome_some, ne_eq, ↓reduceIte, Nat.reduceLT, Nat.zero_add, decide_true, hl, i0, i8, hlt, addA_mk, off73_1, agg70, loadV_flat, cell_eq, hb, cellO_box, c3]
        rw [theCode_text (by kernel_rfl)]
        simp (config := { decide := true }) only [fieldAddrS_plus, theCode_skip, theCode_if, evalList_plain, evalList_guard, evalList_nil, nd_move, nd_assign, nd_pick, nd_load, nd_nilCheck, nd_binOp, nd_fieldAddr, nd_indexAddr, ok_tmp, ok_const, cl_bool, opA_move, opA_assign, opA_pick, opA_load, opA_nilCheck, opA_fieldAddr, opA_bin, opA_indexAddr, contA_val, putT_some, aev_tmp, aev_const, rd_same, rd_ne, List.length_set, valA_some, thenA_normal, inBlockA_normal, boolOf_bool, loadS_ptr, nilCheckS_ptr, bin_eql, bin_add, yieldA_S, slotAt_succ, slotAt_zero, yieldS_some, List.getElem?_cons_zero, List.getElem?_cons_succ, Option.map_some, Option.isSome_some, ne_eq, ↓reduceIte, Nat.reduceLT, Nat.zero_add, Option.some.injEq, dropP_normal, hl, i0, i8, addA_mk, off73_0, off73_1, agg70, agg3, loadV_flat, cell_eq, hb, cellO_box, hix, sli70, off85_1, hc1, hq1, hw]
        rfl
      case qft =>
        refine ⟨_, i + 1, rfl, by omega, nxt rfl, ?_, ?_, ?_, ?_, ?_⟩
        · simp only [List.length_set, hl]
        all_goals simp (config := { decide := true }) only [rd_ne, rd_same, List.length_set, hl, ne_eq, i0, i1, i2]

    | true =>
     cases q2 with
     | false =>
      left
      refine ⟨?stf, ?htf, k, Nat.lt_succ_self _, ?qtf⟩
      case htf =>
        simp (config := { decide := true }) only [fieldAddrS_plus, theCode_seq, theCode_list, theCode_skip, theCode_block, theCode_if, evalList_plain, evalList_nil, nd_move, nd_load, nd_nilCheck, nd_binOp, nd_fieldAddr, nd_call, ok_tmp, ok_const, cl_int, opA_move, opA_load, opA_nilCheck, opA_fieldAddr, opA_bin, opA_len, contA_val, putT_some, aev_tmp, aev_const, rd_same, rd_ne, List.length_set, valA_some, thenA_normal, boolOf_bool, loadS_ptr, nilCheckS_ptr, bin_lss, List.getElem?_cons_zero, List.getElem?_cons_succ, Option.map_some, Option.isSome_some, ne_eq, ↓reduceIte, Nat.reduceLT, Nat.zero_add, decide_true, hl, i0, i8, hlt, addA_mk, off73_1, agg70, loadV_flat, cell_eq, hb, cellO_box, c3]
        rw [theCode_text (by kernel_rfl)]
        simp (config := { decide := true }) only [fieldAddrS_plus, theCode_skip, theCode_if, evalList_plain, evalList_guard, evalList_nil, nd_move, nd_assign, nd_pick, nd_load, nd_nilCheck, nd_binOp, nd_fieldAddr, nd_indexAddr, ok_tmp, ok_const, cl_bool, opA_move, opA_assign, opA_pick, opA_load, opA_nilCheck, opA_fieldAddr, opA_bin, opA_indexAddr, contA_val, putT_some, aev_tmp, rd_same, rd_ne, List.length_set, valA_some, thenA_normal, inBlockA_normal, boolOf_bool, loadS_ptr, nilCheckS_ptr, bin_eql, bin_add, bin_seql, yieldA_S, slotAt_succ, slotAt_zero, yieldS_some, List.getElem?_cons_zero, List.getElem?_cons_succ, Option.map_some, Option.isSome_some, ne_eq, ↓reduceIte, Nat.reduceLT, Nat.zero_add, Option.some.injEq, dropP_normal, hl, i0, i1, i8, addA_mk, off73_0, off73_1, agg70, agg3, agg9, loadV_flat, cell_eq, hb, cellO_box, hix, sli70, off85_0, off85_1, hc0, hc1, hq1, hq2, hw]
        rfl
      case qtf =>
        refine ⟨_, i + 1, rfl, by omega, nxt rfl, ?_, ?_, ?_, ?_, ?_⟩
        · simp only [List.length_set, hl]
        all_goals simp (config := { decide := true }) only [rd_ne, rd_same, List.length_set, hl, ne_eq, i0, i1, i2]

     | true =>
      right
      refine ⟨?xtt, ?stt, ?htt, ?hxtt, ?hqtt⟩
      case htt =>
        simp (config := { decide := true }) only [fieldAddrS_plus, theCode_seq, theCode_list, theCode_skip, theCode_block, theCode_if, evalList_plain, evalList_nil, nd_move, nd_load, nd_nilCheck, nd_binOp, nd_fieldAddr, nd_call, ok_tmp, ok_const, cl_int, opA_move, opA_load, opA_nilCheck, opA_fieldAddr, opA_bin, opA_len, contA_val, putT_some, aev_tmp, aev_const, rd_same, rd_ne, List.length_set, valA_some, thenA_normal, boolOf_bool, loadS_ptr, nilCheckS_ptr, bin_lss, List.getElem?_cons_zero, List.getElem?_cons_succ, Option.map_some, Option.isSome_some, ne_eq, ↓reduceIte, Nat.reduceLT, Nat.zero_add, decide_true, hl, i0, i8, hlt, addA_mk, off73_1, agg70, loadV_flat, cell_eq, hb, cellO_box, c3]
        rw [theCode_text (by kernel_rfl)]
        simp (config := { decide := true }) only [fieldAddrS_plus, theCode_seq, theCode_list, theCode_ret, theCode_if, evalList_plain, evalList_guard, evalList_nil, nd_move, nd_assign, nd_pick, nd_load, nd_nilCheck, nd_binOp, nd_fieldAddr, nd_indexAddr, ok_tmp, ok_const, cl_int, cl_bool, opA_move, opA_assign, opA_pick, opA_load, opA_nilCheck, opA_fieldAddr, opA_bin, opA_indexAddr, contA_val, putT_some, aev_tmp, aev_const, rd_same, rd_ne, List.length_set, valA_some, thenA_normal, thenA_ret, inBlockA_ret, boolOf_bool, loadS_ptr, nilCheckS_ptr, bin_eql, bin_seql, yieldA_S, slotAt_succ, slotAt_zero, yieldS_some, List.getElem?_cons_zero, List.getElem?_cons_succ, Option.map_some, Option.isSome_some, ne_eq, ↓reduceIte, Nat.reduceLT, Nat.zero_add, Option.some.injEq, dropP_normal, hl, i0, i1, i8, addA_mk, off73_0, off73_1, agg70, agg3, agg9, loadV_flat, cell_eq, hb, cellO_box, hix, sli70, off85_0, off85_1, hc0, hc1, hq1, hq2]
        rfl
      case hxtt => exact fun h => by cases h
      case hqtt =>
        refine ⟨_, rfl, by simp only [List.length_set, hl], .inr ⟨rfl, ?_, ?_, ?_⟩⟩
        · exact lastI_some_of (p := fun j => ρ.hasAt nm j) (n := ρ.locals.length) (j := i) (by omega) hT
        all_goals simp (config := { decide := true }) only [rd_ne, rd_same, List.length_set, hl, ne_eq]


/-- A type more. -/
theorem RAt.pushY {H : AHeap} (hf : H.Fresh) {b : Nat} {ρ : Rf} {ls ys us ys' : Value} (h : RAt H b ρ ls ys us) {Ha : AHeap} {t : Int} (h2 : Own Ha 3 1 ys' (ρ.types.length + 1) (ρ.types.map tyC ++ [tyC t])) (hu : Upd H (sliceFoot ys) Ha (sliceFoot ys')) :
    RAt (Ha.set b (.box [.int .i64 ρ.blocks, ls, ys', us, .int .i64 ρ.next] 73)) b { ρ with types := ρ.types ++ [t] } ls ys' us ∧ Upd H (RFoot b ls ys us) (Ha.set b (.box [.int .i64 ρ.blocks, ls, ys', us, .int .i64 ρ.next] 73)) (RFoot b ls ys' us) := by
  have hbl : b < H.next := get_lt hf h.box
  have hnb : ¬ sliceFoot ys b := h.oy.id_ne h.box
  have hb2 : Ha.get b = some (.box [.int .i64 ρ.blocks, ls, ys, us, .int .i64 ρ.next] 73) := by rw [hu.frame b hnb hbl]; exact h.box
  have hnb' : idOf ys' ≠ some b := h2.id_ne hb2
  refine ⟨?_, ?_⟩
  · refine h.rep 3 (fun j hj hjb hk => ?_) get_set_same (.inr ⟨by decide, rfl, rfl⟩) (.inl ?_) (.inr ⟨by decide, rfl, rfl⟩)
    · rw [get_set_ne hjb]
      exact hu.frame j (fun e => hk (h.oy.kind e)) (h.lt hf hj)
    · have := h2.mono (H2 := Ha.set b (.box [.int .i64 ρ.blocks, ls, ys', us, .int .i64 ρ.next] 73)) fun i hi => get_set_ne (by rintro rfl; exact hnb' hi)
      simpa using this
  · refine ⟨fun j hj hlt => ?_, fun j hj => ?_, (AHeap.le_set hb2).fresh hu.fresh, hu.next⟩
    · rw [get_set_ne (fun e => hj (.inl e))]
      exact hu.frame j (fun e => hj (.inr (.inr (.inl e)))) hlt
    · rcases hj with e | e | e | e
      · exact .inl (.inl e)
      · exact .inl (.inr (.inl e))
      · exact (hu.foot j e).imp (fun e => .inr (.inr (.inl e))) id
      · exact .inl (.inr (.inr (.inr e)))

/-- A local more. -/
theorem RAt.pushL {H : AHeap} (hf : H.Fresh) {b : Nat} {ρ : Rf} {ls ys us ls' : Value} (h : RAt H b ρ ls ys us) {Ha : AHeap} {t : Loc} (h2 : Own Ha 85 4 ls' (ρ.locals.length + 1) (ρ.locals.flatMap locC ++ locC t)) (hu : Upd H (sliceFoot ls) Ha (sliceFoot ls')) :
    RAt (Ha.set b (.box [.int .i64 ρ.blocks, ls', ys, us, .int .i64 ρ.next] 73)) b { ρ with locals := ρ.locals ++ [t] } ls' ys us ∧ Upd H (RFoot b ls ys us) (Ha.set b (.box [.int .i64 ρ.blocks, ls', ys, us, .int .i64 ρ.next] 73)) (RFoot b ls' ys us) := by
  have hbl : b < H.next := get_lt hf h.box
  have hnb : ¬ sliceFoot ls b := h.ol.id_ne h.box
  have hb2 : Ha.get b = some (.box [.int .i64 ρ.blocks, ls, ys, us, .int .i64 ρ.next] 73) := by rw [hu.frame b hnb hbl]; exact h.box
  have hnb' : idOf ls' ≠ some b := h2.id_ne hb2
  refine ⟨?_, ?_⟩
  · refine h.rep 85 (fun j hj hjb hk => ?_) get_set_same (.inl ?_) (.inr ⟨by decide, rfl, rfl⟩) (.inr ⟨by decide, rfl, rfl⟩)
    · rw [get_set_ne hjb]
      exact hu.frame j (fun e => hk (h.ol.kind e)) (h.lt hf hj)
    · have := h2.mono (H2 := Ha.set b (.box [.int .i64 ρ.blocks, ls', ys, us, .int .i64 ρ.next] 73)) fun i hi => get_set_ne (by rintro rfl; exact hnb' hi)
      simpa [List.flatMap_append] using this
  · refine ⟨fun j hj hlt => ?_, fun j hj => ?_, (AHeap.le_set hb2).fresh hu.fresh, hu.next⟩
    · rw [get_set_ne (fun e => hj (.inl e))]
      exact hu.frame j (fun e => hj (.inr (.inl e))) hlt
    · rcases hj with e | e | e | e
      · exact .inl (.inl e)
      · exact (hu.foot j e).imp (fun e => .inr (.inl e)) id
      · exact .inl (.inr (.inr (.inl e)))
      · exact .inl (.inr (.inr (.inr e)))

set_option maxHeartbeats 4000000 in
set_option maxRecDepth 100000 in
theorem refdeclare39 {ext : CallT} (hx : ∀ f args H, f ≠ 22 → ext f args H = none) {H : AHeap} (hf : H.Fresh) {b : Nat} {ρ : Rf} {F : Nat → Prop} (h : RefAt H b ρ F) (hn : ρ.locals.length < 1000000) (hn2 : ρ.types.length < 1000000) (nm : ByteArray) (ty : Int) :
    ∃ H' F', theCall Try.prog ext 39 [.pointer (some ⟨b, 0, none⟩), .string nm, .int .i64 ty] H = some (.ret (ρ.declV nm), H') ∧ RefAt H' b (ρ.decl nm ty) F' ∧ Upd H F H' F' := by
  obtain ⟨ls, ys, us, h, rfl⟩ := h
  have hb := h.box
  refine theCall_goal (F := fun z => ∃ H' F', z = some (.ret (ρ.declV nm), H') ∧ RefAt H' b (ρ.decl nm ty) F' ∧ Upd H (RFoot b ls ys us) H' F') (hx _ _ _ (by decide)) Try.func39 (rs := [.tmp 6, .tmp 7]) rfl rfl rfl (by simp) fun tm hl hi => ?_
  replace hl : tm.length = 79 := hl
  have i0 := hi 0
  have i1 := hi 1
  have i2 := hi 2
  simp only [List.getD_cons_zero, List.getD_cons_succ] at i0 i1 i2
  simp (config := { decide := true }) only [theCode_seq, theCode_list, theCode_ret, theCode_block, evalList_plain, evalList_nil, nd_move, nd_assign, nd_nilCheck, nd_binOp, ok_tmp, ok_const, cl_int, opA_move, opA_assign, opA_nilCheck, opA_bin, contA_val, putT_some, aev_tmp, aev_const, rd_ne, thenA_normal, ne_eq]
  refine loop_use (F := fun z => ∃ H' F', leaveR Try.prog [.tmp 6, .tmp 7] (thenA (inBlockA 0 z) _) = some (.ret (ρ.declV nm), H') ∧ RefAt H' b (ρ.decl nm ty) F' ∧ Upd H (RFoot b ls ys us) H' F') (rf_l39 h hn (nm := nm) (ty := ty) rfl) ρ.locals.length ⟨_, 0, rfl, Nat.zero_add _, fun j hj => absurd hj (Nat.not_lt_zero _), ?_, ?_, ?_, ?_, ?_⟩ ?_
  · simp only [List.length_set, hl]
  · simp (config := { decide := true }) only [rd_ne, ne_eq, i0]
  · simp (config := { decide := true }) only [rd_ne, ne_eq, i1]
  · simp (config := { decide := true }) only [rd_ne, ne_eq, i2]
  · simp (config := { decide := true }) only [rd_same, List.length_set, hl]
    rfl
  rintro x _ hx' ⟨tm, rfl, hl, ⟨rfl, hq, i0, i1, i2⟩ | ⟨rfl, hq, i6, i7⟩⟩
  · have c3 := fun H2 => h.oy.lenS isl32 H2
    by_cases h256 : ρ.types.length = 256
    · have hd : ρ.declErr nm = 73 := by unfold Rf.declErr; rw [hq, if_pos h256]; rfl
      have hv : ρ.declV nm = .tuple #[.int .i64 0, .int .i64 73] := by unfold Rf.declV; rw [hd]; rfl
      have hE : ρ.decl nm ty = ρ := by unfold Rf.decl; rw [hd]; rfl
      have h256' : (ρ.types.length : Int) = 256 := by omega
      rw [hv, hE]
      refine ⟨H, _, ?_, ⟨ls, ys, us, h, rfl⟩, (Grown.refl hf).upd _⟩
      simp (config := { decide := true }) only [theCode_seq, theCode_list, theCode_ret, theCode_if, evalList_plain, evalList_nil, nd_assign, nd_load, nd_fieldAddr, nd_call, ok_tmp, ok_const, cl_int, opA_assign, opA_load, opA_fieldAddr, opA_len, contA_val, putT_some, aev_tmp, aev_const, rd_same, rd_ne, List.length_set, valA_some, thenA_normal, thenA_ret, inBlockA_exit, boolOf_bool, loadS_ptr, nilCheckS_ptr, fieldAddrS_eq, bin_eql, leaveR_ret, resA_tmp, resA_nil, List.getElem?_cons_zero, List.getElem?_cons_succ, pack_two, Option.map_some, Option.isSome_some, ne_eq, ↓reduceIte, Nat.reduceLT, Nat.zero_add, decide_true, hl, i0, off73_2, agg32, loadV_flat, cell_eq, hb, cellO_box, c3, h256']
    · have hd : ρ.declErr nm = 0 := by unfold Rf.declErr; rw [hq, if_neg h256]; rfl
      have hv : ρ.declV nm = .tuple #[.int .i64 ρ.types.length, .int .i64 0] := by unfold Rf.declV; rw [hd]; rfl
      have hE : ρ.decl nm ty = { ρ with types := ρ.types ++ [ty], locals := ρ.locals ++ [⟨nm, ρ.blocks, ρ.types.length, ty⟩] } := by unfold Rf.decl; rw [hd]; rfl
      have h256' : ¬ ((ρ.types.length : Int) = 256) := by omega
      rw [hv, hE]
      have hbl : b < H.next := get_lt hf hb
      -- the type
      obtain ⟨ys', Ha, h1, h2, hu⟩ := h.oy.append1U (xs := [.int .i64 ty]) (i := Try.t3) (z := .int .i64 0) hf rfl (by decide) rfl rfl rfl rfl (by omega) (by show (ρ.types.length + 1) * 8 ≤ 140737488355328; omega)
      simp only [List.length_cons, List.length_nil, Nat.zero_add] at h1
      have hnb : ¬ sliceFoot ys b := h.oy.id_ne hb
      have hb2 : Ha.get b = some (.box [.int .i64 ρ.blocks, ls, ys, us, .int .i64 ρ.next] 73) := by rw [hu.frame b hnb hbl]; exact hb
      obtain ⟨r1, r2⟩ := h.pushY hf (t := ty) h2 hu
      have c1 := h2.vcells
      have c2 := h2.flat
      obtain ⟨H1, hH1⟩ : ∃ X, Ha.set b (.box [.int .i64 ρ.blocks, ls, ys', us, .int .i64 ρ.next] 73) = X := ⟨_, rfl⟩
      rw [hH1] at r1 r2
      have hb3 := r1.box
      -- the local
      obtain ⟨ls', Hc, g1, g2, gu⟩ := r1.ol.append1U (xs := [.string nm, .int .i64 ρ.blocks, .int .i64 ρ.types.length, .int .i64 ty]) (i := Try.t85) (z := .agg #[.string ⟨#[]⟩, .int .i64 0, .int .i64 0, .int .i64 0]) r2.fresh rfl (by decide) rfl rfl rfl rfl (by show ρ.locals.length + 1 ≤ _; omega) (by show (ρ.locals.length + 1) * 40 ≤ 140737488355328; omega)
      simp only [List.length_cons, List.length_nil, Nat.zero_add, Nat.reduceAdd] at g1
      have hnb' : ¬ sliceFoot ls b := r1.ol.id_ne hb3
      have hb4 : Hc.get b = some (.box [.int .i64 ρ.blocks, ls, ys', us, .int .i64 ρ.next] 73) := by rw [gu.frame b hnb' (get_lt r2.fresh hb3)]; exact hb3
      obtain ⟨s1, s2⟩ := r1.pushL r2.fresh (t := ⟨nm, ρ.blocks, ρ.types.length, ty⟩) g2 gu
      have d1 := g2.vcells
      have d2 := g2.flat
      refine ⟨Hc.set b (.box [.int .i64 ρ.blocks, ls', ys', us, .int .i64 ρ.next] 73), _, ?_, ⟨ls', ys', us, s1, rfl⟩, r2.trans s2⟩
      simp (config := { decide := true }) only [theCode_skip, theCode_if, evalList_plain, evalList_nil, nd_move, nd_assign, nd_buildSlice, nd_load, nd_store, nd_nilCheck, nd_fieldAddr, nd_call, ok_tmp, opA_move, opA_assign, opA_load, opA_store, opA_nilCheck, opA_fieldAddr, opA_len, opA_appendS, contA_val, contA_skip, putT_some, putT_none, aev_tmp, rd_same, rd_ne, List.length_set, valA_some, skipA_some, pairA_some,
    thenA_normal, inBlockA_exit, boolOf_bool, loadS_ptr, storeS_ptr, nilCheckS_ptr, fieldAddrS_eq, bin_eql, List.getElem?_cons_zero, List.getElem?_cons_succ, Option.map_some, Option.isSome_some, ne_eq, ↓reduceIte, Nat.reduceLT, Nat.reduceAdd, Nat.zero_add, Option.some.injEq, List.all_cons, List.all_nil, Bool.and_true, decide_false, hl, i0, i2, off73_2, agg32, info32, cells32, loadV_flat, storeV_flat, setCell_eq, setCellO_box, cell_eq, hb, hb2, cellO_box, c3, h256', opA_build1F, b1_32, es32, vc_int, fl_int, appendS_of sli32, build1S_of sli32, h1, sli32, c1, c2, hH1, Option.getD_none, List.set_cons_zero, List.set_cons_succ, List.length_cons, List.length_nil, List.size_toArray]
      rw [theCode_text (by kernel_rfl)]
      simp (config := { decide := true }) only [evalList_plain, evalList_nil, nd_move, nd_build, nd_buildSlice, nd_load, nd_store, nd_nilCheck, nd_fieldAddr, nd_call, ok_tmp, opA_move, opA_load, opA_store, opA_nilCheck, opA_fieldAddr, opA_appendS, opA_build, contA_val, contA_skip, putT_some, putT_none, aev_tmp, rd_same, rd_ne, List.length_set, valA_some, skipA_some, pairA_some,
    thenA_normal, loadS_ptr, storeS_ptr, nilCheckS_ptr, fieldAddrS_eq, leaveR_ret, resA_tmp, resA_nil, List.getElem?_cons_zero, List.getElem?_cons_succ, pack_two, Option.map_some, Option.isSome_some, ne_eq, Nat.reduceLT, Nat.reduceAdd, Nat.zero_add, List.map_cons, List.map_nil, List.all_cons, List.all_nil, Bool.and_true, dropP_normal, hl, i0, i1, i2, off73_0, off73_1, agg70, agg3, info70, cells70, loadV_flat, storeV_flat, setCell_eq, setCellO_box, cell_eq, hb3, hb4, cellO_box, build85, zf85s, opA_build1F, b1_70, es70, vc_agg, fl_string, fl_int, appendS_of sli70, build1S_of sli70, g1, sli70, d1, d2, Option.getD_none, List.set_cons_zero, List.set_cons_succ, List.length_cons, List.length_nil, List.size_toArray]
  · have hd : ρ.declErr nm = 70 := by unfold Rf.declErr; rw [hq]; rfl
    have hv : ρ.declV nm = .tuple #[.int .i64 0, .int .i64 70] := by unfold Rf.declV; rw [hd]; rfl
    have hE : ρ.decl nm ty = ρ := by unfold Rf.decl; rw [hd]; rfl
    rw [hv, hE]
    refine ⟨H, _, ?_, ⟨ls, ys, us, h, rfl⟩, (Grown.refl hf).upd _⟩
    simp (config := { decide := true }) only [ok_tmp, thenA_ret, inBlockA_ret, leaveR_ret, resA_tmp, resA_nil, pack_two, Option.map_some, i6, i7]

end Go.Proofs.Ytnjoaffnfjlcaaa

namespace Go.Proofs.Ytnjoaffnfjlcaaa
open Go Go.Proofs B

/-- Without the last ones of a block. -/
def trimL (bl : Nat) (l : List Loc) : List Loc := (l.reverse.dropWhile fun x => decide (x.block = bl)).reverse
def Rf.close (r : Rf) : Rf := if r.blocks = 1 then r else { r with blocks := r.blocks - 1, locals := trimL r.blocks r.locals }

theorem getD_last (l : List Loc) {m : Nat} (hm : l.length = m + 1) : l = l.take m ++ [l.getD m noLoc] := by
  have h1 : l.take (m + 1) = l := by rw [← hm]; exact List.take_length
  have h2 := List.take_succ_eq_append_getElem (l := l) (i := m) (by omega)
  rw [h1] at h2
  rw [List.getD_eq_getElem?_getD, List.getElem?_eq_getElem (by omega)]
  exact h2

theorem trimL_succ (bl : Nat) (l : List Loc) {m : Nat} (hm : l.length = m + 1) : trimL bl l = if (l.getD m noLoc).block = bl then trimL bl (l.take m) else l := by
  have h := getD_last l hm
  obtain ⟨x, hx⟩ : ∃ x, l.getD m noLoc = x := ⟨_, rfl⟩
  obtain ⟨i, hi⟩ : ∃ i, l.take m = i := ⟨_, rfl⟩
  rw [hx] at h ⊢
  rw [hi] at h ⊢
  rw [h]
  unfold trimL
  rw [List.reverse_append]
  simp only [List.reverse_cons, List.reverse_nil, List.nil_append, List.cons_append, List.dropWhile_cons, decide_eq_true_eq]
  split
  · rfl
  · simp

variable {H : AHeap} {b : Nat} {ρ : Rf} {ls ys us : Value}

theorem flatMap_takeL : ∀ (l : List Loc) (m : Nat), (l.flatMap locC).take (m * 4) = (l.take m).flatMap locC
  | [], m => by simp
  | t :: l, 0 => by simp
  | t :: l, m + 1 => by
    have h3 : ∀ X : List Value, (locC t ++ X).take (m * 4 + 4) = locC t ++ X.take (m * 4) := fun X => rfl
    rw [List.flatMap_cons, show (m + 1) * 4 = m * 4 + 4 by omega, h3, flatMap_takeL l m]
    rfl

/-- Other locals. -/
theorem RAt.setL (hf : H.Fresh) (h : RAt H b ρ ls ys us) {Ha : AHeap} {ls' : Value} {loc : List Loc} (n : Nat) (h2 : Own Ha 85 4 ls' loc.length (loc.flatMap locC)) (hu : Upd H (sliceFoot ls) Ha (sliceFoot ls')) :
    RAt (Ha.set b (.box [.int .i64 n, ls', ys, us, .int .i64 ρ.next] 73)) b { ρ with blocks := n, locals := loc } ls' ys us ∧ Upd H (RFoot b ls ys us) (Ha.set b (.box [.int .i64 n, ls', ys, us, .int .i64 ρ.next] 73)) (RFoot b ls' ys us) := by
  have hbl : b < H.next := get_lt hf h.box
  have hnb : ¬ sliceFoot ls b := h.ol.id_ne h.box
  have hb2 : Ha.get b = some (.box [.int .i64 ρ.blocks, ls, ys, us, .int .i64 ρ.next] 73) := by rw [hu.frame b hnb hbl]; exact h.box
  have hnb' : idOf ls' ≠ some b := h2.id_ne hb2
  refine ⟨?_, ?_⟩
  · refine h.rep 85 (fun j hj hjb hk => ?_) get_set_same (.inl ?_) (.inr ⟨by decide, rfl, rfl⟩) (.inr ⟨by decide, rfl, rfl⟩)
    · rw [get_set_ne hjb]
      exact hu.frame j (fun e => hk (h.ol.kind e)) (h.lt hf hj)
    · exact h2.mono fun i hi => get_set_ne (by rintro rfl; exact hnb' hi)
  · refine ⟨fun j hj hlt => ?_, fun j hj => ?_, (AHeap.le_set hb2).fresh hu.fresh, hu.next⟩
    · rw [get_set_ne (fun e => hj (.inl e))]
      exact hu.frame j (fun e => hj (.inr (.inl e))) hlt
    · rcases hj with e | e | e | e
      · exact .inl (.inl e)
      · exact (hu.foot j e).imp (fun e => .inr (.inl e)) id
      · exact .inl (.inr (.inr (.inl e)))
      · exact .inl (.inr (.inr (.inr e)))

theorem RAt.setY (hf : H.Fresh) (h : RAt H b ρ ls ys us) {Ha : AHeap} {ys' : Value} {tys : List Int} (h2 : Own Ha 3 1 ys' tys.length (tys.map tyC)) (hu : Upd H (sliceFoot ys) Ha (sliceFoot ys')) :
    RAt (Ha.set b (.box [.int .i64 ρ.blocks, ls, ys', us, .int .i64 ρ.next] 73)) b { ρ with types := tys } ls ys' us ∧ Upd H (RFoot b ls ys us) (Ha.set b (.box [.int .i64 ρ.blocks, ls, ys', us, .int .i64 ρ.next] 73)) (RFoot b ls ys' us) := by
  have hbl : b < H.next := get_lt hf h.box
  have hnb : ¬ sliceFoot ys b := h.oy.id_ne h.box
  have hb2 : Ha.get b = some (.box [.int .i64 ρ.blocks, ls, ys, us, .int .i64 ρ.next] 73) := by rw [hu.frame b hnb hbl]; exact h.box
  have hnb' : idOf ys' ≠ some b := h2.id_ne hb2
  refine ⟨?_, ?_⟩
  · refine h.rep 3 (fun j hj hjb hk => ?_) get_set_same (.inr ⟨by decide, rfl, rfl⟩) (.inl ?_) (.inr ⟨by decide, rfl, rfl⟩)
    · rw [get_set_ne hjb]
      exact hu.frame j (fun e => hk (h.oy.kind e)) (h.lt hf hj)
    · exact h2.mono fun i hi => get_set_ne (by rintro rfl; exact hnb' hi)
  · refine ⟨fun j hj hlt => ?_, fun j hj => ?_, (AHeap.le_set hb2).fresh hu.fresh, hu.next⟩
    · rw [get_set_ne (fun e => hj (.inl e))]
      exact hu.frame j (fun e => hj (.inr (.inr (.inl e)))) hlt
    · rcases hj with e | e | e | e
      · exact .inl (.inl e)
      · exact .inl (.inr (.inl e))
      · exact (hu.foot j e).imp (fun e => .inr (.inr (.inl e))) id
      · exact .inl (.inr (.inr (.inr e)))

theorem RAt.setT (hf : H.Fresh) (h : RAt H b ρ ls ys us) {Ha : AHeap} {us' : Value} {trs : List Trn} (h2 : Own Ha 87 3 us' trs.length (trs.flatMap trnC)) (hu : Upd H (sliceFoot us) Ha (sliceFoot us')) :
    RAt (Ha.set b (.box [.int .i64 ρ.blocks, ls, ys, us', .int .i64 ρ.next] 73)) b { ρ with turns := trs } ls ys us' ∧ Upd H (RFoot b ls ys us) (Ha.set b (.box [.int .i64 ρ.blocks, ls, ys, us', .int .i64 ρ.next] 73)) (RFoot b ls ys us') := by
  have hbl : b < H.next := get_lt hf h.box
  have hnb : ¬ sliceFoot us b := h.ou.id_ne h.box
  have hb2 : Ha.get b = some (.box [.int .i64 ρ.blocks, ls, ys, us, .int .i64 ρ.next] 73) := by rw [hu.frame b hnb hbl]; exact h.box
  have hnb' : idOf us' ≠ some b := h2.id_ne hb2
  refine ⟨?_, ?_⟩
  · refine h.rep 87 (fun j hj hjb hk => ?_) get_set_same (.inr ⟨by decide, rfl, rfl⟩) (.inr ⟨by decide, rfl, rfl⟩) (.inl ?_)
    · rw [get_set_ne hjb]
      exact hu.frame j (fun e => hk (h.ou.kind e)) (h.lt hf hj)
    · exact h2.mono fun i hi => get_set_ne (by rintro rfl; exact hnb' hi)
  · refine ⟨fun j hj hlt => ?_, fun j hj => ?_, (AHeap.le_set hb2).fresh hu.fresh, hu.next⟩
    · rw [get_set_ne (fun e => hj (.inl e))]
      exact hu.frame j (fun e => hj (.inr (.inr (.inr e)))) hlt
    · rcases hj with e | e | e | e
      · exact .inl (.inl e)
      · exact .inl (.inr (.inl e))
      · exact .inl (.inr (.inr (.inl e)))
      · exact (hu.foot j e).imp (fun e => .inr (.inr (.inr e))) id


set_option maxHeartbeats 4000000 in
set_option maxRecDepth 100000 in
theorem rf_l38 {ext : CallT} {H : AHeap} {b : Nat} {ρ : Rf} {ls ys us : Value} (hn : ρ.locals.length < 1000000) {c : Code} (hc : (loopsF Try.f38)[0]? = some c) :
    ∀ k s, (fun k s => ∃ tm Hk ls' loc, loc.length = k ∧ s = ⟨tm, [], Hk⟩ ∧ RAt Hk b { ρ with locals := loc } ls' ys us ∧ Upd H (RFoot b ls ys us) Hk (RFoot b ls' ys us) ∧ trimL ρ.blocks loc = trimL ρ.blocks ρ.locals ∧ loc.length ≤ ρ.locals.length ∧ tm.length = 55 ∧ tm.getD 0 undef = .pointer (some ⟨b, 0, none⟩)) k s →
      ∃ x s', theCode Try.prog ext false (.loop c) s = some (x, s') ∧ x ≠ .normal ∧ (fun x s => x = .exit 0 ∧ ∃ tm Hk ls' loc, loc = trimL ρ.blocks ρ.locals ∧ s = ⟨tm, [], Hk⟩ ∧ RAt Hk b { ρ with locals := loc } ls' ys us ∧ Upd H (RFoot b ls ys us) Hk (RFoot b ls' ys us) ∧ trimL ρ.blocks loc = trimL ρ.blocks ρ.locals ∧ loc.length ≤ ρ.locals.length ∧ tm.length = 55 ∧ tm.getD 0 undef = .pointer (some ⟨b, 0, none⟩)) x s' := by
  refine theCode_loop_inv _ _ ?_
  rintro k _ ⟨tm, Hk, ls', loc, hk, rfl, h, hu, ht, hle, hl, i0⟩
  have h0 : (loopsF Try.f38)[0]? = some _ := rfl
  rw [h0] at hc
  obtain rfl := Option.some.inj hc
  clear hc h0
  have hb := h.box
  have c3 := fun H2 => h.ol.lenS isl70 H2
  cases k with
  | zero =>
    right
    have hlt : ¬ ((0 : Int) < (loc.length : Int)) := by omega
    obtain rfl := List.eq_nil_of_length_eq_zero hk
    refine ⟨?x0, ?s0, ?h0, ?hx0, ?hq0⟩
    case h0 =>
      simp only [theCode_seq]; rw [theCode_text (by kernel_rfl)]
      simp (config := { decide := true }) only [theCode_exit, theCode_if, evalList_plain, evalList_guard, evalList_nil, nd_move, nd_pick, nd_load, nd_nilCheck, nd_binOp, nd_fieldAddr, nd_indexAddr, nd_call, ok_tmp, ok_const, cl_int, cl_bool, opA_move, opA_pick, opA_load, opA_nilCheck, opA_fieldAddr, opA_bin, opA_len, contA_val, putT_some, aev_tmp, aev_const, rd_same, rd_ne, List.length_set, valA_some, thenA_normal, thenA_exit, boolOf_bool, loadS_ptr, nilCheckS_ptr, fieldAddrS_eq, bin_gtr, yieldA_S, slotAt_succ, slotAt_zero, yieldS_some, List.getElem?_cons_zero, List.getElem?_cons_succ, Option.map_some, Option.isSome_some, ne_eq, ↓reduceIte, Nat.reduceLT, Nat.zero_add, Option.some.injEq, decide_false, dropP_normal, bin_gtr, hl, i0, off73_1, agg70, loadV_flat, cell_eq, hb, cellO_box, c3]
      rfl
    case hx0 => exact fun h => by cases h
    case hq0 =>
      refine ⟨rfl, _, Hk, ls', [], ?_, rfl, h, hu, ht, hle, by simp only [List.length_set, hl], ?_⟩
      · rw [← ht]; rfl
      · simp (config := { decide := true }) only [rd_ne, ne_eq, i0]
  | succ k =>
    have hlt : (0 : Int) < (loc.length : Int) := by omega
    have hw : IntKind.i64.wrap ((loc.length : Int) - 1) = (k : Int) := by rw [IntWalk.i64_in _ (by omega)]; omega
    have hix := fun H2 => indexAddrS_own (P := Try.prog) (t := 70) (j := (k : Int)) (k := .i64) h.ol (by omega) (by show (k : Int) < (loc.length : Int); omega) es70 H2
    simp only [Int.toNat_natCast] at hix
    have hc1 := h.cellL (i := k) (k := 1) (by show k < loc.length; omega) (by decide)
    simp only [locC, List.getElem?_cons_zero, List.getElem?_cons_succ] at hc1
    have htr := trimL_succ ρ.blocks loc hk
    have hsl := fun H2 => sliceS_upto (P := Try.prog) (k := .i64) (m := k) h.ol (by show 0 < loc.length; omega) sli70 (by omega) (by show (k : Int) ≤ (loc.length : Int); omega) H2
    simp only [Int.toNat_natCast] at hsl
    by_cases hq : (loc.getD k noLoc).block = ρ.blocks
    · left
      rw [if_pos hq] at htr
      have hq' : ((loc.getD k noLoc).block : Int) = (ρ.blocks : Int) := by omega
      refine ⟨?s1, ?h1, k, Nat.lt_succ_self _, ?q1⟩
      case h1 =>
        simp only [theCode_seq]; rw [theCode_text (by kernel_rfl)]
        simp (config := { decide := true }) only [fieldAddrS_plus, theCode_skip, theCode_block, theCode_if, evalList_plain, evalList_guard, evalList_nil, nd_move, nd_pick, nd_load, nd_nilCheck, nd_binOp, nd_fieldAddr, nd_indexAddr, nd_call, ok_tmp, ok_const, cl_int, cl_bool, opA_move, opA_pick, opA_load, opA_nilCheck, opA_fieldAddr, opA_bin, opA_len, opA_indexAddr, contA_val, putT_some, aev_tmp, aev_const, rd_same, rd_ne, List.length_set, valA_some, thenA_normal, boolOf_bool, loadS_ptr, nilCheckS_ptr, bin_gtr, bin_eql, bin_sub, yieldA_S, slotAt_succ, slotAt_zero, yieldS_some, List.getElem?_cons_zero, List.getElem?_cons_succ, Option.map_some, Option.isSome_some, ne_eq, ↓reduceIte, Nat.reduceLT, Nat.zero_add, decide_true, dropP_normal, bin_gtr, hl, i0, addA_mk, off73_0, off73_1, agg70, agg3, loadV_flat, cell_eq, hb, cellO_box, c3, hlt, hw, hix, sli70, off85_1, hc1, hq']
        rw [theCode_text (by kernel_rfl)]
        simp (config := { decide := true }) only [fieldAddrS_plus, evalList_plain, evalList_nil, nd_move, nd_load, nd_store, nd_nilCheck, nd_binOp, nd_slice, nd_fieldAddr, nd_call, ok_tmp, ok_const, cl_int, opA_move, opA_load, opA_store, opA_nilCheck, opA_fieldAddr, opA_bin, opA_len, opA_sliceHi, contA_val, contA_skip, putT_some, putT_none, aev_tmp, aev_const, rd_same, rd_ne, List.length_set, valA_some, skipA_some, inBlockA_normal, loadS_ptr, storeS_ptr, nilCheckS_ptr, bin_sub, List.getElem?_cons_zero, List.getElem?_cons_succ, Option.map_some, Option.isSome_some, ne_eq, Nat.reduceLT, Nat.reduceAdd, Nat.zero_add, Option.some.injEq, dropP_normal, hl, i0, addA_mk, off73_1, agg70, info70, cells70, loadV_flat, storeV_flat, setCell_eq, setCellO_box, cell_eq, hb, cellO_box, c3, hw, hsl, sli70, vc_slice, fl_slice, Option.getD_none, List.set_cons_zero, List.set_cons_succ, List.length_cons, List.length_nil]
        rfl
      case q1 =>
        have hol := h.ol
        have hcut : Own Hk 85 4 (.slice (some (baseOf ls')) k (capOf ls')) (loc.take k).length ((loc.take k).flatMap locC) := by
          have e1 : (loc.take k).length = k := by rw [List.length_take]; omega
          rw [e1, ← flatMap_takeL]
          have h1 : Own Hk 85 4 ls' (k + 1) (loc.flatMap locC) := by rw [← hk]; exact hol
          exact h1.cutLast
        have hid : idOf (.slice (some (baseOf ls')) k (capOf ls')) = idOf ls' := by
          obtain ⟨hv, _⟩ := hol.shape (by show 0 < loc.length; omega)
          rw [hv]; rfl
        have hu1 : Upd Hk (sliceFoot ls') Hk (sliceFoot (.slice (some (baseOf ls')) k (capOf ls'))) := ⟨fun _ _ _ => rfl, fun j hj => .inl (by unfold sliceFoot at hj ⊢; rw [← hid]; exact hj), hu.fresh, Nat.le_refl _⟩
        obtain ⟨r1, r2⟩ := h.setL hu.fresh ρ.blocks hcut hu1
        refine ⟨_, _, _, loc.take k, by rw [List.length_take]; omega, rfl, r1, hu.trans r2, ?_, by rw [List.length_take]; omega, ?_, ?_⟩
        · rw [← ht, htr]
        · simp only [List.length_set, hl]
        · simp (config := { decide := true }) only [rd_ne, ne_eq, i0]
    · right
      rw [if_neg hq] at htr
      have hq' : ¬ ((loc.getD k noLoc).block : Int) = (ρ.blocks : Int) := by omega
      refine ⟨?x2, ?s2, ?h2, ?hx2, ?hq2⟩
      case h2 =>
        simp only [theCode_seq]; rw [theCode_text (by kernel_rfl)]
        simp (config := { decide := true }) only [fieldAddrS_plus, theCode_exit, theCode_if, evalList_plain, evalList_guard, evalList_nil, nd_move, nd_pick, nd_load, nd_nilCheck, nd_binOp, nd_fieldAddr, nd_indexAddr, nd_call, ok_tmp, ok_const, cl_int, cl_bool, opA_move, opA_pick, opA_load, opA_nilCheck, opA_fieldAddr, opA_bin, opA_len, opA_indexAddr, contA_val, putT_some, aev_tmp, aev_const, rd_same, rd_ne, List.length_set, valA_some, thenA_normal, thenA_exit, boolOf_bool, loadS_ptr, nilCheckS_ptr, bin_gtr, bin_eql, bin_sub, yieldA_S, slotAt_succ, slotAt_zero, yieldS_some, List.getElem?_cons_zero, List.getElem?_cons_succ, Option.map_some, Option.isSome_some, ne_eq, ↓reduceIte, Nat.reduceLT, Nat.zero_add, Option.some.injEq, decide_true, decide_false, dropP_normal, bin_gtr, hl, i0, addA_mk, off73_0, off73_1, agg70, agg3, loadV_flat, cell_eq, hb, cellO_box, c3, hlt, hw, hix, sli70, off85_1, hc1, hq']
        rfl
      case hx2 => exact fun h => by cases h
      case hq2 =>
        refine ⟨rfl, _, Hk, ls', loc, ?_, rfl, h, hu, ht, hle, by simp only [List.length_set, hl], ?_⟩
        · rw [← ht, htr]
        · simp (config := { decide := true }) only [rd_ne, ne_eq, i0]


set_option maxHeartbeats 4000000 in
set_option maxRecDepth 100000 in
theorem refclose38 {ext : CallT} (hx : ∀ f args H, f ≠ 22 → ext f args H = none) {H : AHeap} (hf : H.Fresh) {b : Nat} {ρ : Rf} {F : Nat → Prop} (h : RefAt H b ρ F) (hb1 : 1 ≤ ρ.blocks) (hb2 : ρ.blocks < 1000000) (hn : ρ.locals.length < 1000000) :
    ∃ H' F', theCall Try.prog ext 38 [.pointer (some ⟨b, 0, none⟩)] H = some (.ret (.bool (!decide (ρ.blocks = 1))), H') ∧ RefAt H' b ρ.close F' ∧ Upd H F H' F' := by
  obtain ⟨ls, ys, us, h, rfl⟩ := h
  have hb := h.box
  by_cases h1 : ρ.blocks = 1
  · have hE : ρ.close = ρ := by unfold Rf.close; rw [if_pos h1]
    have h1' : (ρ.blocks : Int) = 1 := by omega
    rw [hE]
    refine ⟨H, _, ?_, ⟨ls, ys, us, h, rfl⟩, (Grown.refl hf).upd _⟩
    refine theCall_run (hx _ _ _ (by decide)) Try.func38 (rs := [.tmp 2]) rfl rfl rfl (by simp) fun tm hl hi => ?_
    replace hl : tm.length = 55 := hl
    have i0 := hi 0
    simp only [List.getD_cons_zero] at i0
    simp (config := { decide := true }) only [theCode_seq, theCode_list, theCode_ret, theCode_block, theCode_if, evalList_plain, evalList_nil, nd_move, nd_assign, nd_load, nd_nilCheck, nd_binOp, nd_fieldAddr, ok_tmp, ok_const, cl_int, cl_bool, opA_move, opA_assign, opA_load, opA_nilCheck, opA_fieldAddr, opA_bin, contA_val, putT_some, aev_tmp, aev_const, rd_same, rd_ne, List.length_set, valA_some, thenA_normal, thenA_ret, boolOf_bool, loadS_ptr, nilCheckS_ptr, fieldAddrS_eq, bin_eql, leaveR_ret, resA_tmp, resA_nil, List.getElem?_cons_zero, pack_one, Option.map_some, Option.isSome_some, ne_eq, ↓reduceIte, Nat.reduceLT, Nat.zero_add, decide_true, hl, i0, off73_0, agg3, loadV_flat, cell_eq, hb, cellO_box, h1, Bool.not_true]
  · have hE : ρ.close = { ρ with blocks := ρ.blocks - 1, locals := trimL ρ.blocks ρ.locals } := by unfold Rf.close; rw [if_neg h1]
    have h1' : ¬ (ρ.blocks : Int) = 1 := by omega
    rw [hE]
    refine theCall_goal (F := fun z => ∃ H' F', z = some (.ret (.bool (!decide (ρ.blocks = 1))), H') ∧ RefAt H' b { ρ with blocks := ρ.blocks - 1, locals := trimL ρ.blocks ρ.locals } F' ∧ Upd H (RFoot b ls ys us) H' F') (hx _ _ _ (by decide)) Try.func38 (rs := [.tmp 2]) rfl rfl rfl (by simp) fun tm hl hi => ?_
    replace hl : tm.length = 55 := hl
    have i0 := hi 0
    simp only [List.getD_cons_zero] at i0
    simp (config := { decide := true }) only [theCode_seq, theCode_list, theCode_skip, theCode_ret, theCode_block, theCode_if, evalList_plain, evalList_nil, nd_move, nd_assign, nd_load, nd_nilCheck, nd_binOp, nd_fieldAddr, ok_tmp, ok_const, cl_int, cl_bool, opA_move, opA_assign, opA_load, opA_nilCheck, opA_fieldAddr, opA_bin, contA_val, putT_some, aev_tmp, aev_const, rd_same, rd_ne, List.length_set, valA_some, thenA_normal, boolOf_bool, loadS_ptr, nilCheckS_ptr, fieldAddrS_eq, bin_eql, List.getElem?_cons_zero, Option.map_some, Option.isSome_some, ne_eq, ↓reduceIte, Nat.reduceLT, Nat.zero_add, Option.some.injEq, decide_false, hl, i0, off73_0, agg3, loadV_flat, cell_eq, hb, cellO_box, h1']
    refine loop_use (F := fun z => ∃ H' F', leaveR Try.prog [.tmp 2] (thenA (inBlockA 0 z) _) = some (.ret (.bool (!decide (ρ.blocks = 1))), H') ∧ RefAt H' b { ρ with blocks := ρ.blocks - 1, locals := trimL ρ.blocks ρ.locals } F' ∧ Upd H (RFoot b ls ys us) H' F') (rf_l38 (ρ := ρ) hn rfl) ρ.locals.length ⟨_, H, ls, ρ.locals, rfl, rfl, h, (Grown.refl hf).upd _, rfl, Nat.le_refl _, ?_, ?_⟩ ?_
    · simp only [List.length_set, hl]
    · simp (config := { decide := true }) only [rd_ne, ne_eq, i0]
    rintro x _ hx' ⟨rfl, tm, Hk, ls', loc, hloc, rfl, h, hu, ht, hle, hl, i0⟩
    have hb := h.box
    have hw : IntKind.i64.wrap ((ρ.blocks : Int) - 1) = ((ρ.blocks - 1 : Nat) : Int) := by rw [IntWalk.i64_in _ (by omega)]; omega
    obtain ⟨r1, r2⟩ := h.setL hu.fresh (ρ.blocks - 1) h.ol ((Grown.refl hu.fresh).upd _)
    rw [← hloc]
    refine ⟨Hk.set b (.box [.int .i64 (ρ.blocks - 1 : Nat), ls', ys, us, .int .i64 ρ.next] 73), _, ?_, ⟨ls', ys, us, r1, rfl⟩, hu.trans r2⟩
    simp (config := { decide := true }) only [evalList_plain, evalList_nil, nd_load, nd_store, nd_nilCheck, nd_binOp, nd_fieldAddr, ok_tmp, ok_const, cl_int, opA_load, opA_store, opA_nilCheck, opA_fieldAddr, opA_bin, contA_val, contA_skip, putT_some, putT_none, aev_tmp, aev_const, rd_same, rd_ne, List.length_set, valA_some, skipA_some, thenA_normal, inBlockA_exit, loadS_ptr, storeS_ptr, nilCheckS_ptr, fieldAddrS_eq, bin_sub, leaveR_ret, resA_tmp, resA_nil, List.getElem?_cons_zero, pack_one, Option.map_some, ne_eq, ↓reduceIte, Nat.reduceLT, Nat.reduceAdd, Nat.zero_add, decide_false, hl, i0, off73_0, agg3, info3, cells3, vc_int, fl_int, loadV_flat, storeV_flat, setCell_eq, setCellO_box, cell_eq, hb, cellO_box, hw, h1, Bool.not_false, Option.getD_none, List.set_cons_zero, List.length_cons, List.length_nil]

end Go.Proofs.Ytnjoaffnfjlcaaa
