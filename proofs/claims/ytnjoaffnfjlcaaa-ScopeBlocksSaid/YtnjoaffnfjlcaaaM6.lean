/-
  Joined by program out of Sc2, Sc3, Sc4, Ops9, Ops11, RowKitS.
-/
import Derived.Test.YtnjoaffnfjlcaaaM5
import Derived.Test.YtnjoaffnfjlcaaaM3
import Derived.Test.YtnjoaffnfjlcaaaRows
import Derived.ProofKit
import Derived.ChangeMaps5
namespace Go.Proofs.Ytnjoaffnfjlcaaa
open Go Go.Proofs B

structure Stp where
  kind : Int
  name : ByteArray
  ty : Int
  turns : Bool

def stpC (s : Stp) : List Value := [.int .i64 s.kind, .string s.name, .int .i64 s.ty, .bool s.turns]

/-- A slice of steps that may be read. -/
structure Scr (H : AHeap) (v : Value) (l : List Stp) : Prop where
  shape : ∃ a c, v = .slice a l.length c ∧ l.length ≤ c ∧ (0 < l.length → a.isSome = true)
  eok : 0 < l.length → ∀ e, H.elemOk (baseOf v).block e = true
  cells : ∀ i, i < l.length → H.readN (addA (baseOf v) (i * 4)) 4 = some (stpC (l.getD i ⟨0, ⟨#[]⟩, 0, false⟩))

theorem readN_grown {H0 H : AHeap} (hf : H0.Fresh) (g : Grown H0 H) : ∀ {n : Nat} {a : Addr} {vs : List Value}, H0.readN a n = some vs → H.readN a n = some vs
  | 0, _, _, h => h
  | n + 1, a, vs, h => by
    unfold AHeap.readN at h ⊢
    cases h1 : H0.cell a with
    | none => rw [h1] at h; simp at h
    | some v =>
      rw [h1] at h
      dsimp only at h
      have hc : H.cell a = some v := by
        unfold AHeap.cell AHeap.view at h1 ⊢
        cases hg : H0.get a.block with
        | none => rw [hg] at h1; simp at h1
        | some o =>
          rw [g.get _ (get_lt hf hg), hg]
          rw [hg] at h1; exact h1
      rw [hc]
      dsimp only
      cases h2 : H0.readN (addA a 1) n with
      | none => rw [h2] at h; simp at h
      | some us => rw [h2] at h; rw [readN_grown hf g h2]; exact h

theorem Scr.grown {H0 H : AHeap} (hf : H0.Fresh) (g : Grown H0 H) {v : Value} {l : List Stp} (h : Scr H0 v l) : Scr H v l :=
  ⟨h.shape, fun hl e => by
    have h1 := h.eok hl e
    unfold AHeap.elemOk AHeap.view at h1 ⊢
    cases hg : H0.get (baseOf v).block with
    | none => rw [hg] at h1; simp at h1
    | some o => rw [g.get _ (get_lt hf hg), hg]; rw [hg] at h1; exact h1, fun i hi => readN_grown hf g (h.cells i hi)⟩

def stp0 : Stp := ⟨0, ⟨#[]⟩, 0, false⟩

/-- One step, cut out. -/
theorem Scr.one {H : AHeap} {v : Value} {l : List Stp} (h : Scr H v l) {i : Nat} (hi : i < l.length) {t e : TypeId} {inf : TypeInfo} (ht : sliceInfo Try.prog t = some (inf, e)) (hsz : inf.size = 4) (H2 : AHeap) (h2 : ∀ e, H2.elemOk (baseOf v).block e = true) :
    ∃ v', sliceS Try.prog H2 t v (some (.int .i64 i)) (some (.int .i64 ((i : Int) + 1))) = some (.val v' H2) ∧ Scr H v' [l.getD i ⟨0, ⟨#[]⟩, 0, false⟩] ∧ (baseOf v').block = (baseOf v).block := by
  obtain ⟨a, c, hv, hle, ha⟩ := h.shape
  obtain ⟨a, rfl⟩ := Option.isSome_iff_exists.1 (ha (by omega))
  have hc := h.cells i hi
  have ho := h.eok (by omega)
  subst hv
  have hcap : i + 1 ≤ c := by omega
  · refine ⟨.slice (some (addA a (i * 4))) 1 (c - i), ?_, ⟨⟨_, _, rfl, by show 1 ≤ c - i; omega, fun _ => rfl⟩, fun _ e => ho e, fun j hj => ?_⟩, rfl⟩
    · unfold sliceS
      rw [ht]
      dsimp only
      unfold sliceOf boundOf
      have e1 : (if (0 : Int) ≤ (i : Int) then some ((i : Int)).toNat else none) = some i := by rw [if_pos (by omega)]; simp
      have e2 : (if (0 : Int) ≤ (i : Int) + 1 then some ((i : Int) + 1).toNat else none) = some (i + 1) := by rw [if_pos (by omega)]; congr 1
      try dsimp only
      rw [e1, e2]
      try dsimp only
      rw [if_pos ⟨by omega, hcap⟩, hsz]
      try dsimp only
      rw [if_pos (.inr (h2 _)), Nat.add_sub_cancel_left]
      rfl
    · simp only [List.length_cons, List.length_nil] at hj
      obtain rfl : j = 0 := by omega
      show H.readN (addA (addA a (i * 4)) (0 * 4)) 4 = _
      rw [addA_add]
      exact hc

/-- A scope made since H0. -/
def St0 (H0 H : AHeap) (b : Nat) (σ : Sc) : Prop := Grown H0 H ∧ ∃ F, ScopeAt H b σ F ∧ ∀ j, F j → H0.next ≤ j

variable {H0 H H' : AHeap} {b : Nat} {σ σ' : Sc}

theorem St0.upd (h : Grown H0 H) {F F' : Nat → Prop} (hF : ∀ j, F j → H0.next ≤ j) (u : Upd H F H' F') (h' : ScopeAt H' b σ' F') : St0 H0 H' b σ' := by
  refine ⟨⟨fun j hj => ?_, Nat.le_trans h.next u.next, u.fresh⟩, F', h', fun j hj => ?_⟩
  · rw [u.frame j (fun e => by have := hF j e; omega) (Nat.lt_of_lt_of_le hj h.next)]; exact h.get j hj
  · rcases u.foot j hj with e | e
    · exact hF j e
    · exact Nat.le_trans h.next e

theorem St0.grow (h : St0 H0 H b σ) (g : Grown H H') : St0 H0 H' b σ := by
  obtain ⟨h1, F, h2, h3⟩ := h
  exact ⟨h1.trans g, F, h2.grown h1.fresh g, h3⟩

/-- A scope since Hs, where it stood in F0. -/
def USt (Hs : AHeap) (F0 : Nat → Prop) (H : AHeap) (b : Nat) (σ : Sc) : Prop := ∃ F, ScopeAt H b σ F ∧ Upd Hs F0 H F

theorem USt.grow {Hs : AHeap} {F0 : Nat → Prop} (h : USt Hs F0 H b σ) (g : Grown H H') : USt Hs F0 H' b σ := by
  obtain ⟨F, h1, h2⟩ := h
  exact ⟨F, h1.grown h2.fresh g, h2.trans (g.upd F)⟩
theorem USt.fresh {Hs : AHeap} {F0 : Nat → Prop} (h : USt Hs F0 H b σ) : H.Fresh := by
  obtain ⟨F, h1, h2⟩ := h
  exact h2.fresh

theorem Scr.blk_lt {v : Value} {l : List Stp} (h : Scr H v l) (hf : H.Fresh) (hl : 0 < l.length) : (baseOf v).block < H.next := by
  have h1 := h.eok hl 0
  unfold AHeap.elemOk AHeap.view at h1
  cases hg : H.get (baseOf v).block with
  | none => rw [hg] at h1; simp at h1
  | some o => exact get_lt hf hg

theorem readN_get2 {a : Addr} (hb : H'.get a.block = H.get a.block) : ∀ {n : Nat} {o : Nat}, H'.readN (addA a o) n = H.readN (addA a o) n
  | 0, _ => rfl
  | n + 1, o => by
    unfold AHeap.readN
    have hc : H'.cell (addA a o) = H.cell (addA a o) := by
      unfold AHeap.cell AHeap.view
      rw [show (addA a o).block = a.block from rfl, hb]
    rw [hc]
    cases H.cell (addA a o) with
    | none => rfl
    | some v => dsimp only; rw [addA_add, readN_get2 hb]

theorem Scr.upd {Hs : AHeap} {F0 : Nat → Prop} {v : Value} {l : List Stp} (h : Scr Hs v l) (hf : Hs.Fresh) (hd : 0 < l.length → ¬ F0 (baseOf v).block) (u : USt Hs F0 H b σ) : Scr H v l := by
  obtain ⟨F, _, u⟩ := u
  have hb : 0 < l.length → H.get (baseOf v).block = Hs.get (baseOf v).block := fun hl => u.frame _ (hd hl) (h.blk_lt hf hl)
  refine ⟨h.shape, fun hl e => ?_, fun i hi => ?_⟩
  · have h1 := h.eok hl e
    unfold AHeap.elemOk AHeap.view at h1 ⊢
    rw [hb hl]; exact h1
  · rw [readN_get2 (hb (by omega))]; exact h.cells i hi

/-- How large a state may be, and what holds of it. -/
structure Sc.wf (σ : Sc) (n : Nat) : Prop where
  pos : 0 < σ.blocks.length
  bl : σ.blocks.length ≤ n + 1
  tl : σ.turns.length ≤ n
  yl : σ.types.length ≤ n
  nx : σ.next ≤ n
  ok : σ.ok
  y256 : σ.types.length ≤ 256

theorem Sc.wf.up {n m : Nat} (h : σ.wf n) (hm : n ≤ m) : σ.wf m := ⟨h.pos, by have := h.bl; omega, by have := h.tl; omega, by have := h.yl; omega, by have := h.nx; omega, h.ok, h.y256⟩

theorem wf_open {n : Nat} (h : σ.wf n) : σ.open'.wf (n + 1) := by
  refine ⟨?_, ?_, Nat.le_succ_of_le h.tl, Nat.le_succ_of_le h.yl, Nat.le_succ_of_le h.nx, ?_, h.y256⟩
  · simp [Sc.open']
  · simp [Sc.open']; exact h.bl
  · intro m hm p hp
    simp only [Sc.open', List.mem_append, List.mem_singleton] at hm
    rcases hm with hm | rfl
    · exact h.ok m hm p hp
    · simp at hp

theorem wf_close {n : Nat} (h : σ.wf n) : σ.close.wf n := by
  unfold Sc.close
  split
  · exact h
  · rename_i hlt
    refine ⟨?_, ?_, h.tl, h.yl, h.nx, fun m hm => h.ok m (List.mem_of_mem_take hm), h.y256⟩
    · simp; omega
    · simp; have := h.bl; omega

theorem wf_leave {n : Nat} (h : σ.wf n) : σ.leave.wf n := by
  unfold Sc.leave
  split
  · exact h
  · exact ⟨h.pos, h.bl, by simp; have := h.tl; omega, h.yl, h.nx, h.ok, h.y256⟩

theorem wf_enter {n : Nat} (h : σ.wf n) (nm : ByteArray) (tn : Bool) : (σ.enter nm tn).wf (n + 1) := by
  unfold Sc.enter
  split
  · exact h.up (Nat.le_succ _)
  · exact ⟨h.pos, Nat.le_succ_of_le h.bl, by simp; exact h.tl, Nat.le_succ_of_le h.yl, by simp; exact h.nx, h.ok, h.y256⟩

theorem wf_decl {n : Nat} (h : σ.wf n) (nm : ByteArray) (ty : Int) : (σ.decl nm ty).wf (n + 1) := by
  unfold Sc.decl
  split
  · rename_i he
    have h256 : σ.types.length ≠ 256 := by
      intro e
      unfold Sc.declErr at he
      split at he
      · simp at he
      · first | (simp at he; done) | (rw [if_pos e] at he; simp at he)
    have := h.y256
    refine ⟨?_, ?_, Nat.le_succ_of_le h.tl, ?_, Nat.le_succ_of_le h.nx, ?_, ?_⟩
    · simp
    · simp; have := h.bl; omega
    · simp; exact h.yl
    · intro m hm p hp
      simp only [List.mem_append, List.mem_singleton] at hm
      simp only [List.length_append, List.length_cons, List.length_nil]
      rcases hm with hm | rfl
      · have := h.ok m (List.mem_of_mem_take hm) p hp; omega
      · simp only [List.mem_append, List.mem_singleton] at hp
        rcases hp with hp | rfl
        · have ht : σ.top ∈ σ.blocks := by
            unfold Sc.top
            have := h.pos
            rw [List.getD_eq_getElem?_getD, List.getElem?_eq_getElem (by omega)]
            exact List.getElem_mem _
          have := h.ok _ ht p hp; omega
        · show σ.types.length < _; omega
    · simp; omega
  · exact h.up (Nat.le_succ _)

theorem wf_sc0 : sc0.wf 0 := by
  refine ⟨by decide, by decide, by decide, by decide, by decide, ?_, by decide⟩
  show ∀ m ∈ sc0.blocks, ∀ p ∈ m, p.2 < sc0.types.length
  decide

/-- A step of 'run'. -/
def runS (σ : Sc) (s : Stp) : Sc :=
  if s.kind % 6 = 0 then σ.open' else if s.kind % 6 = 1 then σ.close else if s.kind % 6 = 2 then σ.decl s.name s.ty else if s.kind % 6 = 4 then σ.enter s.name s.turns else if s.kind % 6 = 5 then σ.leave else σ
/-- The blocks and turns that it opens. -/
def runB (σ : Sc) (s : Stp) : Int := if s.kind % 6 = 0 then 1 else if s.kind % 6 = 1 then (if 1 < σ.blocks.length then -1 else 0) else 0
def runT (σ : Sc) (s : Stp) : Int := if s.kind % 6 = 4 then (if σ.twice s.name then 0 else 1) else if s.kind % 6 = 5 then (if 0 < σ.turns.length then -1 else 0) else 0
def runL (σ : Sc) (l : List Stp) : Sc := l.foldl runS σ
def runLB : Sc → List Stp → Int
  | _, [] => 0
  | σ, s :: l => runB σ s + runLB (runS σ s) l
def runLT : Sc → List Stp → Int
  | _, [] => 0
  | σ, s :: l => runT σ s + runLT (runS σ s) l

theorem wf_runS {n : Nat} (h : σ.wf n) (s : Stp) : (runS σ s).wf (n + 1) := by
  unfold runS
  split
  · exact wf_open h
  · split
    · exact (wf_close h).up (Nat.le_succ _)
    · split
      · exact wf_decl h _ _
      · split
        · exact wf_enter h _ _
        · split
          · exact (wf_leave h).up (Nat.le_succ _)
          · exact h.up (Nat.le_succ _)

theorem wf_runL : ∀ (l : List Stp) {σ : Sc} {n : Nat}, σ.wf n → (runL σ l).wf (n + l.length)
  | [], _, _, h => h
  | s :: l, _, n, h => by
    have := wf_runL l (wf_runS h s)
    rw [List.length_cons, show n + (l.length + 1) = n + 1 + l.length by omega]
    exact this

end Go.Proofs.Ytnjoaffnfjlcaaa

namespace Go.Proofs.Ytnjoaffnfjlcaaa
open Go Go.Proofs B

variable {σ : Sc}

theorem lookN_snoc {m : Blk} {k : ByteArray} {n : Nat} (h : lookN m k = none) : lookN (m ++ [(k, n)]) k = some n := by
  induction m with
  | nil => simp [lookN]
  | cons p l ih =>
    unfold lookN at h
    split at h
    · simp at h
    · rename_i hk
      rw [List.cons_append]
      unfold lookN
      rw [if_neg hk]; exact ih h

theorem declErr_zero {nm : ByteArray} (h : σ.declErr nm = 0) : lookN σ.top nm = none ∧ σ.types.length ≠ 256 := by
  unfold Sc.declErr at h
  split at h
  · simp at h
  · rename_i hl
    split at h
    · simp at h
    · rename_i h2
      exact ⟨by simpa using hl, h2⟩

theorem find_decl {nm : ByteArray} {ty : Int} (h : σ.declErr nm = 0) (hp : 0 < σ.blocks.length) : (σ.decl nm ty).find nm = some σ.types.length ∧ (σ.decl nm ty).types.getD σ.types.length 0 = ty := by
  obtain ⟨h1, h2⟩ := declErr_zero h
  obtain ⟨m, hm⟩ : ∃ m, σ.blocks.length = m + 1 := ⟨σ.blocks.length - 1, by omega⟩
  have hD : σ.decl nm ty = { σ with blocks := σ.blocks.take m ++ [σ.top ++ [(nm, σ.types.length)]], types := σ.types ++ [ty] } := by
    unfold Sc.decl; rw [if_pos h, hm]; rfl
  rw [hD]
  have hget : (σ.blocks.take m ++ [σ.top ++ [(nm, σ.types.length)]]).getD m [] = σ.top ++ [(nm, σ.types.length)] := by
    rw [List.getD_eq_getElem?_getD, List.getElem?_append_right (by simp; omega)]
    simp [hm]
  have hlen : (σ.blocks.take m ++ [σ.top ++ [(nm, σ.types.length)]]).length = m + 1 := by simp [hm]
  refine ⟨?_, ?_⟩
  · unfold Sc.find Sc.findAt
    dsimp only
    rw [hlen, lastI_succ, hget, lookN_snoc h1, if_pos (by rfl), Option.bind_some, hget, lookN_snoc h1]
  · dsimp only
    rw [List.getD_eq_getElem?_getD, List.getElem?_append_right (Nat.le_refl _)]
    simp

theorem target_enter {nm : ByteArray} {tn : Bool} (h : σ.twice nm = false) : (σ.enter nm tn).target ⟨#[]⟩ false = some σ.next ∧ (σ.enter nm tn).target nm false = some σ.next := by
  have hE : σ.enter nm tn = { σ with turns := σ.turns ++ [⟨nm, tn, σ.next⟩], next := σ.next + 1 } := by unfold Sc.enter; rw [h]; rfl
  rw [hE]
  have hget : (σ.turns ++ [(⟨nm, tn, σ.next⟩ : Trn)]).getD σ.turns.length noTrn = ⟨nm, tn, σ.next⟩ := by
    rw [List.getD_eq_getElem?_getD, List.getElem?_append_right (Nat.le_refl _)]; simp
  have hlen : (σ.turns ++ [(⟨nm, tn, σ.next⟩ : Trn)]).length = σ.turns.length + 1 := by simp
  constructor
  · unfold Sc.target Sc.targetAt
    dsimp only
    rw [hlen, lastI_succ, hget, if_pos (by simp [tMatch]), Option.map_some, hget]
  · unfold Sc.target Sc.targetAt
    dsimp only
    rw [hlen, lastI_succ, hget, if_pos (by simp [tMatch]), Option.map_some, hget]

end Go.Proofs.Ytnjoaffnfjlcaaa

namespace Go.Proofs.Ytnjoaffnfjlcaaa
open Go Go.Proofs B

/-- σ is σ0 with so many blocks and turns more, and types. -/
structure Within (σ0 σ : Sc) (nb nt : Nat) : Prop where
  bl : σ.blocks.take σ0.blocks.length = σ0.blocks
  bn : σ.blocks.length = σ0.blocks.length + nb
  tl : σ.turns.take σ0.turns.length = σ0.turns
  tn : σ.turns.length = σ0.turns.length + nt
  yl : σ.types.take σ0.types.length = σ0.types
  yn : σ0.types.length ≤ σ.types.length

variable {σ0 σ : Sc} {nb nt : Nat}

theorem Within.refl (σ : Sc) : Within σ σ 0 0 := ⟨by simp, by simp, by simp, by simp, by simp, Nat.le_refl _⟩

theorem Within.open (h : Within σ0 σ nb nt) : Within σ0 σ.open' (nb + 1) nt := by
  refine ⟨?_, ?_, h.tl, h.tn, h.yl, h.yn⟩
  · simp only [Sc.open']; rw [List.take_append_of_le_length (by rw [h.bn]; omega)]; exact h.bl
  · simp [Sc.open', h.bn]; omega

theorem Within.close (h : Within σ0 σ (nb + 1) nt) (hp : 0 < σ0.blocks.length) : Within σ0 σ.close nb nt ∧ 1 < σ.blocks.length := by
  have hlt : 1 < σ.blocks.length := by rw [h.bn]; omega
  have hc : σ.close = { σ with blocks := σ.blocks.take (σ.blocks.length - 1) } := by unfold Sc.close; rw [if_neg (by omega)]
  rw [hc]
  refine ⟨⟨?_, ?_, h.tl, h.tn, h.yl, h.yn⟩, hlt⟩
  · dsimp only; rw [List.take_take, Nat.min_eq_left (by rw [h.bn]; omega)]; exact h.bl
  · dsimp only; rw [List.length_take, h.bn]; omega

theorem Within.leave (h : Within σ0 σ nb (nt + 1)) : Within σ0 σ.leave nb nt ∧ 0 < σ.turns.length := by
  have hlt : 0 < σ.turns.length := by rw [h.tn]; omega
  have hc : σ.leave = { σ with turns := σ.turns.take (σ.turns.length - 1) } := by unfold Sc.leave; rw [if_neg (by omega)]
  rw [hc]
  refine ⟨⟨h.bl, h.bn, ?_, ?_, h.yl, h.yn⟩, hlt⟩
  · dsimp only; rw [List.take_take, Nat.min_eq_left (by rw [h.tn]; omega)]; exact h.tl
  · dsimp only; rw [List.length_take, h.tn]; omega

theorem Within.enter (h : Within σ0 σ nb nt) (nm : ByteArray) (tn : Bool) (ht : σ.twice nm = false) : Within σ0 (σ.enter nm tn) nb (nt + 1) := by
  unfold Sc.enter
  rw [if_neg (by rw [ht]; simp)]
  refine ⟨h.bl, h.bn, ?_, ?_, h.yl, h.yn⟩
  · dsimp only; rw [List.take_append_of_le_length (by rw [h.tn]; omega)]; exact h.tl
  · simp [h.tn]; omega

theorem Within.decl (h : Within σ0 σ (nb + 1) nt) (nm : ByteArray) (ty : Int) : Within σ0 (σ.decl nm ty) (nb + 1) nt := by
  unfold Sc.decl
  split
  · refine ⟨?_, ?_, h.tl, h.tn, ?_, ?_⟩
    · dsimp only
      rw [List.take_append_of_le_length (by rw [List.length_take, h.bn]; omega), List.take_take, Nat.min_eq_left (by rw [h.bn]; omega)]
      exact h.bl
    · simp [h.bn]; omega
    · dsimp only; rw [List.take_append_of_le_length h.yn]; exact h.yl
    · simp; have := h.yn; omega
  · exact h

/-- A call of a script, but none that closes or leaves what was there. -/
theorem Within.step (h : Within σ0 σ (nb + 1) (nt + 1)) (hp : 0 < σ0.blocks.length) (s : Stp) (h1 : ¬ (s.kind % 6 = 1 ∧ nb = 0)) (h5 : ¬ (s.kind % 6 = 5 ∧ nt = 0)) :
    ∃ nb' nt' : Nat, Within σ0 (runS σ s) (nb' + 1) (nt' + 1) ∧ (nb' : Int) = nb + runB σ s ∧ (nt' : Int) = nt + runT σ s := by
  by_cases k0 : s.kind % 6 = 0
  · exact ⟨nb + 1, nt, by unfold runS; rw [if_pos k0]; exact h.open, by unfold runB; rw [if_pos k0]; omega, by unfold runT; simp [k0]⟩
  by_cases k1 : s.kind % 6 = 1
  · obtain ⟨m, rfl⟩ : ∃ m, nb = m + 1 := ⟨nb - 1, by have : nb ≠ 0 := fun e => h1 ⟨k1, e⟩; omega⟩
    obtain ⟨g1, g2⟩ := h.close hp
    exact ⟨m, nt, by unfold runS; rw [if_neg k0, if_pos k1]; exact g1, by unfold runB; rw [if_neg k0, if_pos k1, if_pos g2]; omega, by unfold runT; simp [k1]⟩
  by_cases k2 : s.kind % 6 = 2
  · exact ⟨nb, nt, by unfold runS; rw [if_neg k0, if_neg k1, if_pos k2]; exact h.decl _ _, by unfold runB; simp [k2], by unfold runT; simp [k2]⟩
  by_cases k4 : s.kind % 6 = 4
  · cases ht : σ.twice s.name with
    | false => exact ⟨nb, nt + 1, by unfold runS; rw [if_neg k0, if_neg k1, if_neg k2, if_pos k4]; exact h.enter _ _ ht, by unfold runB; simp [k4], by unfold runT; simp [k4, ht]⟩
    | true => exact ⟨nb, nt, by unfold runS Sc.enter; rw [if_neg k0, if_neg k1, if_neg k2, if_pos k4, if_pos ht]; exact h, by unfold runB; simp [k4], by unfold runT; simp [k4, ht]⟩
  by_cases k5 : s.kind % 6 = 5
  · obtain ⟨m, rfl⟩ : ∃ m, nt = m + 1 := ⟨nt - 1, by have : nt ≠ 0 := fun e => h5 ⟨k5, e⟩; omega⟩
    obtain ⟨g1, g2⟩ := h.leave
    exact ⟨nb, m, by unfold runS; rw [if_neg k0, if_neg k1, if_neg k2, if_neg k4, if_pos k5]; exact g1, by unfold runB; simp [k5], by unfold runT; rw [if_neg k4, if_pos k5, if_pos g2]; omega⟩
  · exact ⟨nb, nt, by unfold runS; rw [if_neg k0, if_neg k1, if_neg k2, if_neg k4, if_neg k5]; exact h, by unfold runB; simp [k0, k1], by unfold runT; simp [k4, k5]⟩

/-- All closed and left: names and labels mean what they meant. -/
theorem Within.same (h : Within σ0 σ 0 0) (hok : σ0.ok) (nm lb : ByteArray) (tn : Bool) : findV σ nm = findV σ0 nm ∧ targV σ lb tn = targV σ0 lb tn := by
  have hb : σ.blocks = σ0.blocks := by have := h.bl; rw [List.take_of_length_le (by rw [h.bn]; omega)] at this; exact this
  have ht : σ.turns = σ0.turns := by have := h.tl; rw [List.take_of_length_le (by rw [h.tn]; omega)] at this; exact this
  constructor
  · have hf : σ.find nm = σ0.find nm := by unfold Sc.find Sc.findAt; rw [hb]
    unfold findV
    rw [hf]
    cases hq : σ0.find nm with
    | none => rfl
    | some k =>
      have hk : k < σ0.types.length := by
        unfold Sc.find at hq
        rw [Option.bind_eq_some_iff] at hq
        obtain ⟨i, h1, h2⟩ := hq
        obtain ⟨hi, _, _⟩ := lastI_some h1
        exact hok _ (by rw [List.getD_eq_getElem?_getD, List.getElem?_eq_getElem hi]; exact List.getElem_mem hi) _ (lookN_mem h2)
      dsimp only
      have : σ.types.getD k 0 = σ0.types.getD k 0 := by
        rw [← h.yl, List.getD_eq_getElem?_getD, List.getD_eq_getElem?_getD, List.getElem?_take_of_lt hk]
      rw [this]
  · unfold targV Sc.target Sc.targetAt
    rw [ht]

end Go.Proofs.Ytnjoaffnfjlcaaa

namespace Go.Proofs.Ytnjoaffnfjlcaaa
open Go Go.Proofs B
set_option linter.unusedSimpArgs false


theorem tmod_lt {x : Int} {n : Int} (hn : 0 < n) : -n < x.tmod n ∧ x.tmod n < n := by
  have h1 := Int.tmod_lt_of_pos x hn
  have h2 := Int.lt_tmod_of_pos x hn
  omega
theorem tmod_emod {x : Int} {n : Int} (hn : 0 < n) : (if x.tmod n < 0 then x.tmod n + n else x.tmod n) = x % n := by
  have h1 := Int.tmod_eq_emod (a := x) (b := n)
  have h2 := Int.emod_nonneg x (show n ≠ 0 by omega)
  have h3 := Int.emod_lt_of_pos x hn
  have h4 : (n.natAbs : Int) = n := by omega
  split at h1
  · rw [if_neg (by omega)]; omega
  · rw [if_pos (by omega)]; omega

theorem pick16 {ext : CallT} (hx : ∀ f args H, f ≠ 22 → ext f args H = none) {H : AHeap} {x n : Int} (hn : 0 < n) (hn2 : n < 1000) : theCall Try.prog ext 16 [.int .i64 x, .int .i64 n] H = some (.ret (.int .i64 (x % n)), H) := by
  have h1 : ¬ (n < 1) := by omega
  have h2 := tmod_lt (x := x) hn
  have h3 := tmod_emod (x := x) hn
  have hrem := fun (x' y' : Operand) => bin_rem (P := Try.prog) (H := H) (t := 3) (x := x') (y := y') (k := .i64) (a := x) (b := n) (by omega)
  refine theCall_run (hx _ _ _ (by decide)) Try.func16 (rs := [.tmp 4]) rfl rfl rfl (by simp) fun tm hl hi => ?_
  replace hl : tm.length = 17 := hl
  have i0 := hi 0
  have i1 := hi 1
  simp only [List.getD_cons_zero, List.getD_cons_succ] at i0 i1
  by_cases hneg : x.tmod n < 0
  · rw [if_pos hneg] at h3
    have hw : IntKind.i64.wrap (x.tmod n + n) = x % n := by rw [IntWalk.i64_in _ (by omega), h3]
    simp (config := { decide := true }) only [theCode_seq, theCode_list, theCode_skip, theCode_ret, theCode_exit, theCode_label, theCode_block, theCode_if, evalList_plain, evalList_guard, evalList_nil, nd_move, nd_assign, nd_pick, nd_alloc, nd_box, nd_build, nd_buildSlice, nd_load, nd_store, nd_nilCheck, nd_binOp, nd_unOp, nd_convert, nd_makeInterface, nd_makeFunc, nd_makeMap, nd_slice, nd_fieldAddr, nd_field, nd_indexAddr, nd_index, nd_lookup, nd_mapUpdate, nd_typeAssert, nd_extract, nd_call, nd_panic,
    ok_tmp, ok_const, ok_func, cl_int, cl_bool, cl_string, cl_ptr, cl_map, cl_nilFunc, cl_nilIface, cl_slice, opA_move, opA_assign, opA_pick, opA_load, opA_store, opA_nilCheck, opA_fieldAddr, opA_extract, opA_bin, opA_un, opA_call, opA_call0, opA_build0, opA_len, opA_appendS, opA_makeMap, opA_indexAddr, opA_sliceHi, opA_sliceLo, opA_sliceLH, opA_lookup, opA_mapUpdate, opA_build, opA_box, opA_alloc, opA_makeFunc0, opA_makeFunc00,
    contA_val, contA_skip, contA_enter, contA_panic, contA_ite, callA_ret, callA_panic, callA_ite, putT_some, putT_none, aev_tmp, aev_const, aev_func, rd_same, rd_ne, List.length_set, valA_some, skipA_some, pairA_some,
    thenA_normal, thenA_ret, thenA_exit, thenA_panic, thenA_ite, inBlockA_normal, inBlockA_ret, inBlockA_exit, inBlockA_panic, inBlockA_ite, boolOf_bool, loadS_ptr, storeS_ptr, nilCheckS_ptr, nilCheckS_func, fieldAddrS_eq, extractS_tuple, un_not,
    bin_lss, bin_leq, bin_gtr, bin_geq, bin_eql, bin_neq, bin_add, bin_sub, bin_mul, bin_seql, bin_sneq, bin_ptr_eql, bin_ptr_neq, bin_nil_eql, bin_nil_neq, callS_plain, callS_func, lenS_slice, leaveR_ite, leaveR_ret, leaveR_normal, leaveR_panic, resA_tmp, resA_nil, yieldA_S, slotAt_succ, slotAt_zero, yieldS_some, List.getElem?_toArray, List.getElem?_cons_zero, List.getElem?_cons_succ, resA_cell, cellRes_ptr, Option.bind_some, theCode_rangeS, rangeS_cap, callS_cap, roundA_M, roundM_ready, roundB_N, roundB_R, roundB_E, roundN_none, roundN_some, rangeEnd_M, rangeM_ready, rangeM_ret, setAll_nil, setAll_cons, pack_one, pack_two, pack_none,
    Option.map_some, Option.isSome_some, ne_eq, not_false_eq_true, Nat.reduceEqDiff, Nat.reduceLT, if_true, if_false, Nat.reduceAdd, Nat.add_zero, Nat.zero_add, Option.some.injEq, decide_eq_true_eq, List.map_cons, List.map_nil, List.all_cons, List.all_nil, Bool.and_true, List.nil_append, List.append_nil, List.cons_append,
      hl, i0, i1, h1, hrem, hneg, hw, Bool.false_eq_true]
  · rw [if_neg hneg] at h3
    simp (config := { decide := true }) only [theCode_seq, theCode_list, theCode_skip, theCode_ret, theCode_exit, theCode_label, theCode_block, theCode_if, evalList_plain, evalList_guard, evalList_nil, nd_move, nd_assign, nd_pick, nd_alloc, nd_box, nd_build, nd_buildSlice, nd_load, nd_store, nd_nilCheck, nd_binOp, nd_unOp, nd_convert, nd_makeInterface, nd_makeFunc, nd_makeMap, nd_slice, nd_fieldAddr, nd_field, nd_indexAddr, nd_index, nd_lookup, nd_mapUpdate, nd_typeAssert, nd_extract, nd_call, nd_panic,
    ok_tmp, ok_const, ok_func, cl_int, cl_bool, cl_string, cl_ptr, cl_map, cl_nilFunc, cl_nilIface, cl_slice, opA_move, opA_assign, opA_pick, opA_load, opA_store, opA_nilCheck, opA_fieldAddr, opA_extract, opA_bin, opA_un, opA_call, opA_call0, opA_build0, opA_len, opA_appendS, opA_makeMap, opA_indexAddr, opA_sliceHi, opA_sliceLo, opA_sliceLH, opA_lookup, opA_mapUpdate, opA_build, opA_box, opA_alloc, opA_makeFunc0, opA_makeFunc00,
    contA_val, contA_skip, contA_enter, contA_panic, contA_ite, callA_ret, callA_panic, callA_ite, putT_some, putT_none, aev_tmp, aev_const, aev_func, rd_same, rd_ne, List.length_set, valA_some, skipA_some, pairA_some,
    thenA_normal, thenA_ret, thenA_exit, thenA_panic, thenA_ite, inBlockA_normal, inBlockA_ret, inBlockA_exit, inBlockA_panic, inBlockA_ite, boolOf_bool, loadS_ptr, storeS_ptr, nilCheckS_ptr, nilCheckS_func, fieldAddrS_eq, extractS_tuple, un_not,
    bin_lss, bin_leq, bin_gtr, bin_geq, bin_eql, bin_neq, bin_add, bin_sub, bin_mul, bin_seql, bin_sneq, bin_ptr_eql, bin_ptr_neq, bin_nil_eql, bin_nil_neq, callS_plain, callS_func, lenS_slice, leaveR_ite, leaveR_ret, leaveR_normal, leaveR_panic, resA_tmp, resA_nil, yieldA_S, slotAt_succ, slotAt_zero, yieldS_some, List.getElem?_toArray, List.getElem?_cons_zero, List.getElem?_cons_succ, resA_cell, cellRes_ptr, Option.bind_some, theCode_rangeS, rangeS_cap, callS_cap, roundA_M, roundM_ready, roundB_N, roundB_R, roundB_E, roundN_none, roundN_some, rangeEnd_M, rangeM_ready, rangeM_ret, setAll_nil, setAll_cons, pack_one, pack_two, pack_none,
    Option.map_some, Option.isSome_some, ne_eq, not_false_eq_true, Nat.reduceEqDiff, Nat.reduceLT, if_true, if_false, Nat.reduceAdd, Nat.add_zero, Nat.zero_add, Option.some.injEq, decide_eq_true_eq, List.map_cons, List.map_nil, List.all_cons, List.all_nil, Bool.and_true, List.nil_append, List.append_nil, List.cons_append,
      hl, i0, i1, h1, hrem, hneg, Bool.false_eq_true]
    rw [h3]


theorem zf38 : zeroOf Try.prog 38 = some (.agg #[.int .i64 0, .string ⟨#[]⟩, .int .i64 0, .bool false]) := by unfold zeroOf; rw [inf38]; rfl

theorem runLB_le : ∀ (l : List Stp) (σ : Sc), -(l.length : Int) ≤ runLB σ l ∧ runLB σ l ≤ l.length
  | [], σ => by simp [runLB]
  | s :: l, σ => by
    have h := runLB_le l (runS σ s)
    have h1 : -1 ≤ runB σ s ∧ runB σ s ≤ 1 := by unfold runB; split <;> (try split) <;> (try split) <;> omega
    simp only [runLB, List.length_cons]; omega
theorem runLT_le : ∀ (l : List Stp) (σ : Sc), -(l.length : Int) ≤ runLT σ l ∧ runLT σ l ≤ l.length
  | [], σ => by simp [runLT]
  | s :: l, σ => by
    have h := runLT_le l (runS σ s)
    have h1 : -1 ≤ runT σ s ∧ runT σ s ≤ 1 := by unfold runT; split <;> (try split) <;> (try split) <;> omega
    simp only [runLT, List.length_cons]; omega
theorem runLB_snoc : ∀ (l : List Stp) (σ : Sc) (s : Stp), runLB σ (l ++ [s]) = runLB σ l + runB (runL σ l) s
  | [], σ, s => by simp [runLB, runL]
  | t :: l, σ, s => by simp only [List.cons_append, runLB, runLB_snoc l, runL, List.foldl_cons]; omega
theorem runLT_snoc : ∀ (l : List Stp) (σ : Sc) (s : Stp), runLT σ (l ++ [s]) = runLT σ l + runT (runL σ l) s
  | [], σ, s => by simp [runLT, runL]
  | t :: l, σ, s => by simp only [List.cons_append, runLT, runLT_snoc l, runL, List.foldl_cons]; omega
theorem runL_snoc (l : List Stp) (σ : Sc) (s : Stp) : runL σ (l ++ [s]) = runS (runL σ l) s := by simp [runL]

theorem Scr.len {H : AHeap} {v : Value} {l : List Stp} (h : Scr H v l) (H2 : AHeap) : lenS Try.prog H2 22 v = some (.val (.int .i64 l.length) H2) := by
  obtain ⟨a, c, rfl, _, _⟩ := h.shape
  cases a <;> exact lenS_slice isl22
theorem Scr.index {H : AHeap} {v : Value} {l : List Stp} (h : Scr H v l) {i : Nat} (hi : i < l.length) (H2 : AHeap) : indexAddrS Try.prog H2 22 v (.int .i64 i) = some (.val (.pointer (some (addA (baseOf v) (i * 4)))) H2) := by
  obtain ⟨a, c, rfl, _, ha⟩ := h.shape
  obtain ⟨a, rfl⟩ := Option.isSome_iff_exists.1 (ha (by omega))
  rw [indexAddrS_of ⟨by omega, by omega⟩, es22, Int.toNat_natCast]
  rfl

set_option maxHeartbeats 2000000 in
theorem run9 {ext : CallT} (hx : ∀ f args H, f ≠ 22 → ext f args H = none) {Hs : AHeap} (hf0 : Hs.Fresh) {b : Nat} {σ : Sc} {n : Nat} {F0 : Nat → Prop} (h : ScopeAt Hs b σ F0) (hw : σ.wf n) {v : Value} {l : List Stp} (hs : Scr Hs v l) (hd : 0 < l.length → ¬ F0 (baseOf v).block) (hn : n + l.length < 100000) :
    ∃ H', theCall Try.prog ext 9 [.pointer (some ⟨b, 0, none⟩), v] Hs = some (.ret (.tuple #[.int .i64 (1 + runLB σ l), .int .i64 (runLT σ l)]), H') ∧ USt Hs F0 H' b (runL σ l) := by
  refine theCall_goal (F := fun z => ∃ H', z = some (.ret (.tuple #[.int .i64 (1 + runLB σ l), .int .i64 (runLT σ l)]), H') ∧ USt Hs F0 H' b (runL σ l)) (hx _ _ _ (by decide)) Try.func9 (rs := [.tmp 4, .tmp 5]) rfl rfl rfl (by simp) fun tm hl hi => ?_
  replace hl : tm.length = 68 := hl
  have i0 := hi 0
  have i1 := hi 1
  simp only [List.getD_cons_zero, List.getD_cons_succ] at i0 i1
  simp (config := { decide := true }) only [theCode_seq, theCode_list, theCode_skip, theCode_ret, theCode_exit, theCode_label, theCode_block, theCode_if, evalList_plain, evalList_guard, evalList_nil, nd_move, nd_assign, nd_pick, nd_alloc, nd_box, nd_build, nd_buildSlice, nd_load, nd_store, nd_nilCheck, nd_binOp, nd_unOp, nd_convert, nd_makeInterface, nd_makeFunc, nd_makeMap, nd_slice, nd_fieldAddr, nd_field, nd_indexAddr, nd_index, nd_lookup, nd_mapUpdate, nd_typeAssert, nd_extract, nd_call, nd_panic,
    ok_tmp, ok_const, ok_func, cl_int, cl_bool, cl_string, cl_ptr, cl_map, cl_nilFunc, cl_nilIface, cl_slice, opA_move, opA_assign, opA_pick, opA_load, opA_store, opA_nilCheck, opA_fieldAddr, opA_extract, opA_bin, opA_un, opA_call, opA_call0, opA_build0, opA_len, opA_appendS, opA_makeMap, opA_indexAddr, opA_sliceHi, opA_sliceLo, opA_sliceLH, opA_lookup, opA_mapUpdate, opA_build, opA_box, opA_alloc, opA_makeFunc0, opA_makeFunc00,
    contA_val, contA_skip, contA_enter, contA_panic, contA_ite, callA_ret, callA_panic, callA_ite, putT_some, putT_none, aev_tmp, aev_const, aev_func, rd_same, rd_ne, List.length_set, valA_some, skipA_some, pairA_some,
    thenA_normal, thenA_ret, thenA_exit, thenA_panic, thenA_ite, inBlockA_normal, inBlockA_ret, inBlockA_exit, inBlockA_panic, inBlockA_ite, boolOf_bool, loadS_ptr, storeS_ptr, nilCheckS_ptr, nilCheckS_func, fieldAddrS_eq, extractS_tuple, un_not,
    bin_lss, bin_leq, bin_gtr, bin_geq, bin_eql, bin_neq, bin_add, bin_sub, bin_mul, bin_seql, bin_sneq, bin_ptr_eql, bin_ptr_neq, bin_nil_eql, bin_nil_neq, callS_plain, callS_func, lenS_slice, leaveR_ite, leaveR_ret, leaveR_normal, leaveR_panic, resA_tmp, resA_nil, yieldA_S, slotAt_succ, slotAt_zero, yieldS_some, List.getElem?_toArray, List.getElem?_cons_zero, List.getElem?_cons_succ, resA_cell, cellRes_ptr, Option.bind_some, theCode_rangeS, rangeS_cap, callS_cap, roundA_M, roundM_ready, roundB_N, roundB_R, roundB_E, roundN_none, roundN_some, rangeEnd_M, rangeM_ready, rangeM_ret, setAll_nil, setAll_cons, pack_one, pack_two, pack_none,
    Option.map_some, Option.isSome_some, ne_eq, not_false_eq_true, Nat.reduceEqDiff, Nat.reduceLT, if_true, if_false, Nat.reduceAdd, Nat.add_zero, Nat.zero_add, Option.some.injEq, decide_eq_true_eq, List.map_cons, List.map_nil, List.all_cons, List.all_nil, Bool.and_true, List.nil_append, List.append_nil, List.cons_append, hl, i0, i1]
  refine loop_goal (F := fun z => ∃ H', leaveR Try.prog [.tmp 4, .tmp 5] (thenA (inBlockA 0 z) _) = some (.ret (.tuple #[.int .i64 (1 + runLB σ l), .int .i64 (runLT σ l)]), H') ∧ USt Hs F0 H' b (runL σ l))
    (fun k s => ∃ tm H pre post, s = ⟨tm, [], H⟩ ∧ l = pre ++ post ∧ post.length = k ∧ tm.length = 68 ∧ tm.getD 0 undef = .pointer (some ⟨b, 0, none⟩) ∧ tm.getD 1 undef = v ∧ tm.getD 6 undef = .int .i64 (1 + runLB σ pre) ∧ tm.getD 7 undef = .int .i64 (runLT σ pre) ∧ tm.getD 8 undef = .int .i64 pre.length ∧ USt Hs F0 H b (runL σ pre))
    (fun x s => ∃ tm H, s = ⟨tm, [], H⟩ ∧ x = .exit 0 ∧ tm.length = 68 ∧ tm.getD 6 undef = .int .i64 (1 + runLB σ l) ∧ tm.getD 7 undef = .int .i64 (runLT σ l) ∧ USt Hs F0 H b (runL σ l)) l.length ?_ ?_ ?_
  · refine ⟨_, _, [], l, rfl, rfl, rfl, ?_, ?_, ?_, ?_, ?_, ?_, ⟨F0, h, Upd.refl hf0⟩⟩
    · simp only [List.length_set, hl]
    all_goals simp (config := { decide := true }) only [rd_ne, rd_same, List.length_set, hl, ne_eq, not_false_eq_true, i0, i1, runLB, runLT, List.length_nil, Int.add_zero]
    rfl
  · rintro k _ ⟨tm, H, pre, post, rfl, hpp, hk, hl, i0, i1, i6, i7, i8, h⟩
    have hsH := hs.upd hf0 hd h
    have hln := hsH.len
    cases post with
    | nil =>
      right
      rw [List.append_nil] at hpp
      subst hpp
      have hlt : ¬ ((l.length : Int) < l.length) := by omega
      refine ⟨?x0, ?s0, ?h0, ?hx0, ?hq0⟩
      case h0 =>
        simp (config := { decide := true }) only [theCode_seq, theCode_list, theCode_skip, theCode_ret, theCode_exit, theCode_label, theCode_block, theCode_if, evalList_plain, evalList_guard, evalList_nil, nd_move, nd_assign, nd_pick, nd_alloc, nd_box, nd_build, nd_buildSlice, nd_load, nd_store, nd_nilCheck, nd_binOp, nd_unOp, nd_convert, nd_makeInterface, nd_makeFunc, nd_makeMap, nd_slice, nd_fieldAddr, nd_field, nd_indexAddr, nd_index, nd_lookup, nd_mapUpdate, nd_typeAssert, nd_extract, nd_call, nd_panic,
    ok_tmp, ok_const, ok_func, cl_int, cl_bool, cl_string, cl_ptr, cl_map, cl_nilFunc, cl_nilIface, cl_slice, opA_move, opA_assign, opA_pick, opA_load, opA_store, opA_nilCheck, opA_fieldAddr, opA_extract, opA_bin, opA_un, opA_call, opA_call0, opA_build0, opA_len, opA_appendS, opA_makeMap, opA_indexAddr, opA_sliceHi, opA_sliceLo, opA_sliceLH, opA_lookup, opA_mapUpdate, opA_build, opA_box, opA_alloc, opA_makeFunc0, opA_makeFunc00,
    contA_val, contA_skip, contA_enter, contA_panic, contA_ite, callA_ret, callA_panic, callA_ite, putT_some, putT_none, aev_tmp, aev_const, aev_func, rd_same, rd_ne, List.length_set, valA_some, skipA_some, pairA_some,
    thenA_normal, thenA_ret, thenA_exit, thenA_panic, thenA_ite, inBlockA_normal, inBlockA_ret, inBlockA_exit, inBlockA_panic, inBlockA_ite, boolOf_bool, loadS_ptr, storeS_ptr, nilCheckS_ptr, nilCheckS_func, fieldAddrS_eq, extractS_tuple, un_not,
    bin_lss, bin_leq, bin_gtr, bin_geq, bin_eql, bin_neq, bin_add, bin_sub, bin_mul, bin_seql, bin_sneq, bin_ptr_eql, bin_ptr_neq, bin_nil_eql, bin_nil_neq, callS_plain, callS_func, lenS_slice, leaveR_ite, leaveR_ret, leaveR_normal, leaveR_panic, resA_tmp, resA_nil, yieldA_S, slotAt_succ, slotAt_zero, yieldS_some, List.getElem?_toArray, List.getElem?_cons_zero, List.getElem?_cons_succ, resA_cell, cellRes_ptr, Option.bind_some, theCode_rangeS, rangeS_cap, callS_cap, roundA_M, roundM_ready, roundB_N, roundB_R, roundB_E, roundN_none, roundN_some, rangeEnd_M, rangeM_ready, rangeM_ret, setAll_nil, setAll_cons, pack_one, pack_two, pack_none,
    Option.map_some, Option.isSome_some, ne_eq, not_false_eq_true, Nat.reduceEqDiff, Nat.reduceLT, if_true, if_false, Nat.reduceAdd, Nat.add_zero, Nat.zero_add, Option.some.injEq, decide_eq_true_eq, List.map_cons, List.map_nil, List.all_cons, List.all_nil, Bool.and_true, List.nil_append, List.append_nil, List.cons_append, hl, i0, i1, i6, i7, i8, hln, hlt, Bool.false_eq_true]
        rfl
      case hx0 => exact fun h => by cases h
      case hq0 =>
        refine ⟨_, _, rfl, rfl, ?_, ?_, ?_, h⟩
        · simp only [List.length_set, hl]
        all_goals simp (config := { decide := true }) only [rd_ne, ne_eq, not_false_eq_true, i6, i7]
    | cons s post =>
      left
      have hil : pre.length < l.length := by rw [hpp]; simp
      have hlt : (pre.length : Int) < l.length := by omega
      have hget : l.getD pre.length ⟨0, ⟨#[]⟩, 0, false⟩ = s := by rw [hpp, List.getD_eq_getElem?_getD, List.getElem?_append_right (Nat.le_refl _)]; simp
      have hixs := hsH.index hil
      have hcl := hsH.cells _ hil
      rw [hget] at hcl
      have ld0 : H.loadV Try.prog 38 (addA (baseOf v) (pre.length * 4)) = some (.agg (stpC s).toArray) := by
        rw [loadV_agg agg38 info38, cells38, hcl]; rfl
      obtain ⟨Hb, eb⟩ : ∃ X, (H.push (.box [.int .i64 0, .string ⟨#[]⟩, .int .i64 0, .bool false] 38)).set H.next (.box (stpC s) 38) = X := ⟨_, rfl⟩
      have st0 : (H.push (.box [.int .i64 0, .string ⟨#[]⟩, .int .i64 0, .bool false] 38)).storeV Try.prog 38 ⟨H.next, 0, none⟩ (.agg (stpC s).toArray) = some Hb := by
        rw [storeV_box info38 get_push_new (by rw [cells38]; rfl) (by rw [vc_agg]; rfl) (by rw [vc_agg]; simp [stpC, fl_string, fl_bool, fl_int]), vc_agg, ← eb]
      have gb : Grown H Hb := by rw [← eb]; exact (Grown.push h.fresh _).set2 _ get_push_new (Nat.le_refl _)
      have hbx : Hb.get H.next = some (.box [.int .i64 s.kind, .string s.name, .int .i64 s.ty, .bool s.turns] 38) := by rw [← eb]; exact get_set_same
      obtain ⟨F, hsA, hU⟩ := h.grow gb
      have hwp := wf_runL pre hw
      have hple : pre.length + post.length + 1 = l.length := by rw [hpp]; simp; omega
      have hpk : theCall Try.prog ext 16 [.int .i64 s.kind, .int .i64 6] Hb = some (.ret (.int .i64 (s.kind % 6)), Hb) := pick16 hx (by decide) (by decide)
      have hbB := runLB_le pre σ
      have hbT := runLT_le pre σ
      have w8 : IntKind.i64.wrap ((pre.length : Int) + 1) = ((pre ++ [s]).length : Nat) := by rw [IntWalk.i64_in _ (by omega)]; simp
      by_cases k0 : s.kind % 6 = 0
      · obtain ⟨H', F', a, sA, u⟩ := open13 (ext := ext) hx gb.fresh hsA (by have := hwp.bl; omega)
        have eS : runS (runL σ pre) s = (runL σ pre).open' := by unfold runS; simp [k0]
        have eB : runB (runL σ pre) s = 1 := by unfold runB; simp [k0]
        have eT : runT (runL σ pre) s = 0 := by unfold runT; simp [k0]
        have w6 : IntKind.i64.wrap (1 + runLB σ pre + 1) = 1 + runLB σ (pre ++ [s]) := by rw [runLB_snoc, eB, IntWalk.i64_in _ (by omega)] <;> omega
        have w7 : runLT σ pre = runLT σ (pre ++ [s]) := by rw [runLT_snoc, eT] <;> omega
        refine ⟨?s1, ?h1, post.length, by rw [← hk]; simp, ?q1⟩
        case h1 =>
          simp (config := { decide := true }) only [theCode_seq, theCode_list, theCode_skip, theCode_ret, theCode_exit, theCode_label, theCode_block, theCode_if, evalList_plain, evalList_guard, evalList_nil, nd_move, nd_assign, nd_pick, nd_alloc, nd_box, nd_build, nd_buildSlice, nd_load, nd_store, nd_nilCheck, nd_binOp, nd_unOp, nd_convert, nd_makeInterface, nd_makeFunc, nd_makeMap, nd_slice, nd_fieldAddr, nd_field, nd_indexAddr, nd_index, nd_lookup, nd_mapUpdate, nd_typeAssert, nd_extract, nd_call, nd_panic,
    ok_tmp, ok_const, ok_func, cl_int, cl_bool, cl_string, cl_ptr, cl_map, cl_nilFunc, cl_nilIface, cl_slice, opA_move, opA_assign, opA_pick, opA_load, opA_store, opA_nilCheck, opA_fieldAddr, opA_extract, opA_bin, opA_un, opA_call, opA_call0, opA_build0, opA_len, opA_appendS, opA_makeMap, opA_indexAddr, opA_sliceHi, opA_sliceLo, opA_sliceLH, opA_lookup, opA_mapUpdate, opA_build, opA_box, opA_alloc, opA_makeFunc0, opA_makeFunc00,
    contA_val, contA_skip, contA_enter, contA_panic, contA_ite, callA_ret, callA_panic, callA_ite, putT_some, putT_none, aev_tmp, aev_const, aev_func, rd_same, rd_ne, List.length_set, valA_some, skipA_some, pairA_some,
    thenA_normal, thenA_ret, thenA_exit, thenA_panic, thenA_ite, inBlockA_normal, inBlockA_ret, inBlockA_exit, inBlockA_panic, inBlockA_ite, boolOf_bool, loadS_ptr, storeS_ptr, nilCheckS_ptr, nilCheckS_func, fieldAddrS_eq, extractS_tuple, un_not,
    bin_lss, bin_leq, bin_gtr, bin_geq, bin_eql, bin_neq, bin_add, bin_sub, bin_mul, bin_seql, bin_sneq, bin_ptr_eql, bin_ptr_neq, bin_nil_eql, bin_nil_neq, callS_plain, callS_func, lenS_slice, leaveR_ite, leaveR_ret, leaveR_normal, leaveR_panic, resA_tmp, resA_nil, yieldA_S, slotAt_succ, slotAt_zero, yieldS_some, List.getElem?_toArray, List.getElem?_cons_zero, List.getElem?_cons_succ, resA_cell, cellRes_ptr, Option.bind_some, theCode_rangeS, rangeS_cap, callS_cap, roundA_M, roundM_ready, roundB_N, roundB_R, roundB_E, roundN_none, roundN_some, rangeEnd_M, rangeM_ready, rangeM_ret, setAll_nil, setAll_cons, pack_one, pack_two, pack_none,
    Option.map_some, Option.isSome_some, ne_eq, not_false_eq_true, Nat.reduceEqDiff, Nat.reduceLT, if_true, if_false, Nat.reduceAdd, Nat.add_zero, Nat.zero_add, Option.some.injEq, decide_eq_true_eq, List.map_cons, List.map_nil, List.all_cons, List.all_nil, Bool.and_true, List.nil_append, List.append_nil, List.cons_append,
          hl, i0, i1, i6, i7, i8, hln, hlt, hixs, sli22, ld0, zf38, vc_agg, st0, hbx, cellO_box, off38_0, off38_1, off38_2, off38_3, agg3, agg9, agg4, loadV_flat, cell_eq, en16, hpk, en13, en17, en20, en14, en18, k0, a, w6, Bool.false_eq_true, Bool.not_true, Bool.not_false]
          rfl
        case q1 =>
          refine ⟨_, _, pre ++ [s], post, rfl, by rw [hpp]; simp, rfl, ?_, ?_, ?_, ?_, ?_, ?_, ?_⟩
          · simp only [List.length_set, hl]
          rotate_right
          · rw [runL_snoc, eS]; exact ⟨_, sA, hU.trans u⟩
          all_goals simp (config := { decide := true }) only [rd_ne, rd_same, List.length_set, hl, ne_eq, not_false_eq_true, i0, i1, i6, i7, w6, w7, w8, Int.add_zero]
      by_cases k1 : s.kind % 6 = 1
      · obtain ⟨H', F', a, sA, u⟩ := close17 (ext := ext) hx gb.fresh hsA (by have := hwp.bl; omega)
        by_cases hc : 1 < (runL σ pre).blocks.length
        · rw [decide_eq_true hc] at a
          have eS : runS (runL σ pre) s = (runL σ pre).close := by unfold runS; simp [k1, hc]
          have eB : runB (runL σ pre) s = -1 := by unfold runB; simp [k1, hc]
          have eT : runT (runL σ pre) s = 0 := by unfold runT; simp [k1, hc]
          have w6 : IntKind.i64.wrap (1 + runLB σ pre - 1) = 1 + runLB σ (pre ++ [s]) := by rw [runLB_snoc, eB, IntWalk.i64_in _ (by omega)] <;> omega
          have w7 : runLT σ pre = runLT σ (pre ++ [s]) := by rw [runLT_snoc, eT] <;> omega
          refine ⟨?s2, ?h2, post.length, by rw [← hk]; simp, ?q2⟩
          case h2 =>
            simp (config := { decide := true }) only [theCode_seq, theCode_list, theCode_skip, theCode_ret, theCode_exit, theCode_label, theCode_block, theCode_if, evalList_plain, evalList_guard, evalList_nil, nd_move, nd_assign, nd_pick, nd_alloc, nd_box, nd_build, nd_buildSlice, nd_load, nd_store, nd_nilCheck, nd_binOp, nd_unOp, nd_convert, nd_makeInterface, nd_makeFunc, nd_makeMap, nd_slice, nd_fieldAddr, nd_field, nd_indexAddr, nd_index, nd_lookup, nd_mapUpdate, nd_typeAssert, nd_extract, nd_call, nd_panic,
    ok_tmp, ok_const, ok_func, cl_int, cl_bool, cl_string, cl_ptr, cl_map, cl_nilFunc, cl_nilIface, cl_slice, opA_move, opA_assign, opA_pick, opA_load, opA_store, opA_nilCheck, opA_fieldAddr, opA_extract, opA_bin, opA_un, opA_call, opA_call0, opA_build0, opA_len, opA_appendS, opA_makeMap, opA_indexAddr, opA_sliceHi, opA_sliceLo, opA_sliceLH, opA_lookup, opA_mapUpdate, opA_build, opA_box, opA_alloc, opA_makeFunc0, opA_makeFunc00,
    contA_val, contA_skip, contA_enter, contA_panic, contA_ite, callA_ret, callA_panic, callA_ite, putT_some, putT_none, aev_tmp, aev_const, aev_func, rd_same, rd_ne, List.length_set, valA_some, skipA_some, pairA_some,
    thenA_normal, thenA_ret, thenA_exit, thenA_panic, thenA_ite, inBlockA_normal, inBlockA_ret, inBlockA_exit, inBlockA_panic, inBlockA_ite, boolOf_bool, loadS_ptr, storeS_ptr, nilCheckS_ptr, nilCheckS_func, fieldAddrS_eq, extractS_tuple, un_not,
    bin_lss, bin_leq, bin_gtr, bin_geq, bin_eql, bin_neq, bin_add, bin_sub, bin_mul, bin_seql, bin_sneq, bin_ptr_eql, bin_ptr_neq, bin_nil_eql, bin_nil_neq, callS_plain, callS_func, lenS_slice, leaveR_ite, leaveR_ret, leaveR_normal, leaveR_panic, resA_tmp, resA_nil, yieldA_S, slotAt_succ, slotAt_zero, yieldS_some, List.getElem?_toArray, List.getElem?_cons_zero, List.getElem?_cons_succ, resA_cell, cellRes_ptr, Option.bind_some, theCode_rangeS, rangeS_cap, callS_cap, roundA_M, roundM_ready, roundB_N, roundB_R, roundB_E, roundN_none, roundN_some, rangeEnd_M, rangeM_ready, rangeM_ret, setAll_nil, setAll_cons, pack_one, pack_two, pack_none,
    Option.map_some, Option.isSome_some, ne_eq, not_false_eq_true, Nat.reduceEqDiff, Nat.reduceLT, if_true, if_false, Nat.reduceAdd, Nat.add_zero, Nat.zero_add, Option.some.injEq, decide_eq_true_eq, List.map_cons, List.map_nil, List.all_cons, List.all_nil, Bool.and_true, List.nil_append, List.append_nil, List.cons_append,
            hl, i0, i1, i6, i7, i8, hln, hlt, hixs, sli22, ld0, zf38, vc_agg, st0, hbx, cellO_box, off38_0, off38_1, off38_2, off38_3, agg3, agg9, agg4, loadV_flat, cell_eq, en16, hpk, en13, en17, en20, en14, en18, k1, a, w6, Bool.false_eq_true, Bool.not_true, Bool.not_false]
            rfl
          case q2 =>
            refine ⟨_, _, pre ++ [s], post, rfl, by rw [hpp]; simp, rfl, ?_, ?_, ?_, ?_, ?_, ?_, ?_⟩
            · simp only [List.length_set, hl]
            rotate_right
            · rw [runL_snoc, eS]; exact ⟨_, sA, hU.trans u⟩
            all_goals simp (config := { decide := true }) only [rd_ne, rd_same, List.length_set, hl, ne_eq, not_false_eq_true, i0, i1, i6, i7, w6, w7, w8, Int.add_zero]
        · rw [decide_eq_false hc] at a
          have eS : runS (runL σ pre) s = (runL σ pre).close := by unfold runS; simp [k1, hc]
          have eB : runB (runL σ pre) s = 0 := by unfold runB; simp [k1, hc]
          have eT : runT (runL σ pre) s = 0 := by unfold runT; simp [k1, hc]
          have w6 : 1 + runLB σ pre = 1 + runLB σ (pre ++ [s]) := by rw [runLB_snoc, eB] <;> omega
          have w7 : runLT σ pre = runLT σ (pre ++ [s]) := by rw [runLT_snoc, eT] <;> omega
          refine ⟨?s3, ?h3, post.length, by rw [← hk]; simp, ?q3⟩
          case h3 =>
            simp (config := { decide := true }) only [theCode_seq, theCode_list, theCode_skip, theCode_ret, theCode_exit, theCode_label, theCode_block, theCode_if, evalList_plain, evalList_guard, evalList_nil, nd_move, nd_assign, nd_pick, nd_alloc, nd_box, nd_build, nd_buildSlice, nd_load, nd_store, nd_nilCheck, nd_binOp, nd_unOp, nd_convert, nd_makeInterface, nd_makeFunc, nd_makeMap, nd_slice, nd_fieldAddr, nd_field, nd_indexAddr, nd_index, nd_lookup, nd_mapUpdate, nd_typeAssert, nd_extract, nd_call, nd_panic,
    ok_tmp, ok_const, ok_func, cl_int, cl_bool, cl_string, cl_ptr, cl_map, cl_nilFunc, cl_nilIface, cl_slice, opA_move, opA_assign, opA_pick, opA_load, opA_store, opA_nilCheck, opA_fieldAddr, opA_extract, opA_bin, opA_un, opA_call, opA_call0, opA_build0, opA_len, opA_appendS, opA_makeMap, opA_indexAddr, opA_sliceHi, opA_sliceLo, opA_sliceLH, opA_lookup, opA_mapUpdate, opA_build, opA_box, opA_alloc, opA_makeFunc0, opA_makeFunc00,
    contA_val, contA_skip, contA_enter, contA_panic, contA_ite, callA_ret, callA_panic, callA_ite, putT_some, putT_none, aev_tmp, aev_const, aev_func, rd_same, rd_ne, List.length_set, valA_some, skipA_some, pairA_some,
    thenA_normal, thenA_ret, thenA_exit, thenA_panic, thenA_ite, inBlockA_normal, inBlockA_ret, inBlockA_exit, inBlockA_panic, inBlockA_ite, boolOf_bool, loadS_ptr, storeS_ptr, nilCheckS_ptr, nilCheckS_func, fieldAddrS_eq, extractS_tuple, un_not,
    bin_lss, bin_leq, bin_gtr, bin_geq, bin_eql, bin_neq, bin_add, bin_sub, bin_mul, bin_seql, bin_sneq, bin_ptr_eql, bin_ptr_neq, bin_nil_eql, bin_nil_neq, callS_plain, callS_func, lenS_slice, leaveR_ite, leaveR_ret, leaveR_normal, leaveR_panic, resA_tmp, resA_nil, yieldA_S, slotAt_succ, slotAt_zero, yieldS_some, List.getElem?_toArray, List.getElem?_cons_zero, List.getElem?_cons_succ, resA_cell, cellRes_ptr, Option.bind_some, theCode_rangeS, rangeS_cap, callS_cap, roundA_M, roundM_ready, roundB_N, roundB_R, roundB_E, roundN_none, roundN_some, rangeEnd_M, rangeM_ready, rangeM_ret, setAll_nil, setAll_cons, pack_one, pack_two, pack_none,
    Option.map_some, Option.isSome_some, ne_eq, not_false_eq_true, Nat.reduceEqDiff, Nat.reduceLT, if_true, if_false, Nat.reduceAdd, Nat.add_zero, Nat.zero_add, Option.some.injEq, decide_eq_true_eq, List.map_cons, List.map_nil, List.all_cons, List.all_nil, Bool.and_true, List.nil_append, List.append_nil, List.cons_append,
            hl, i0, i1, i6, i7, i8, hln, hlt, hixs, sli22, ld0, zf38, vc_agg, st0, hbx, cellO_box, off38_0, off38_1, off38_2, off38_3, agg3, agg9, agg4, loadV_flat, cell_eq, en16, hpk, en13, en17, en20, en14, en18, k1, a, Bool.false_eq_true, Bool.not_true, Bool.not_false]
            rfl
          case q3 =>
            refine ⟨_, _, pre ++ [s], post, rfl, by rw [hpp]; simp, rfl, ?_, ?_, ?_, ?_, ?_, ?_, ?_⟩
            · simp only [List.length_set, hl]
            rotate_right
            · rw [runL_snoc, eS]; exact ⟨_, sA, hU.trans u⟩
            all_goals simp (config := { decide := true }) only [rd_ne, rd_same, List.length_set, hl, ne_eq, not_false_eq_true, i0, i1, i6, i7, w6, w7, w8, Int.add_zero]
      by_cases k2 : s.kind % 6 = 2
      · obtain ⟨H', F', a, sA, u⟩ := declare20 (ext := ext) hx gb.fresh hsA hwp.pos (by have := hwp.bl; omega) (by have := hwp.yl; omega) s.name s.ty
        have eS : runS (runL σ pre) s = (runL σ pre).decl s.name s.ty := by unfold runS; simp [k2]
        have eB : runB (runL σ pre) s = 0 := by unfold runB; simp [k2]
        have eT : runT (runL σ pre) s = 0 := by unfold runT; simp [k2]
        have w6 : 1 + runLB σ pre = 1 + runLB σ (pre ++ [s]) := by rw [runLB_snoc, eB] <;> omega
        have w7 : runLT σ pre = runLT σ (pre ++ [s]) := by rw [runLT_snoc, eT] <;> omega
        refine ⟨?s4, ?h4, post.length, by rw [← hk]; simp, ?q4⟩
        case h4 =>
          simp (config := { decide := true }) only [theCode_seq, theCode_list, theCode_skip, theCode_ret, theCode_exit, theCode_label, theCode_block, theCode_if, evalList_plain, evalList_guard, evalList_nil, nd_move, nd_assign, nd_pick, nd_alloc, nd_box, nd_build, nd_buildSlice, nd_load, nd_store, nd_nilCheck, nd_binOp, nd_unOp, nd_convert, nd_makeInterface, nd_makeFunc, nd_makeMap, nd_slice, nd_fieldAddr, nd_field, nd_indexAddr, nd_index, nd_lookup, nd_mapUpdate, nd_typeAssert, nd_extract, nd_call, nd_panic,
    ok_tmp, ok_const, ok_func, cl_int, cl_bool, cl_string, cl_ptr, cl_map, cl_nilFunc, cl_nilIface, cl_slice, opA_move, opA_assign, opA_pick, opA_load, opA_store, opA_nilCheck, opA_fieldAddr, opA_extract, opA_bin, opA_un, opA_call, opA_call0, opA_build0, opA_len, opA_appendS, opA_makeMap, opA_indexAddr, opA_sliceHi, opA_sliceLo, opA_sliceLH, opA_lookup, opA_mapUpdate, opA_build, opA_box, opA_alloc, opA_makeFunc0, opA_makeFunc00,
    contA_val, contA_skip, contA_enter, contA_panic, contA_ite, callA_ret, callA_panic, callA_ite, putT_some, putT_none, aev_tmp, aev_const, aev_func, rd_same, rd_ne, List.length_set, valA_some, skipA_some, pairA_some,
    thenA_normal, thenA_ret, thenA_exit, thenA_panic, thenA_ite, inBlockA_normal, inBlockA_ret, inBlockA_exit, inBlockA_panic, inBlockA_ite, boolOf_bool, loadS_ptr, storeS_ptr, nilCheckS_ptr, nilCheckS_func, fieldAddrS_eq, extractS_tuple, un_not,
    bin_lss, bin_leq, bin_gtr, bin_geq, bin_eql, bin_neq, bin_add, bin_sub, bin_mul, bin_seql, bin_sneq, bin_ptr_eql, bin_ptr_neq, bin_nil_eql, bin_nil_neq, callS_plain, callS_func, lenS_slice, leaveR_ite, leaveR_ret, leaveR_normal, leaveR_panic, resA_tmp, resA_nil, yieldA_S, slotAt_succ, slotAt_zero, yieldS_some, List.getElem?_toArray, List.getElem?_cons_zero, List.getElem?_cons_succ, resA_cell, cellRes_ptr, Option.bind_some, theCode_rangeS, rangeS_cap, callS_cap, roundA_M, roundM_ready, roundB_N, roundB_R, roundB_E, roundN_none, roundN_some, rangeEnd_M, rangeM_ready, rangeM_ret, setAll_nil, setAll_cons, pack_one, pack_two, pack_none,
    Option.map_some, Option.isSome_some, ne_eq, not_false_eq_true, Nat.reduceEqDiff, Nat.reduceLT, if_true, if_false, Nat.reduceAdd, Nat.add_zero, Nat.zero_add, Option.some.injEq, decide_eq_true_eq, List.map_cons, List.map_nil, List.all_cons, List.all_nil, Bool.and_true, List.nil_append, List.append_nil, List.cons_append,
          hl, i0, i1, i6, i7, i8, hln, hlt, hixs, sli22, ld0, zf38, vc_agg, st0, hbx, cellO_box, off38_0, off38_1, off38_2, off38_3, agg3, agg9, agg4, loadV_flat, cell_eq, en16, hpk, en13, en17, en20, en14, en18, k2, a, Bool.false_eq_true, Bool.not_true, Bool.not_false]
          rfl
        case q4 =>
          refine ⟨_, _, pre ++ [s], post, rfl, by rw [hpp]; simp, rfl, ?_, ?_, ?_, ?_, ?_, ?_, ?_⟩
          · simp only [List.length_set, hl]
          rotate_right
          · rw [runL_snoc, eS]; exact ⟨_, sA, hU.trans u⟩
          all_goals simp (config := { decide := true }) only [rd_ne, rd_same, List.length_set, hl, ne_eq, not_false_eq_true, i0, i1, i6, i7, w6, w7, w8, Int.add_zero]
      by_cases k4 : s.kind % 6 = 4
      · obtain ⟨H', F', a, sA, u⟩ := enter14 (ext := ext) hx gb.fresh hsA (by have := hwp.tl; omega) (by have := hwp.nx; omega) s.name s.turns
        cases hc : (runL σ pre).twice s.name with
        | true =>
          rw [show entV2 (runL σ pre) s.name = .tuple #[.int .i64 0, .int .i64 70] by unfold entV2; rw [hc]; rfl] at a
          have eS : runS (runL σ pre) s = (runL σ pre).enter s.name s.turns := by unfold runS; simp [k4, hc]
          have eB : runB (runL σ pre) s = 0 := by unfold runB; simp [k4, hc]
          have eT : runT (runL σ pre) s = 0 := by unfold runT; simp [k4, hc]
          have w6 : 1 + runLB σ pre = 1 + runLB σ (pre ++ [s]) := by rw [runLB_snoc, eB] <;> omega
          have w7 : runLT σ pre = runLT σ (pre ++ [s]) := by rw [runLT_snoc, eT] <;> omega
          refine ⟨?s5, ?h5, post.length, by rw [← hk]; simp, ?q5⟩
          case h5 =>
            simp (config := { decide := true }) only [theCode_seq, theCode_list, theCode_skip, theCode_ret, theCode_exit, theCode_label, theCode_block, theCode_if, evalList_plain, evalList_guard, evalList_nil, nd_move, nd_assign, nd_pick, nd_alloc, nd_box, nd_build, nd_buildSlice, nd_load, nd_store, nd_nilCheck, nd_binOp, nd_unOp, nd_convert, nd_makeInterface, nd_makeFunc, nd_makeMap, nd_slice, nd_fieldAddr, nd_field, nd_indexAddr, nd_index, nd_lookup, nd_mapUpdate, nd_typeAssert, nd_extract, nd_call, nd_panic,
    ok_tmp, ok_const, ok_func, cl_int, cl_bool, cl_string, cl_ptr, cl_map, cl_nilFunc, cl_nilIface, cl_slice, opA_move, opA_assign, opA_pick, opA_load, opA_store, opA_nilCheck, opA_fieldAddr, opA_extract, opA_bin, opA_un, opA_call, opA_call0, opA_build0, opA_len, opA_appendS, opA_makeMap, opA_indexAddr, opA_sliceHi, opA_sliceLo, opA_sliceLH, opA_lookup, opA_mapUpdate, opA_build, opA_box, opA_alloc, opA_makeFunc0, opA_makeFunc00,
    contA_val, contA_skip, contA_enter, contA_panic, contA_ite, callA_ret, callA_panic, callA_ite, putT_some, putT_none, aev_tmp, aev_const, aev_func, rd_same, rd_ne, List.length_set, valA_some, skipA_some, pairA_some,
    thenA_normal, thenA_ret, thenA_exit, thenA_panic, thenA_ite, inBlockA_normal, inBlockA_ret, inBlockA_exit, inBlockA_panic, inBlockA_ite, boolOf_bool, loadS_ptr, storeS_ptr, nilCheckS_ptr, nilCheckS_func, fieldAddrS_eq, extractS_tuple, un_not,
    bin_lss, bin_leq, bin_gtr, bin_geq, bin_eql, bin_neq, bin_add, bin_sub, bin_mul, bin_seql, bin_sneq, bin_ptr_eql, bin_ptr_neq, bin_nil_eql, bin_nil_neq, callS_plain, callS_func, lenS_slice, leaveR_ite, leaveR_ret, leaveR_normal, leaveR_panic, resA_tmp, resA_nil, yieldA_S, slotAt_succ, slotAt_zero, yieldS_some, List.getElem?_toArray, List.getElem?_cons_zero, List.getElem?_cons_succ, resA_cell, cellRes_ptr, Option.bind_some, theCode_rangeS, rangeS_cap, callS_cap, roundA_M, roundM_ready, roundB_N, roundB_R, roundB_E, roundN_none, roundN_some, rangeEnd_M, rangeM_ready, rangeM_ret, setAll_nil, setAll_cons, pack_one, pack_two, pack_none,
    Option.map_some, Option.isSome_some, ne_eq, not_false_eq_true, Nat.reduceEqDiff, Nat.reduceLT, if_true, if_false, Nat.reduceAdd, Nat.add_zero, Nat.zero_add, Option.some.injEq, decide_eq_true_eq, List.map_cons, List.map_nil, List.all_cons, List.all_nil, Bool.and_true, List.nil_append, List.append_nil, List.cons_append,
            hl, i0, i1, i6, i7, i8, hln, hlt, hixs, sli22, ld0, zf38, vc_agg, st0, hbx, cellO_box, off38_0, off38_1, off38_2, off38_3, agg3, agg9, agg4, loadV_flat, cell_eq, en16, hpk, en13, en17, en20, en14, en18, k4, a, Bool.false_eq_true, Bool.not_true, Bool.not_false]
            rfl
          case q5 =>
            refine ⟨_, _, pre ++ [s], post, rfl, by rw [hpp]; simp, rfl, ?_, ?_, ?_, ?_, ?_, ?_, ?_⟩
            · simp only [List.length_set, hl]
            rotate_right
            · rw [runL_snoc, eS]; exact ⟨_, sA, hU.trans u⟩
            all_goals simp (config := { decide := true }) only [rd_ne, rd_same, List.length_set, hl, ne_eq, not_false_eq_true, i0, i1, i6, i7, w6, w7, w8, Int.add_zero]
        | false =>
          rw [show entV2 (runL σ pre) s.name = .tuple #[.int .i64 (runL σ pre).next, .int .i64 0] by unfold entV2; rw [hc]; rfl] at a
          have eS : runS (runL σ pre) s = (runL σ pre).enter s.name s.turns := by unfold runS; simp [k4, hc]
          have eB : runB (runL σ pre) s = 0 := by unfold runB; simp [k4, hc]
          have eT : runT (runL σ pre) s = 1 := by unfold runT; simp [k4, hc]
          have w6 : 1 + runLB σ pre = 1 + runLB σ (pre ++ [s]) := by rw [runLB_snoc, eB] <;> omega
          have w7 : IntKind.i64.wrap (runLT σ pre + 1) = runLT σ (pre ++ [s]) := by rw [runLT_snoc, eT, IntWalk.i64_in _ (by omega)] <;> omega
          refine ⟨?s6, ?h6, post.length, by rw [← hk]; simp, ?q6⟩
          case h6 =>
            simp (config := { decide := true }) only [theCode_seq, theCode_list, theCode_skip, theCode_ret, theCode_exit, theCode_label, theCode_block, theCode_if, evalList_plain, evalList_guard, evalList_nil, nd_move, nd_assign, nd_pick, nd_alloc, nd_box, nd_build, nd_buildSlice, nd_load, nd_store, nd_nilCheck, nd_binOp, nd_unOp, nd_convert, nd_makeInterface, nd_makeFunc, nd_makeMap, nd_slice, nd_fieldAddr, nd_field, nd_indexAddr, nd_index, nd_lookup, nd_mapUpdate, nd_typeAssert, nd_extract, nd_call, nd_panic,
    ok_tmp, ok_const, ok_func, cl_int, cl_bool, cl_string, cl_ptr, cl_map, cl_nilFunc, cl_nilIface, cl_slice, opA_move, opA_assign, opA_pick, opA_load, opA_store, opA_nilCheck, opA_fieldAddr, opA_extract, opA_bin, opA_un, opA_call, opA_call0, opA_build0, opA_len, opA_appendS, opA_makeMap, opA_indexAddr, opA_sliceHi, opA_sliceLo, opA_sliceLH, opA_lookup, opA_mapUpdate, opA_build, opA_box, opA_alloc, opA_makeFunc0, opA_makeFunc00,
    contA_val, contA_skip, contA_enter, contA_panic, contA_ite, callA_ret, callA_panic, callA_ite, putT_some, putT_none, aev_tmp, aev_const, aev_func, rd_same, rd_ne, List.length_set, valA_some, skipA_some, pairA_some,
    thenA_normal, thenA_ret, thenA_exit, thenA_panic, thenA_ite, inBlockA_normal, inBlockA_ret, inBlockA_exit, inBlockA_panic, inBlockA_ite, boolOf_bool, loadS_ptr, storeS_ptr, nilCheckS_ptr, nilCheckS_func, fieldAddrS_eq, extractS_tuple, un_not,
    bin_lss, bin_leq, bin_gtr, bin_geq, bin_eql, bin_neq, bin_add, bin_sub, bin_mul, bin_seql, bin_sneq, bin_ptr_eql, bin_ptr_neq, bin_nil_eql, bin_nil_neq, callS_plain, callS_func, lenS_slice, leaveR_ite, leaveR_ret, leaveR_normal, leaveR_panic, resA_tmp, resA_nil, yieldA_S, slotAt_succ, slotAt_zero, yieldS_some, List.getElem?_toArray, List.getElem?_cons_zero, List.getElem?_cons_succ, resA_cell, cellRes_ptr, Option.bind_some, theCode_rangeS, rangeS_cap, callS_cap, roundA_M, roundM_ready, roundB_N, roundB_R, roundB_E, roundN_none, roundN_some, rangeEnd_M, rangeM_ready, rangeM_ret, setAll_nil, setAll_cons, pack_one, pack_two, pack_none,
    Option.map_some, Option.isSome_some, ne_eq, not_false_eq_true, Nat.reduceEqDiff, Nat.reduceLT, if_true, if_false, Nat.reduceAdd, Nat.add_zero, Nat.zero_add, Option.some.injEq, decide_eq_true_eq, List.map_cons, List.map_nil, List.all_cons, List.all_nil, Bool.and_true, List.nil_append, List.append_nil, List.cons_append,
            hl, i0, i1, i6, i7, i8, hln, hlt, hixs, sli22, ld0, zf38, vc_agg, st0, hbx, cellO_box, off38_0, off38_1, off38_2, off38_3, agg3, agg9, agg4, loadV_flat, cell_eq, en16, hpk, en13, en17, en20, en14, en18, k4, a, w7, Bool.false_eq_true, Bool.not_true, Bool.not_false]
            rfl
          case q6 =>
            refine ⟨_, _, pre ++ [s], post, rfl, by rw [hpp]; simp, rfl, ?_, ?_, ?_, ?_, ?_, ?_, ?_⟩
            · simp only [List.length_set, hl]
            rotate_right
            · rw [runL_snoc, eS]; exact ⟨_, sA, hU.trans u⟩
            all_goals simp (config := { decide := true }) only [rd_ne, rd_same, List.length_set, hl, ne_eq, not_false_eq_true, i0, i1, i6, i7, w6, w7, w8, Int.add_zero]
      by_cases k5 : s.kind % 6 = 5
      · obtain ⟨H', F', a, sA, u⟩ := leave18 (ext := ext) hx gb.fresh hsA (by have := hwp.tl; omega)
        by_cases hc : 0 < (runL σ pre).turns.length
        · rw [decide_eq_true hc] at a
          have eS : runS (runL σ pre) s = (runL σ pre).leave := by unfold runS; simp [k5, hc]
          have eB : runB (runL σ pre) s = 0 := by unfold runB; simp [k5, hc]
          have eT : runT (runL σ pre) s = -1 := by unfold runT; simp [k5, hc]
          have w6 : 1 + runLB σ pre = 1 + runLB σ (pre ++ [s]) := by rw [runLB_snoc, eB] <;> omega
          have w7 : IntKind.i64.wrap (runLT σ pre - 1) = runLT σ (pre ++ [s]) := by rw [runLT_snoc, eT, IntWalk.i64_in _ (by omega)] <;> omega
          refine ⟨?s7, ?h7, post.length, by rw [← hk]; simp, ?q7⟩
          case h7 =>
            simp (config := { decide := true }) only [theCode_seq, theCode_list, theCode_skip, theCode_ret, theCode_exit, theCode_label, theCode_block, theCode_if, evalList_plain, evalList_guard, evalList_nil, nd_move, nd_assign, nd_pick, nd_alloc, nd_box, nd_build, nd_buildSlice, nd_load, nd_store, nd_nilCheck, nd_binOp, nd_unOp, nd_convert, nd_makeInterface, nd_makeFunc, nd_makeMap, nd_slice, nd_fieldAddr, nd_field, nd_indexAddr, nd_index, nd_lookup, nd_mapUpdate, nd_typeAssert, nd_extract, nd_call, nd_panic,
    ok_tmp, ok_const, ok_func, cl_int, cl_bool, cl_string, cl_ptr, cl_map, cl_nilFunc, cl_nilIface, cl_slice, opA_move, opA_assign, opA_pick, opA_load, opA_store, opA_nilCheck, opA_fieldAddr, opA_extract, opA_bin, opA_un, opA_call, opA_call0, opA_build0, opA_len, opA_appendS, opA_makeMap, opA_indexAddr, opA_sliceHi, opA_sliceLo, opA_sliceLH, opA_lookup, opA_mapUpdate, opA_build, opA_box, opA_alloc, opA_makeFunc0, opA_makeFunc00,
    contA_val, contA_skip, contA_enter, contA_panic, contA_ite, callA_ret, callA_panic, callA_ite, putT_some, putT_none, aev_tmp, aev_const, aev_func, rd_same, rd_ne, List.length_set, valA_some, skipA_some, pairA_some,
    thenA_normal, thenA_ret, thenA_exit, thenA_panic, thenA_ite, inBlockA_normal, inBlockA_ret, inBlockA_exit, inBlockA_panic, inBlockA_ite, boolOf_bool, loadS_ptr, storeS_ptr, nilCheckS_ptr, nilCheckS_func, fieldAddrS_eq, extractS_tuple, un_not,
    bin_lss, bin_leq, bin_gtr, bin_geq, bin_eql, bin_neq, bin_add, bin_sub, bin_mul, bin_seql, bin_sneq, bin_ptr_eql, bin_ptr_neq, bin_nil_eql, bin_nil_neq, callS_plain, callS_func, lenS_slice, leaveR_ite, leaveR_ret, leaveR_normal, leaveR_panic, resA_tmp, resA_nil, yieldA_S, slotAt_succ, slotAt_zero, yieldS_some, List.getElem?_toArray, List.getElem?_cons_zero, List.getElem?_cons_succ, resA_cell, cellRes_ptr, Option.bind_some, theCode_rangeS, rangeS_cap, callS_cap, roundA_M, roundM_ready, roundB_N, roundB_R, roundB_E, roundN_none, roundN_some, rangeEnd_M, rangeM_ready, rangeM_ret, setAll_nil, setAll_cons, pack_one, pack_two, pack_none,
    Option.map_some, Option.isSome_some, ne_eq, not_false_eq_true, Nat.reduceEqDiff, Nat.reduceLT, if_true, if_false, Nat.reduceAdd, Nat.add_zero, Nat.zero_add, Option.some.injEq, decide_eq_true_eq, List.map_cons, List.map_nil, List.all_cons, List.all_nil, Bool.and_true, List.nil_append, List.append_nil, List.cons_append,
            hl, i0, i1, i6, i7, i8, hln, hlt, hixs, sli22, ld0, zf38, vc_agg, st0, hbx, cellO_box, off38_0, off38_1, off38_2, off38_3, agg3, agg9, agg4, loadV_flat, cell_eq, en16, hpk, en13, en17, en20, en14, en18, k5, a, w7, Bool.false_eq_true, Bool.not_true, Bool.not_false]
            rfl
          case q7 =>
            refine ⟨_, _, pre ++ [s], post, rfl, by rw [hpp]; simp, rfl, ?_, ?_, ?_, ?_, ?_, ?_, ?_⟩
            · simp only [List.length_set, hl]
            rotate_right
            · rw [runL_snoc, eS]; exact ⟨_, sA, hU.trans u⟩
            all_goals simp (config := { decide := true }) only [rd_ne, rd_same, List.length_set, hl, ne_eq, not_false_eq_true, i0, i1, i6, i7, w6, w7, w8, Int.add_zero]
        · rw [decide_eq_false hc] at a
          have eS : runS (runL σ pre) s = (runL σ pre).leave := by unfold runS; simp [k5, hc]
          have eB : runB (runL σ pre) s = 0 := by unfold runB; simp [k5, hc]
          have eT : runT (runL σ pre) s = 0 := by unfold runT; simp [k5, hc]
          have w6 : 1 + runLB σ pre = 1 + runLB σ (pre ++ [s]) := by rw [runLB_snoc, eB] <;> omega
          have w7 : runLT σ pre = runLT σ (pre ++ [s]) := by rw [runLT_snoc, eT] <;> omega
          refine ⟨?s8, ?h8, post.length, by rw [← hk]; simp, ?q8⟩
          case h8 =>
            simp (config := { decide := true }) only [theCode_seq, theCode_list, theCode_skip, theCode_ret, theCode_exit, theCode_label, theCode_block, theCode_if, evalList_plain, evalList_guard, evalList_nil, nd_move, nd_assign, nd_pick, nd_alloc, nd_box, nd_build, nd_buildSlice, nd_load, nd_store, nd_nilCheck, nd_binOp, nd_unOp, nd_convert, nd_makeInterface, nd_makeFunc, nd_makeMap, nd_slice, nd_fieldAddr, nd_field, nd_indexAddr, nd_index, nd_lookup, nd_mapUpdate, nd_typeAssert, nd_extract, nd_call, nd_panic,
    ok_tmp, ok_const, ok_func, cl_int, cl_bool, cl_string, cl_ptr, cl_map, cl_nilFunc, cl_nilIface, cl_slice, opA_move, opA_assign, opA_pick, opA_load, opA_store, opA_nilCheck, opA_fieldAddr, opA_extract, opA_bin, opA_un, opA_call, opA_call0, opA_build0, opA_len, opA_appendS, opA_makeMap, opA_indexAddr, opA_sliceHi, opA_sliceLo, opA_sliceLH, opA_lookup, opA_mapUpdate, opA_build, opA_box, opA_alloc, opA_makeFunc0, opA_makeFunc00,
    contA_val, contA_skip, contA_enter, contA_panic, contA_ite, callA_ret, callA_panic, callA_ite, putT_some, putT_none, aev_tmp, aev_const, aev_func, rd_same, rd_ne, List.length_set, valA_some, skipA_some, pairA_some,
    thenA_normal, thenA_ret, thenA_exit, thenA_panic, thenA_ite, inBlockA_normal, inBlockA_ret, inBlockA_exit, inBlockA_panic, inBlockA_ite, boolOf_bool, loadS_ptr, storeS_ptr, nilCheckS_ptr, nilCheckS_func, fieldAddrS_eq, extractS_tuple, un_not,
    bin_lss, bin_leq, bin_gtr, bin_geq, bin_eql, bin_neq, bin_add, bin_sub, bin_mul, bin_seql, bin_sneq, bin_ptr_eql, bin_ptr_neq, bin_nil_eql, bin_nil_neq, callS_plain, callS_func, lenS_slice, leaveR_ite, leaveR_ret, leaveR_normal, leaveR_panic, resA_tmp, resA_nil, yieldA_S, slotAt_succ, slotAt_zero, yieldS_some, List.getElem?_toArray, List.getElem?_cons_zero, List.getElem?_cons_succ, resA_cell, cellRes_ptr, Option.bind_some, theCode_rangeS, rangeS_cap, callS_cap, roundA_M, roundM_ready, roundB_N, roundB_R, roundB_E, roundN_none, roundN_some, rangeEnd_M, rangeM_ready, rangeM_ret, setAll_nil, setAll_cons, pack_one, pack_two, pack_none,
    Option.map_some, Option.isSome_some, ne_eq, not_false_eq_true, Nat.reduceEqDiff, Nat.reduceLT, if_true, if_false, Nat.reduceAdd, Nat.add_zero, Nat.zero_add, Option.some.injEq, decide_eq_true_eq, List.map_cons, List.map_nil, List.all_cons, List.all_nil, Bool.and_true, List.nil_append, List.append_nil, List.cons_append,
            hl, i0, i1, i6, i7, i8, hln, hlt, hixs, sli22, ld0, zf38, vc_agg, st0, hbx, cellO_box, off38_0, off38_1, off38_2, off38_3, agg3, agg9, agg4, loadV_flat, cell_eq, en16, hpk, en13, en17, en20, en14, en18, k5, a, Bool.false_eq_true, Bool.not_true, Bool.not_false]
            rfl
          case q8 =>
            refine ⟨_, _, pre ++ [s], post, rfl, by rw [hpp]; simp, rfl, ?_, ?_, ?_, ?_, ?_, ?_, ?_⟩
            · simp only [List.length_set, hl]
            rotate_right
            · rw [runL_snoc, eS]; exact ⟨_, sA, hU.trans u⟩
            all_goals simp (config := { decide := true }) only [rd_ne, rd_same, List.length_set, hl, ne_eq, not_false_eq_true, i0, i1, i6, i7, w6, w7, w8, Int.add_zero]
      have eS : runS (runL σ pre) s = runL σ pre := by unfold runS; simp [k0, k1, k2, k4, k5]
      have eB : runB (runL σ pre) s = 0 := by unfold runB; simp [k0, k1, k2, k4, k5]
      have eT : runT (runL σ pre) s = 0 := by unfold runT; simp [k0, k1, k2, k4, k5]
      have w6 : 1 + runLB σ pre = 1 + runLB σ (pre ++ [s]) := by rw [runLB_snoc, eB] <;> omega
      have w7 : runLT σ pre = runLT σ (pre ++ [s]) := by rw [runLT_snoc, eT] <;> omega
      refine ⟨?s9, ?h9, post.length, by rw [← hk]; simp, ?q9⟩
      case h9 =>
        simp (config := { decide := true }) only [theCode_seq, theCode_list, theCode_skip, theCode_ret, theCode_exit, theCode_label, theCode_block, theCode_if, evalList_plain, evalList_guard, evalList_nil, nd_move, nd_assign, nd_pick, nd_alloc, nd_box, nd_build, nd_buildSlice, nd_load, nd_store, nd_nilCheck, nd_binOp, nd_unOp, nd_convert, nd_makeInterface, nd_makeFunc, nd_makeMap, nd_slice, nd_fieldAddr, nd_field, nd_indexAddr, nd_index, nd_lookup, nd_mapUpdate, nd_typeAssert, nd_extract, nd_call, nd_panic,
    ok_tmp, ok_const, ok_func, cl_int, cl_bool, cl_string, cl_ptr, cl_map, cl_nilFunc, cl_nilIface, cl_slice, opA_move, opA_assign, opA_pick, opA_load, opA_store, opA_nilCheck, opA_fieldAddr, opA_extract, opA_bin, opA_un, opA_call, opA_call0, opA_build0, opA_len, opA_appendS, opA_makeMap, opA_indexAddr, opA_sliceHi, opA_sliceLo, opA_sliceLH, opA_lookup, opA_mapUpdate, opA_build, opA_box, opA_alloc, opA_makeFunc0, opA_makeFunc00,
    contA_val, contA_skip, contA_enter, contA_panic, contA_ite, callA_ret, callA_panic, callA_ite, putT_some, putT_none, aev_tmp, aev_const, aev_func, rd_same, rd_ne, List.length_set, valA_some, skipA_some, pairA_some,
    thenA_normal, thenA_ret, thenA_exit, thenA_panic, thenA_ite, inBlockA_normal, inBlockA_ret, inBlockA_exit, inBlockA_panic, inBlockA_ite, boolOf_bool, loadS_ptr, storeS_ptr, nilCheckS_ptr, nilCheckS_func, fieldAddrS_eq, extractS_tuple, un_not,
    bin_lss, bin_leq, bin_gtr, bin_geq, bin_eql, bin_neq, bin_add, bin_sub, bin_mul, bin_seql, bin_sneq, bin_ptr_eql, bin_ptr_neq, bin_nil_eql, bin_nil_neq, callS_plain, callS_func, lenS_slice, leaveR_ite, leaveR_ret, leaveR_normal, leaveR_panic, resA_tmp, resA_nil, yieldA_S, slotAt_succ, slotAt_zero, yieldS_some, List.getElem?_toArray, List.getElem?_cons_zero, List.getElem?_cons_succ, resA_cell, cellRes_ptr, Option.bind_some, theCode_rangeS, rangeS_cap, callS_cap, roundA_M, roundM_ready, roundB_N, roundB_R, roundB_E, roundN_none, roundN_some, rangeEnd_M, rangeM_ready, rangeM_ret, setAll_nil, setAll_cons, pack_one, pack_two, pack_none,
    Option.map_some, Option.isSome_some, ne_eq, not_false_eq_true, Nat.reduceEqDiff, Nat.reduceLT, if_true, if_false, Nat.reduceAdd, Nat.add_zero, Nat.zero_add, Option.some.injEq, decide_eq_true_eq, List.map_cons, List.map_nil, List.all_cons, List.all_nil, Bool.and_true, List.nil_append, List.append_nil, List.cons_append,
        hl, i0, i1, i6, i7, i8, hln, hlt, hixs, sli22, ld0, zf38, vc_agg, st0, hbx, cellO_box, off38_0, off38_1, off38_2, off38_3, agg3, agg9, agg4, loadV_flat, cell_eq, en16, hpk, en13, en17, en20, en14, en18, k0, k1, k2, k4, k5, Bool.false_eq_true, Bool.not_true, Bool.not_false]
        rfl
      case q9 =>
        refine ⟨_, _, pre ++ [s], post, rfl, by rw [hpp]; simp, rfl, ?_, ?_, ?_, ?_, ?_, ?_, ?_⟩
        · simp only [List.length_set, hl]
        rotate_right
        · rw [runL_snoc, eS]; exact ⟨F, hsA, hU⟩
        all_goals simp (config := { decide := true }) only [rd_ne, rd_same, List.length_set, hl, ne_eq, not_false_eq_true, i0, i1, i6, i7, w6, w7, w8, Int.add_zero]

  · rintro x _ hx' ⟨tm, H, rfl, rfl, hl, i6, i7, h⟩
    refine ⟨H, ?_, h⟩
    simp (config := { decide := true }) only [theCode_seq, theCode_list, theCode_skip, theCode_ret, theCode_exit, theCode_label, theCode_block, theCode_if, evalList_plain, evalList_guard, evalList_nil, nd_move, nd_assign, nd_pick, nd_alloc, nd_box, nd_build, nd_buildSlice, nd_load, nd_store, nd_nilCheck, nd_binOp, nd_unOp, nd_convert, nd_makeInterface, nd_makeFunc, nd_makeMap, nd_slice, nd_fieldAddr, nd_field, nd_indexAddr, nd_index, nd_lookup, nd_mapUpdate, nd_typeAssert, nd_extract, nd_call, nd_panic,
    ok_tmp, ok_const, ok_func, cl_int, cl_bool, cl_string, cl_ptr, cl_map, cl_nilFunc, cl_nilIface, cl_slice, opA_move, opA_assign, opA_pick, opA_load, opA_store, opA_nilCheck, opA_fieldAddr, opA_extract, opA_bin, opA_un, opA_call, opA_call0, opA_build0, opA_len, opA_appendS, opA_makeMap, opA_indexAddr, opA_sliceHi, opA_sliceLo, opA_sliceLH, opA_lookup, opA_mapUpdate, opA_build, opA_box, opA_alloc, opA_makeFunc0, opA_makeFunc00,
    contA_val, contA_skip, contA_enter, contA_panic, contA_ite, callA_ret, callA_panic, callA_ite, putT_some, putT_none, aev_tmp, aev_const, aev_func, rd_same, rd_ne, List.length_set, valA_some, skipA_some, pairA_some,
    thenA_normal, thenA_ret, thenA_exit, thenA_panic, thenA_ite, inBlockA_normal, inBlockA_ret, inBlockA_exit, inBlockA_panic, inBlockA_ite, boolOf_bool, loadS_ptr, storeS_ptr, nilCheckS_ptr, nilCheckS_func, fieldAddrS_eq, extractS_tuple, un_not,
    bin_lss, bin_leq, bin_gtr, bin_geq, bin_eql, bin_neq, bin_add, bin_sub, bin_mul, bin_seql, bin_sneq, bin_ptr_eql, bin_ptr_neq, bin_nil_eql, bin_nil_neq, callS_plain, callS_func, lenS_slice, leaveR_ite, leaveR_ret, leaveR_normal, leaveR_panic, resA_tmp, resA_nil, yieldA_S, slotAt_succ, slotAt_zero, yieldS_some, List.getElem?_toArray, List.getElem?_cons_zero, List.getElem?_cons_succ, resA_cell, cellRes_ptr, Option.bind_some, theCode_rangeS, rangeS_cap, callS_cap, roundA_M, roundM_ready, roundB_N, roundB_R, roundB_E, roundN_none, roundN_some, rangeEnd_M, rangeM_ready, rangeM_ret, setAll_nil, setAll_cons, pack_one, pack_two, pack_none,
    Option.map_some, Option.isSome_some, ne_eq, not_false_eq_true, Nat.reduceEqDiff, Nat.reduceLT, if_true, if_false, Nat.reduceAdd, Nat.add_zero, Nat.zero_add, Option.some.injEq, decide_eq_true_eq, List.map_cons, List.map_nil, List.all_cons, List.all_nil, Bool.and_true, List.nil_append, List.append_nil, List.cons_append, hl, i6, i7]

end Go.Proofs.Ytnjoaffnfjlcaaa

namespace Go.Proofs.Ytnjoaffnfjlcaaa
open Go Go.Proofs B
set_option linter.unusedSimpArgs false

theorem own_upto {H : AHeap} {t e sz : Nat} {i : TypeInfo} {v : Value} {n m : Nat} {cells : List Value} {k : IntKind} (h : Own H e sz v n cells) (hi : sliceInfo Try.prog t = some (i, e)) (hm : m ≤ n) (H2 : AHeap) :
    ∃ v', sliceS Try.prog H2 t v none (some (.int k m)) = some (.val v' H2) ∧ Own H e sz v' m (cells.take (m * sz)) := by
  rcases Nat.eq_zero_or_pos n with hn | hn
  · subst hn
    obtain rfl : m = 0 := by omega
    cases h with
    | nil =>
      refine ⟨.slice none 0 0, ?_, by simpa using Own.nil⟩
      unfold sliceS sliceOf boundOf
      rw [hi]
      simp [valA]
    | @row i' g n' c cs st hg h2 h3 h4 h5 =>
      have ho := Own.row (H := H) (e := e) (sz := sz) (i := i') (g := g) (n := 0) (c := c) (cs := cs) (st := st) hg h2 h3 h4 h5
      refine ⟨.slice (some ⟨i', 0, some g⟩) 0 c, ?_, by simpa using ho⟩
      unfold sliceS
      rw [hi]
      dsimp only
      rw [sliceOf_upto (by omega)]
      rfl
  · obtain ⟨hv, hc, _⟩ := h.shape hn
    have h1 := sliceS_upto (P := Try.prog) (k := k) (m := m) h hn hi (by omega) (by omega) H2
    rw [Int.toNat_natCast] at h1
    refine ⟨_, h1, ?_⟩
    rw [hv] at h
    exact h.cut hm


set_option maxHeartbeats 2000000 in
theorem same19 {ext : CallT} (hx : ∀ f args H, f ≠ 22 → ext f args H = none) {H : AHeap} {v w : Value} {xs : List Int} (ha : Own H 3 1 v xs.length (xs.map tyC)) (hb : Own H 3 1 w xs.length (xs.map tyC)) (hn : xs.length < 1000000) :
    theCall Try.prog ext 19 [v, w] H = some (.ret (.bool true), H) := by
  have ca := fun H2 => ha.lenS isl32 H2
  have cb := fun H2 => hb.lenS isl32 H2
  refine theCall_goal (F := fun z => z = some (.ret (.bool true), H)) (hx _ _ _ (by decide)) Try.func19 (rs := [.tmp 4]) rfl rfl rfl (by simp) fun tm hl hi => ?_
  replace hl : tm.length = 26 := hl
  have i0 := hi 0
  have i1 := hi 1
  simp only [List.getD_cons_zero, List.getD_cons_succ] at i0 i1
  simp (config := { decide := true }) only [theCode_seq, theCode_list, theCode_skip, theCode_ret, theCode_exit, theCode_label, theCode_block, theCode_if, evalList_plain, evalList_guard, evalList_nil, nd_move, nd_assign, nd_pick, nd_alloc, nd_box, nd_build, nd_buildSlice, nd_load, nd_store, nd_nilCheck, nd_binOp, nd_unOp, nd_convert, nd_makeInterface, nd_makeFunc, nd_makeMap, nd_slice, nd_fieldAddr, nd_field, nd_indexAddr, nd_index, nd_lookup, nd_mapUpdate, nd_typeAssert, nd_extract, nd_call, nd_panic,
    ok_tmp, ok_const, ok_func, cl_int, cl_bool, cl_string, cl_ptr, cl_map, cl_nilFunc, cl_nilIface, cl_slice, opA_move, opA_assign, opA_pick, opA_load, opA_store, opA_nilCheck, opA_fieldAddr, opA_extract, opA_bin, opA_un, opA_call, opA_call0, opA_build0, opA_len, opA_appendS, opA_makeMap, opA_indexAddr, opA_sliceHi, opA_sliceLo, opA_sliceLH, opA_lookup, opA_mapUpdate, opA_build, opA_box, opA_alloc, opA_makeFunc0, opA_makeFunc00,
    contA_val, contA_skip, contA_enter, contA_panic, contA_ite, callA_ret, callA_panic, callA_ite, putT_some, putT_none, aev_tmp, aev_const, aev_func, rd_same, rd_ne, List.length_set, valA_some, skipA_some, pairA_some,
    thenA_normal, thenA_ret, thenA_exit, thenA_panic, thenA_ite, inBlockA_normal, inBlockA_ret, inBlockA_exit, inBlockA_panic, inBlockA_ite, boolOf_bool, loadS_ptr, storeS_ptr, nilCheckS_ptr, nilCheckS_func, fieldAddrS_eq, extractS_tuple, un_not,
    bin_lss, bin_leq, bin_gtr, bin_geq, bin_eql, bin_neq, bin_add, bin_sub, bin_mul, bin_seql, bin_sneq, bin_ptr_eql, bin_ptr_neq, bin_nil_eql, bin_nil_neq, callS_plain, callS_func, lenS_slice, leaveR_ite, leaveR_ret, leaveR_normal, leaveR_panic, resA_tmp, resA_nil, yieldA_S, slotAt_succ, slotAt_zero, yieldS_some, List.getElem?_toArray, List.getElem?_cons_zero, List.getElem?_cons_succ, resA_cell, cellRes_ptr, Option.bind_some, theCode_rangeS, rangeS_cap, callS_cap, roundA_M, roundM_ready, roundB_N, roundB_R, roundB_E, roundN_none, roundN_some, rangeEnd_M, rangeM_ready, rangeM_ret, setAll_nil, setAll_cons, pack_one, pack_two, pack_none,
    Option.map_some, Option.isSome_some, ne_eq, not_false_eq_true, Nat.reduceEqDiff, Nat.reduceLT, if_true, if_false, Nat.reduceAdd, Nat.add_zero, Nat.zero_add, Option.some.injEq, decide_eq_true_eq, List.map_cons, List.map_nil, List.all_cons, List.all_nil, Bool.and_true, List.nil_append, List.append_nil, List.cons_append, hl, i0, i1, ca, cb, eq_self, decide_true, Bool.not_true, Bool.false_eq_true]
  refine loop_goal (F := fun z => leaveR Try.prog [.tmp 4] (thenA (inBlockA 0 z) _) = some (.ret (.bool true), H))
    (fun k s => ∃ tm i, s = ⟨tm, [], H⟩ ∧ i + k = xs.length ∧ tm.length = 26 ∧ tm.getD 0 undef = v ∧ tm.getD 1 undef = w ∧ tm.getD 5 undef = .int .i64 (i : Nat))
    (fun x s => ∃ tm, s = ⟨tm, [], H⟩ ∧ x = .exit 0 ∧ tm.length = 26) xs.length ?_ ?_ ?_
  · refine ⟨_, 0, rfl, by omega, ?_, ?_, ?_, ?_⟩
    · simp only [List.length_set, hl]
    all_goals simp (config := { decide := true }) only [rd_ne, rd_same, List.length_set, hl, ne_eq, not_false_eq_true, i0, i1]
    rfl
  · rintro k _ ⟨tm, i, rfl, hik, hl, i0, i1, i5⟩
    cases k with
    | zero =>
      right
      have hlt : ¬ ((i : Int) < xs.length) := by omega
      refine ⟨?x0, ?s0, ?h0, ?hx0, ?hq0⟩
      case h0 =>
        simp (config := { decide := true }) only [theCode_seq, theCode_list, theCode_skip, theCode_ret, theCode_exit, theCode_label, theCode_block, theCode_if, evalList_plain, evalList_guard, evalList_nil, nd_move, nd_assign, nd_pick, nd_alloc, nd_box, nd_build, nd_buildSlice, nd_load, nd_store, nd_nilCheck, nd_binOp, nd_unOp, nd_convert, nd_makeInterface, nd_makeFunc, nd_makeMap, nd_slice, nd_fieldAddr, nd_field, nd_indexAddr, nd_index, nd_lookup, nd_mapUpdate, nd_typeAssert, nd_extract, nd_call, nd_panic,
    ok_tmp, ok_const, ok_func, cl_int, cl_bool, cl_string, cl_ptr, cl_map, cl_nilFunc, cl_nilIface, cl_slice, opA_move, opA_assign, opA_pick, opA_load, opA_store, opA_nilCheck, opA_fieldAddr, opA_extract, opA_bin, opA_un, opA_call, opA_call0, opA_build0, opA_len, opA_appendS, opA_makeMap, opA_indexAddr, opA_sliceHi, opA_sliceLo, opA_sliceLH, opA_lookup, opA_mapUpdate, opA_build, opA_box, opA_alloc, opA_makeFunc0, opA_makeFunc00,
    contA_val, contA_skip, contA_enter, contA_panic, contA_ite, callA_ret, callA_panic, callA_ite, putT_some, putT_none, aev_tmp, aev_const, aev_func, rd_same, rd_ne, List.length_set, valA_some, skipA_some, pairA_some,
    thenA_normal, thenA_ret, thenA_exit, thenA_panic, thenA_ite, inBlockA_normal, inBlockA_ret, inBlockA_exit, inBlockA_panic, inBlockA_ite, boolOf_bool, loadS_ptr, storeS_ptr, nilCheckS_ptr, nilCheckS_func, fieldAddrS_eq, extractS_tuple, un_not,
    bin_lss, bin_leq, bin_gtr, bin_geq, bin_eql, bin_neq, bin_add, bin_sub, bin_mul, bin_seql, bin_sneq, bin_ptr_eql, bin_ptr_neq, bin_nil_eql, bin_nil_neq, callS_plain, callS_func, lenS_slice, leaveR_ite, leaveR_ret, leaveR_normal, leaveR_panic, resA_tmp, resA_nil, yieldA_S, slotAt_succ, slotAt_zero, yieldS_some, List.getElem?_toArray, List.getElem?_cons_zero, List.getElem?_cons_succ, resA_cell, cellRes_ptr, Option.bind_some, theCode_rangeS, rangeS_cap, callS_cap, roundA_M, roundM_ready, roundB_N, roundB_R, roundB_E, roundN_none, roundN_some, rangeEnd_M, rangeM_ready, rangeM_ret, setAll_nil, setAll_cons, pack_one, pack_two, pack_none,
    Option.map_some, Option.isSome_some, ne_eq, not_false_eq_true, Nat.reduceEqDiff, Nat.reduceLT, if_true, if_false, Nat.reduceAdd, Nat.add_zero, Nat.zero_add, Option.some.injEq, decide_eq_true_eq, List.map_cons, List.map_nil, List.all_cons, List.all_nil, Bool.and_true, List.nil_append, List.append_nil, List.cons_append, hl, i0, i1, i5, ca, cb, hlt, Bool.false_eq_true]
        rfl
      case hx0 => exact fun h => by cases h
      case hq0 => exact ⟨_, rfl, rfl, by simp only [List.length_set, hl]⟩
    | succ k =>
      left
      have hlt : (i : Int) < xs.length := by omega
      have hia := fun H2 => indexAddrS_own (j := i) (k := .i64) ha (by omega) (by omega) es32 H2
      have hib := fun H2 => indexAddrS_own (j := i) (k := .i64) hb (by omega) (by omega) es32 H2
      simp only [Int.toNat_natCast] at hia hib
      have hil : i < xs.length := by omega
      have la : H.cell (addA (baseOf v) (i * 1)) = some (.int .i64 xs[i]) := by
        rw [ha.cell (by omega)]; simp [List.getElem?_map, List.getElem?_eq_getElem hil, tyC]
      have lb : H.cell (addA (baseOf w) (i * 1)) = some (.int .i64 xs[i]) := by
        rw [hb.cell (by omega)]; simp [List.getElem?_map, List.getElem?_eq_getElem hil, tyC]
      have w5 : IntKind.i64.wrap ((i : Int) + 1) = ((i + 1 : Nat) : Int) := by rw [IntWalk.i64_in _ (by omega)]; omega
      refine ⟨?s1, ?h1, k, Nat.lt_succ_self _, ?q1⟩
      case h1 =>
        simp (config := { decide := true }) only [theCode_seq, theCode_list, theCode_skip, theCode_ret, theCode_exit, theCode_label, theCode_block, theCode_if, evalList_plain, evalList_guard, evalList_nil, nd_move, nd_assign, nd_pick, nd_alloc, nd_box, nd_build, nd_buildSlice, nd_load, nd_store, nd_nilCheck, nd_binOp, nd_unOp, nd_convert, nd_makeInterface, nd_makeFunc, nd_makeMap, nd_slice, nd_fieldAddr, nd_field, nd_indexAddr, nd_index, nd_lookup, nd_mapUpdate, nd_typeAssert, nd_extract, nd_call, nd_panic,
    ok_tmp, ok_const, ok_func, cl_int, cl_bool, cl_string, cl_ptr, cl_map, cl_nilFunc, cl_nilIface, cl_slice, opA_move, opA_assign, opA_pick, opA_load, opA_store, opA_nilCheck, opA_fieldAddr, opA_extract, opA_bin, opA_un, opA_call, opA_call0, opA_build0, opA_len, opA_appendS, opA_makeMap, opA_indexAddr, opA_sliceHi, opA_sliceLo, opA_sliceLH, opA_lookup, opA_mapUpdate, opA_build, opA_box, opA_alloc, opA_makeFunc0, opA_makeFunc00,
    contA_val, contA_skip, contA_enter, contA_panic, contA_ite, callA_ret, callA_panic, callA_ite, putT_some, putT_none, aev_tmp, aev_const, aev_func, rd_same, rd_ne, List.length_set, valA_some, skipA_some, pairA_some,
    thenA_normal, thenA_ret, thenA_exit, thenA_panic, thenA_ite, inBlockA_normal, inBlockA_ret, inBlockA_exit, inBlockA_panic, inBlockA_ite, boolOf_bool, loadS_ptr, storeS_ptr, nilCheckS_ptr, nilCheckS_func, fieldAddrS_eq, extractS_tuple, un_not,
    bin_lss, bin_leq, bin_gtr, bin_geq, bin_eql, bin_neq, bin_add, bin_sub, bin_mul, bin_seql, bin_sneq, bin_ptr_eql, bin_ptr_neq, bin_nil_eql, bin_nil_neq, callS_plain, callS_func, lenS_slice, leaveR_ite, leaveR_ret, leaveR_normal, leaveR_panic, resA_tmp, resA_nil, yieldA_S, slotAt_succ, slotAt_zero, yieldS_some, List.getElem?_toArray, List.getElem?_cons_zero, List.getElem?_cons_succ, resA_cell, cellRes_ptr, Option.bind_some, theCode_rangeS, rangeS_cap, callS_cap, roundA_M, roundM_ready, roundB_N, roundB_R, roundB_E, roundN_none, roundN_some, rangeEnd_M, rangeM_ready, rangeM_ret, setAll_nil, setAll_cons, pack_one, pack_two, pack_none,
    Option.map_some, Option.isSome_some, ne_eq, not_false_eq_true, Nat.reduceEqDiff, Nat.reduceLT, if_true, if_false, Nat.reduceAdd, Nat.add_zero, Nat.zero_add, Option.some.injEq, decide_eq_true_eq, List.map_cons, List.map_nil, List.all_cons, List.all_nil, Bool.and_true, List.nil_append, List.append_nil, List.cons_append, hl, i0, i1, i5, ca, cb, hlt]
        rw [theCode_text (by kernel_rfl)]
        simp (config := { decide := true }) only [theCode_seq, theCode_list, theCode_skip, theCode_ret, theCode_exit, theCode_label, theCode_block, theCode_if, evalList_plain, evalList_guard, evalList_nil, nd_move, nd_assign, nd_pick, nd_alloc, nd_box, nd_build, nd_buildSlice, nd_load, nd_store, nd_nilCheck, nd_binOp, nd_unOp, nd_convert, nd_makeInterface, nd_makeFunc, nd_makeMap, nd_slice, nd_fieldAddr, nd_field, nd_indexAddr, nd_index, nd_lookup, nd_mapUpdate, nd_typeAssert, nd_extract, nd_call, nd_panic,
    ok_tmp, ok_const, ok_func, cl_int, cl_bool, cl_string, cl_ptr, cl_map, cl_nilFunc, cl_nilIface, cl_slice, opA_move, opA_assign, opA_pick, opA_load, opA_store, opA_nilCheck, opA_fieldAddr, opA_extract, opA_bin, opA_un, opA_call, opA_call0, opA_build0, opA_len, opA_appendS, opA_makeMap, opA_indexAddr, opA_sliceHi, opA_sliceLo, opA_sliceLH, opA_lookup, opA_mapUpdate, opA_build, opA_box, opA_alloc, opA_makeFunc0, opA_makeFunc00,
    contA_val, contA_skip, contA_enter, contA_panic, contA_ite, callA_ret, callA_panic, callA_ite, putT_some, putT_none, aev_tmp, aev_const, aev_func, rd_same, rd_ne, List.length_set, valA_some, skipA_some, pairA_some,
    thenA_normal, thenA_ret, thenA_exit, thenA_panic, thenA_ite, inBlockA_normal, inBlockA_ret, inBlockA_exit, inBlockA_panic, inBlockA_ite, boolOf_bool, loadS_ptr, storeS_ptr, nilCheckS_ptr, nilCheckS_func, fieldAddrS_eq, extractS_tuple, un_not,
    bin_lss, bin_leq, bin_gtr, bin_geq, bin_eql, bin_neq, bin_add, bin_sub, bin_mul, bin_seql, bin_sneq, bin_ptr_eql, bin_ptr_neq, bin_nil_eql, bin_nil_neq, callS_plain, callS_func, lenS_slice, leaveR_ite, leaveR_ret, leaveR_normal, leaveR_panic, resA_tmp, resA_nil, yieldA_S, slotAt_succ, slotAt_zero, yieldS_some, List.getElem?_toArray, List.getElem?_cons_zero, List.getElem?_cons_succ, resA_cell, cellRes_ptr, Option.bind_some, theCode_rangeS, rangeS_cap, callS_cap, roundA_M, roundM_ready, roundB_N, roundB_R, roundB_E, roundN_none, roundN_some, rangeEnd_M, rangeM_ready, rangeM_ret, setAll_nil, setAll_cons, pack_one, pack_two, pack_none,
    Option.map_some, Option.isSome_some, ne_eq, not_false_eq_true, Nat.reduceEqDiff, Nat.reduceLT, if_true, if_false, Nat.reduceAdd, Nat.add_zero, Nat.zero_add, Option.some.injEq, decide_eq_true_eq, List.map_cons, List.map_nil, List.all_cons, List.all_nil, Bool.and_true, List.nil_append, List.append_nil, List.cons_append, dropP_normal, hl, i0, i1, i5, hia, hib, sli32, la, lb, agg3, loadV_flat, eq_self, decide_true, Bool.not_true, Bool.false_eq_true]
        rfl
      case q1 =>
        refine ⟨_, i + 1, rfl, by omega, ?_, ?_, ?_, ?_⟩
        · simp only [List.length_set, hl]
        all_goals simp (config := { decide := true }) only [rd_ne, rd_same, List.length_set, hl, ne_eq, not_false_eq_true, i0, i1, i5, w5]
  · rintro x _ hx' ⟨tm, rfl, rfl, hl⟩
    simp (config := { decide := true }) only [theCode_seq, theCode_list, theCode_skip, theCode_ret, theCode_exit, theCode_label, theCode_block, theCode_if, evalList_plain, evalList_guard, evalList_nil, nd_move, nd_assign, nd_pick, nd_alloc, nd_box, nd_build, nd_buildSlice, nd_load, nd_store, nd_nilCheck, nd_binOp, nd_unOp, nd_convert, nd_makeInterface, nd_makeFunc, nd_makeMap, nd_slice, nd_fieldAddr, nd_field, nd_indexAddr, nd_index, nd_lookup, nd_mapUpdate, nd_typeAssert, nd_extract, nd_call, nd_panic,
    ok_tmp, ok_const, ok_func, cl_int, cl_bool, cl_string, cl_ptr, cl_map, cl_nilFunc, cl_nilIface, cl_slice, opA_move, opA_assign, opA_pick, opA_load, opA_store, opA_nilCheck, opA_fieldAddr, opA_extract, opA_bin, opA_un, opA_call, opA_call0, opA_build0, opA_len, opA_appendS, opA_makeMap, opA_indexAddr, opA_sliceHi, opA_sliceLo, opA_sliceLH, opA_lookup, opA_mapUpdate, opA_build, opA_box, opA_alloc, opA_makeFunc0, opA_makeFunc00,
    contA_val, contA_skip, contA_enter, contA_panic, contA_ite, callA_ret, callA_panic, callA_ite, putT_some, putT_none, aev_tmp, aev_const, aev_func, rd_same, rd_ne, List.length_set, valA_some, skipA_some, pairA_some,
    thenA_normal, thenA_ret, thenA_exit, thenA_panic, thenA_ite, inBlockA_normal, inBlockA_ret, inBlockA_exit, inBlockA_panic, inBlockA_ite, boolOf_bool, loadS_ptr, storeS_ptr, nilCheckS_ptr, nilCheckS_func, fieldAddrS_eq, extractS_tuple, un_not,
    bin_lss, bin_leq, bin_gtr, bin_geq, bin_eql, bin_neq, bin_add, bin_sub, bin_mul, bin_seql, bin_sneq, bin_ptr_eql, bin_ptr_neq, bin_nil_eql, bin_nil_neq, callS_plain, callS_func, lenS_slice, leaveR_ite, leaveR_ret, leaveR_normal, leaveR_panic, resA_tmp, resA_nil, yieldA_S, slotAt_succ, slotAt_zero, yieldS_some, List.getElem?_toArray, List.getElem?_cons_zero, List.getElem?_cons_succ, resA_cell, cellRes_ptr, Option.bind_some, theCode_rangeS, rangeS_cap, callS_cap, roundA_M, roundM_ready, roundB_N, roundB_R, roundB_E, roundN_none, roundN_some, rangeEnd_M, rangeM_ready, rangeM_ret, setAll_nil, setAll_cons, pack_one, pack_two, pack_none,
    Option.map_some, Option.isSome_some, ne_eq, not_false_eq_true, Nat.reduceEqDiff, Nat.reduceLT, if_true, if_false, Nat.reduceAdd, Nat.add_zero, Nat.zero_add, Option.some.injEq, decide_eq_true_eq, List.map_cons, List.map_nil, List.all_cons, List.all_nil, Bool.and_true, List.nil_append, List.append_nil, List.cons_append, hl]

end Go.Proofs.Ytnjoaffnfjlcaaa

namespace Go.Proofs.Ytnjoaffnfjlcaaa
open Go Go.Proofs B Go.ChangeShapes Go.WideShapes Go.ChangeAt Go.RowKit Go.ChangeMaps

theorem Try.own : ownKnob Try.prog.godebug = none := by kernel_rfl
theorem Try.laidOut : laidOutB Try.prog = true := by kernel_rfl
theorem Try.mapsRow : mapsRowed Try.prog = true := by kernel_rfl
theorem Try.kids : Kids Try.prog (· < Try.prog.types.size) := kids_rows Try.laidOut Try.mapsRow
theorem Try.full : ∀ t e, t < Try.prog.types.size → Try.prog.underlying t = some (.slice e) → 0 < Try.prog.cellsOf e := slices_full_of Try.prog (by kernel_rfl)
theorem ext0_ok : CallOK Try.prog (fun _ _ _ => none) := fun _ _ _ _ _ h => by simp at h
theorem Try.mixed : Try.prog.follows .mixedOrders = true := Try.checked.mixed

section
variable {H : Type} {enc : TypeId × Value → H} {W : World} {base : Nat} {spare : Nat → Bool} {held : Bool}

theorem trod_step {n : Nat} {cs : List Value} {x : DataW H × List MemPlace} (h : DataW.trod enc Try.prog W base spare held n 38 cs = some x) : ∃ s : Stp, cs = stpC s := by
  obtain ⟨xs, n', rfl, hx, hl, hxl, hf⟩ := DataW.trod_struct (und_of Try.underlying38) h
  have hl4 : cs.length = 4 := by rw [hl, cells38]
  obtain ⟨a, b, c, d, rfl⟩ : ∃ a b c d, cs = [a, b, c, d] := by
    match cs, hl4 with
    | [a, b, c, d], _ => exact ⟨a, b, c, d, rfl⟩
  have hx4 : xs.length = 4 := hxl
  have h0 : DataW.trod enc Try.prog W base spare held n' 3 ((([a, b, c, d] : List Value).drop 0).take (Try.prog.cellsOf 3)) = xs[0]? := hf 0 _ rfl
  have h1 : DataW.trod enc Try.prog W base spare held n' 9 ((([a, b, c, d] : List Value).drop 1).take (Try.prog.cellsOf 9)) = xs[1]? := hf 1 _ rfl
  have h2 : DataW.trod enc Try.prog W base spare held n' 3 ((([a, b, c, d] : List Value).drop 2).take (Try.prog.cellsOf 3)) = xs[2]? := hf 2 _ rfl
  have h3 : DataW.trod enc Try.prog W base spare held n' 4 ((([a, b, c, d] : List Value).drop 3).take (Try.prog.cellsOf 4)) = xs[3]? := hf 3 _ rfl
  rw [List.getElem?_eq_getElem (by omega)] at h0 h1 h2 h3
  simp only [cells3, cells9, cells4, List.drop_zero, List.drop_succ_cons, List.take_succ_cons, List.take_zero] at h0 h1 h2 h3
  obtain ⟨k, e0, _⟩ := DataW.trod_int Try.underlying3 h0
  obtain ⟨nm, e1, _⟩ := DataW.trod_string Try.underlying9 h1
  obtain ⟨ty, e2, _⟩ := DataW.trod_int Try.underlying3 h2
  obtain ⟨tn, e3, _⟩ := DataW.trod_bool Try.underlying4 h3
  simp only [List.cons.injEq, and_true] at e0 e1 e2 e3
  subst e0; subst e1; subst e2; subst e3
  exact ⟨⟨k, nm, ty, tn⟩, rfl⟩

/-- A script that came in: what the abstract machine is handed for it. -/
theorem script_in {v : Value} {d : DataW H} {p : List MemPlace} (hv : ∃ a len cap, v = .slice a len cap) (hs : ∀ b, spare b = true) (h : DataW.Trod enc Try.prog W base spare held 22 v d p) :
    ∃ v' l, VRel (embOf W) v' v ∧ Scr (heapOf W) v' l := by
  obtain ⟨n, h⟩ := h
  obtain ⟨a0, len0, cap0, rfl⟩ := hv
  rw [show (Value.slice a0 len0 cap0).cells.toList = [.slice a0 len0 cap0] by simp [Value.cells]] at h
  rcases DataW.trod_slice (und_of Try.underlying22) h with ⟨e, _⟩ | ⟨a, len, cap, elems, rest, n', _, e, _, hb, hlc, _, hel, hE, hR, _⟩
  · simp only [List.cons.injEq, Value.slice.injEq, and_true] at e
    obtain ⟨rfl, rfl, rfl⟩ := e
    exact ⟨_, [], .closed rfl, ⟨none, 0, rfl, Nat.le_refl _, fun h => by simp at h⟩, fun h => by simp at h, fun i hi => by simp at hi⟩
  · simp only [List.cons.injEq, Value.slice.injEq, and_true] at e
    obtain ⟨rfl, rfl, rfl⟩ := e
    rw [cells38] at hE hR
    rcases Nat.eq_zero_or_pos cap0 with hc0 | hc0
    · subst hc0
      obtain rfl : len0 = 0 := by omega
      exact ⟨_, [], good_empty, ⟨_, 0, rfl, Nat.le_refl _, fun h => by simp at h⟩, fun h => by simp at h, fun i hi => by simp at hi⟩
    have hstep : ∀ i, i < len0 → ∃ s : Stp, W.cells? base (a.add (i * 4)) 4 = some (stpC s) := by
      intro i hi
      have h1 := hE i hi
      rw [List.getElem?_eq_getElem (by omega), Option.bind_eq_some_iff] at h1
      obtain ⟨cs, h2, h3⟩ := h1
      obtain ⟨s, rfl⟩ := trod_step h3
      exact ⟨s, h2⟩
    have hrow : a.spot = none ∧ isRow W a.block = true := by
      have : ∃ cs, W.cells? base (a.add 0) 4 = some cs := by
        rcases Nat.eq_zero_or_pos len0 with hl0 | hl0
        · subst hl0
          obtain ⟨hr1, hr2⟩ := hR (hs _)
          have h1 := hr2 0 (by omega)
          rw [List.getElem?_eq_getElem (by omega), Option.bind_eq_some_iff] at h1
          obtain ⟨cs, h2, _⟩ := h1
          exact ⟨cs, by simpa using h2⟩
        · obtain ⟨s, hs⟩ := hstep 0 hl0
          exact ⟨_, by simpa using hs⟩
      obtain ⟨cs, hcs⟩ := this
      obtain ⟨h1, h2⟩ := cells?_at hcs
      have h3 := h2 0 (cs[0]'(by omega)) (List.getElem?_eq_getElem (by omega))
      have h4 := cell_isRow h3
      simpa [Addr.add] using h4
    obtain ⟨hsp, hir⟩ := hrow
    obtain ⟨f, hf⟩ : ∃ f : Nat → Stp, ∀ i, i < len0 → W.cells? base (a.add (i * 4)) 4 = some (stpC (f i)) :=
      ⟨fun i => if h : i < len0 then (hstep i h).choose else ⟨0, ⟨#[]⟩, 0, false⟩, fun i hi => by dsimp only; rw [dif_pos hi]; exact (hstep i hi).choose_spec⟩
    refine ⟨.slice (some a) len0 cap0, (List.range len0).map f, good_slice hsp hir hlc, ⟨some a, cap0, by simp, by simpa using hlc, fun _ => rfl⟩, fun _ e => ?_, fun i hi => ?_⟩
    · obtain ⟨c, e', fz, hcl⟩ := isRow_some hir
      unfold AHeap.elemOk
      rw [show (baseOf (.slice (some a) len0 cap0)).block = a.block from rfl, heapOf_view hcl]
      rfl
    · have hi' : i < len0 := by simpa using hi
      have hg : ((List.range len0).map f).getD i ⟨0, ⟨#[]⟩, 0, false⟩ = f i := by
        rw [List.getD_eq_getElem?_getD, List.getElem?_map, List.getElem?_range hi']; rfl
      rw [hg]
      obtain ⟨h1, h2⟩ := cells?_at (hf i hi')
      have hsp' : (addA a (i * 4)).spot = none := hsp
      refine heapOf_readN (a := addA a (i * 4)) hsp' rfl fun j v hj => ?_
      have h3 := h2 j v hj
      rw [addA_add' hsp, addA_add' hsp'] at h3
      refine ⟨h3, .closed ?_⟩
      have hm := List.mem_of_getElem? hj
      simp only [stpC, List.mem_cons, List.not_mem_nil, or_false] at hm
      rcases hm with rfl | rfl | rfl | rfl <;> simp [closedV]

end
end Go.Proofs.Ytnjoaffnfjlcaaa
