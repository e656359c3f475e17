/-
  The scope's state, in plain Lean, and where it stands in the abstract heap.
-/
import Derived.Test.YtnjoaffnfjlcaaaFindf
namespace Go.Proofs.Ytnjoaffnfjlcaaa
open Go Go.Proofs B

structure Trn where
  label : ByteArray
  loop : Bool
  no : Nat

abbrev Blk := List (ByteArray × Nat)

structure Sc where
  blocks : List Blk
  turns : List Trn
  types : List Int
  next : Nat

def lookN : Blk → ByteArray → Option Nat
  | [], _ => none
  | p :: l, k => if k = p.1 then some p.2 else lookN l k

def entV (m : Blk) : List (ByteArray × Value) := m.map fun p => (p.1, .int .i64 p.2)
theorem lookB_entV (m : Blk) (k : ByteArray) : lookB (entV m) k = (lookN m k).map fun n : Nat => Value.int .i64 (n : Int) := by
  induction m with
  | nil => rfl
  | cons p l ih =>
    simp only [entV, List.map_cons, lookB, lookN] at ih ⊢
    split
    · rfl
    · exact ih
theorem lookB_entV_some (m : Blk) (k : ByteArray) : (lookB (entV m) k).isSome = (lookN m k).isSome := by rw [lookB_entV]; cases lookN m k <;> rfl

def trnC (t : Trn) : List Value := [.string t.label, .bool t.loop, .int .i64 t.no]
def tyC (t : Int) : Value := .int .i64 t

/-- Where a scope's parts lie. -/
def SFoot (b : Nat) (bl tl ts : Value) (rs : List Nat) : Nat → Prop := fun j => j = b ∨ idOf bl = some j ∨ idOf tl = some j ∨ idOf ts = some j ∨ j ∈ rs

structure SAt (H : AHeap) (b : Nat) (σ : Sc) (bl tl ts : Value) (rs : List Nat) : Prop where
  box : H.get b = some (.box [bl, tl, ts, .int .i64 σ.next] 55)
  ob : Own H 56 1 bl σ.blocks.length (rs.map fun r => Value.map (some r))
  ot : Own H 62 3 tl σ.turns.length (σ.turns.flatMap trnC)
  oy : Own H 3 1 ts σ.types.length (σ.types.map tyC)
  maps : ∀ i, i < σ.blocks.length → ∃ r, rs[i]? = some r ∧ H.get r = some (.map (strE (entV (σ.blocks.getD i []))))
  nd : rs.Nodup

def ScopeAt (H : AHeap) (b : Nat) (σ : Sc) (F : Nat → Prop) : Prop := ∃ bl tl ts rs, SAt H b σ bl tl ts rs ∧ F = SFoot b bl tl ts rs

theorem B.Own.isArr {H : AHeap} {e sz : Nat} {v : Value} {n : Nat} {cells : List Value} (h : Own H e sz v n cells) {j : Nat} (hj : idOf v = some j) : ∃ cs st g, H.get j = some (.arr cs st g e false) := by
  cases h with
  | nil => simp [idOf] at hj
  | row hg h2 h3 h4 h5 =>
    simp only [idOf, Option.some.injEq] at hj
    subst hj
    exact ⟨_, _, _, hg⟩

variable {H H2 : AHeap} {b : Nat} {σ : Sc} {bl tl ts : Value} {rs : List Nat}

theorem SAt.len (h : SAt H b σ bl tl ts rs) : rs.length = σ.blocks.length := by
  have := Own.length h.ob
  simpa using this

theorem SAt.mem (h : SAt H b σ bl tl ts rs) {r : Nat} (hr : r ∈ rs) : ∃ es, H.get r = some (.map es) := by
  obtain ⟨i, hi, rfl⟩ := List.getElem_of_mem hr
  obtain ⟨r', h1, h2⟩ := h.maps i (by rw [← h.len]; exact hi)
  rw [List.getElem?_eq_getElem hi] at h1
  obtain rfl := by simpa using h1
  exact ⟨_, h2⟩

theorem SAt.lt (h : SAt H b σ bl tl ts rs) (hf : H.Fresh) {j : Nat} (hj : SFoot b bl tl ts rs j) : j < H.next := by
  rcases hj with rfl | hj | hj | hj | hj
  · exact get_lt hf h.box
  · exact h.ob.id_lt hf j hj
  · exact h.ot.id_lt hf j hj
  · exact h.oy.id_lt hf j hj
  · obtain ⟨es, he⟩ := h.mem hj; exact get_lt hf he

theorem SAt.keep (h : SAt H b σ bl tl ts rs) (hk : ∀ j, SFoot b bl tl ts rs j → H2.get j = H.get j) : SAt H2 b σ bl tl ts rs where
  box := by rw [hk b (.inl rfl)]; exact h.box
  ob := h.ob.mono fun i hi => hk i (.inr (.inl hi))
  ot := h.ot.mono fun i hi => hk i (.inr (.inr (.inl hi)))
  oy := h.oy.mono fun i hi => hk i (.inr (.inr (.inr (.inl hi))))
  maps := fun i hi => by
    obtain ⟨r, h1, h2⟩ := h.maps i hi
    exact ⟨r, h1, by rw [hk r (.inr (.inr (.inr (.inr (List.mem_of_getElem? h1)))))]; exact h2⟩
  nd := h.nd

theorem SAt.grown (h : SAt H b σ bl tl ts rs) (hf : H.Fresh) (g : Grown H H2) : SAt H2 b σ bl tl ts rs := h.keep fun j hj => g.get j (h.lt hf hj)

theorem ScopeAt.grown {F : Nat → Prop} (h : ScopeAt H b σ F) (hf : H.Fresh) (g : Grown H H2) : ScopeAt H2 b σ F := by
  obtain ⟨bl, tl, ts, rs, h1, h2⟩ := h
  exact ⟨bl, tl, ts, rs, h1.grown hf g, h2⟩

theorem ScopeAt.lt {F : Nat → Prop} (h : ScopeAt H b σ F) (hf : H.Fresh) {j : Nat} (hj : F j) : j < H.next := by
  obtain ⟨bl, tl, ts, rs, h1, rfl⟩ := h
  exact h1.lt hf hj

/-- It stays while its footprint stays. -/
theorem ScopeAt.keep {F : Nat → Prop} (h : ScopeAt H b σ F) (hk : ∀ j, F j → H2.get j = H.get j) : ScopeAt H2 b σ F := by
  obtain ⟨bl, tl, ts, rs, h1, rfl⟩ := h
  exact ⟨bl, tl, ts, rs, h1.keep hk, rfl⟩

/-! ### What the operations do -/
/-- The slot of a name's innermost meaning. -/
def Sc.findAt (σ : Sc) (nm : ByteArray) : Option Nat := lastI (fun i => (lookN (σ.blocks.getD i []) nm).isSome) σ.blocks.length
def Sc.find (σ : Sc) (nm : ByteArray) : Option Nat := (σ.findAt nm).bind fun i => lookN (σ.blocks.getD i []) nm

def Sc.ok (σ : Sc) : Prop := ∀ m ∈ σ.blocks, ∀ p ∈ m, p.2 < σ.types.length

theorem lookN_mem {m : Blk} {k : ByteArray} {n : Nat} (h : lookN m k = some n) : (k, n) ∈ m := by
  induction m with
  | nil => simp [lookN] at h
  | cons p l ih =>
    unfold lookN at h
    split at h
    · rename_i hk
      simp only [Option.some.injEq] at h
      subst hk; subst h
      exact List.mem_cons_self ..
    · exact List.mem_cons_of_mem _ (ih h)

def tMatch (t : Trn) (nm : ByteArray) (tn : Bool) : Bool := (decide (nm = ⟨#[]⟩) || decide (t.label = nm)) && (t.loop || !tn)
def tTwice (t : Trn) (nm : ByteArray) : Bool := !decide (nm = ⟨#[]⟩) && decide (t.label = nm)
def noTrn : Trn := ⟨⟨#[]⟩, false, 0⟩
def Sc.targetAt (σ : Sc) (nm : ByteArray) (tn : Bool) : Option Nat := lastI (fun i => tMatch (σ.turns.getD i noTrn) nm tn) σ.turns.length
def Sc.target (σ : Sc) (nm : ByteArray) (tn : Bool) : Option Nat := (σ.targetAt nm tn).map fun i => (σ.turns.getD i noTrn).no
def Sc.twice (σ : Sc) (nm : ByteArray) : Bool := (lastI (fun i => tTwice (σ.turns.getD i noTrn) nm) σ.turns.length).isSome
def Sc.top (σ : Sc) : Blk := σ.blocks.getD (σ.blocks.length - 1) []

def Sc.open' (σ : Sc) : Sc := { σ with blocks := σ.blocks ++ [[]] }
def Sc.close (σ : Sc) : Sc := if σ.blocks.length ≤ 1 then σ else { σ with blocks := σ.blocks.take (σ.blocks.length - 1) }
def Sc.leave (σ : Sc) : Sc := if σ.turns.length = 0 then σ else { σ with turns := σ.turns.take (σ.turns.length - 1) }
/-- The error of a declaration: 0, 70, 73. -/
def Sc.declErr (σ : Sc) (nm : ByteArray) : Nat := if (lookN σ.top nm).isSome then 70 else if σ.types.length = 256 then 73 else 0
def Sc.decl (σ : Sc) (nm : ByteArray) (ty : Int) : Sc := if σ.declErr nm = 0 then { σ with blocks := σ.blocks.take (σ.blocks.length - 1) ++ [σ.top ++ [(nm, σ.types.length)]], types := σ.types ++ [ty] } else σ
def Sc.enter (σ : Sc) (nm : ByteArray) (tn : Bool) : Sc := if σ.twice nm then σ else { σ with turns := σ.turns ++ [⟨nm, tn, σ.next⟩], next := σ.next + 1 }
def sc0 : Sc := ⟨[[]], [], [], 0⟩

/-! ### The elements, read -/
theorem SAt.valB (h : SAt H b σ bl tl ts rs) {i : Nat} (hi : i < σ.blocks.length) : H.loadV Try.prog 56 (addA (baseOf bl) (i * 1)) = some (.map (some (rs.getD i 0))) := by
  rw [loadV_flat agg56, h.ob.cell (by omega)]
  have : i < rs.length := by rw [h.len]; exact hi
  simp [List.getElem?_map, List.getD_eq_getElem?_getD, List.getElem?_eq_getElem this]

theorem trnC_drop (l : List Trn) {i : Nat} (hi : i < l.length) : ((l.flatMap trnC).drop (i * 3)).take 3 = trnC (l.getD i noTrn) := by
  induction l generalizing i with
  | nil => simp at hi
  | cons t l ih =>
    cases i with
    | zero => simp [trnC]
    | succ i =>
      simp only [List.length_cons] at hi
      have h3 : ∀ X : List Value, (trnC t ++ X).drop (i * 3 + 3) = X.drop (i * 3) := fun X => rfl
      rw [List.flatMap_cons, show (i + 1) * 3 = i * 3 + 3 by omega, h3, ih (by omega)]
      rfl

def trnV (t : Trn) : Value := .agg (trnC t).toArray

theorem SAt.valT (h : SAt H b σ bl tl ts rs) {i : Nat} (hi : i < σ.turns.length) : H.loadV Try.prog 62 (addA (baseOf tl) (i * 3)) = some (trnV (σ.turns.getD i noTrn)) := by
  rw [loadV_agg agg62 info62, cells62, h.ot.readN (by omega) (by decide), trnC_drop _ hi]
  rfl

theorem SAt.valY (h : SAt H b σ bl tl ts rs) {i : Nat} (hi : i < σ.types.length) : H.loadV Try.prog 3 (addA (baseOf ts) (i * 1)) = some (tyC (σ.types.getD i 0)) := by
  rw [loadV_flat agg3, h.oy.cell (by omega)]
  simp [List.getElem?_map, List.getD_eq_getElem?_getD, List.getElem?_eq_getElem hi]

/-! ### What is distinct -/
def kindO : Option AObj → Nat
  | some (.arr _ _ _ e _) => e
  | some (.box _ _) => 1000
  | some (.map _) => 1001
  | _ => 1002

theorem B.Own.kind {H : AHeap} {e sz : Nat} {v : Value} {n : Nat} {cells : List Value} (h : Own H e sz v n cells) {j : Nat} (hj : idOf v = some j) : kindO (H.get j) = e := by
  obtain ⟨cs, st, g, hg⟩ := h.isArr hj
  rw [hg]; rfl
theorem SAt.kb (h : SAt H b σ bl tl ts rs) : kindO (H.get b) = 1000 := by rw [h.box]; rfl
theorem SAt.kr (h : SAt H b σ bl tl ts rs) {r : Nat} (hr : r ∈ rs) : kindO (H.get r) = 1001 := by
  obtain ⟨es, he⟩ := h.mem hr
  rw [he]; rfl

/-- The blocks turn. -/
theorem SAt.repB {bl' : Value} {rs' : List Nat} {blocks' : List Blk} (h : SAt H b σ bl tl ts rs) (hf : H.Fresh) (hfr : ∀ j, j < H.next → j ≠ b → idOf bl ≠ some j → kindO (H.get j) ≠ 1001 → H2.get j = H.get j)
    (hbox : H2.get b = some (.box [bl', tl, ts, .int .i64 σ.next] 55)) (hob : Own H2 56 1 bl' blocks'.length (rs'.map fun r => Value.map (some r)))
    (hmaps : ∀ i, i < blocks'.length → ∃ r, rs'[i]? = some r ∧ H2.get r = some (.map (strE (entV (blocks'.getD i []))))) (hnd : rs'.Nodup) : SAt H2 b { σ with blocks := blocks' } bl' tl ts rs' where
  box := hbox
  ob := hob
  ot := h.ot.mono fun i hi => hfr i (h.ot.id_lt hf i hi) (fun e => by subst e; have := h.kb; have := h.ot.kind hi; omega) (fun e => by have := h.ob.kind e; have := h.ot.kind hi; omega) (by have := h.ot.kind hi; omega)
  oy := h.oy.mono fun i hi => hfr i (h.oy.id_lt hf i hi) (fun e => by subst e; have := h.kb; have := h.oy.kind hi; omega) (fun e => by have := h.ob.kind e; have := h.oy.kind hi; omega) (by have := h.oy.kind hi; omega)
  maps := hmaps
  nd := hnd

/-- The turns, and the next number, turn. -/
theorem SAt.repT {tl' : Value} {turns' : List Trn} {next' : Nat} (h : SAt H b σ bl tl ts rs) (hf : H.Fresh) (hfr : ∀ j, j < H.next → j ≠ b → idOf tl ≠ some j → H2.get j = H.get j)
    (hbox : H2.get b = some (.box [bl, tl', ts, .int .i64 next'] 55)) (hot : Own H2 62 3 tl' turns'.length (turns'.flatMap trnC)) : SAt H2 b { σ with turns := turns', next := next' } bl tl' ts rs where
  box := hbox
  ob := h.ob.mono fun i hi => hfr i (h.ob.id_lt hf i hi) (fun e => by subst e; have := h.kb; have := h.ob.kind hi; omega) (fun e => by have := h.ot.kind e; have := h.ob.kind hi; omega)
  ot := hot
  oy := h.oy.mono fun i hi => hfr i (h.oy.id_lt hf i hi) (fun e => by subst e; have := h.kb; have := h.oy.kind hi; omega) (fun e => by have := h.ot.kind e; have := h.oy.kind hi; omega)
  maps := fun i hi => by
    obtain ⟨r, h1, h2⟩ := h.maps i hi
    have hr := List.mem_of_getElem? h1
    refine ⟨r, h1, ?_⟩
    rw [hfr r (get_lt hf h2) (fun e => by subst e; have := h.kb; have := h.kr hr; omega) (fun e => by have := h.ot.kind e; have := h.kr hr; omega)]
    exact h2
  nd := h.nd

/-- The types turn. -/
theorem SAt.repY {ts' : Value} {types' : List Int} (h : SAt H b σ bl tl ts rs) (hf : H.Fresh) (hfr : ∀ j, j < H.next → j ≠ b → idOf ts ≠ some j → H2.get j = H.get j)
    (hbox : H2.get b = some (.box [bl, tl, ts', .int .i64 σ.next] 55)) (hoy : Own H2 3 1 ts' types'.length (types'.map tyC)) : SAt H2 b { σ with types := types' } bl tl ts' rs where
  box := hbox
  ob := h.ob.mono fun i hi => hfr i (h.ob.id_lt hf i hi) (fun e => by subst e; have := h.kb; have := h.ob.kind hi; omega) (fun e => by have := h.oy.kind e; have := h.ob.kind hi; omega)
  ot := h.ot.mono fun i hi => hfr i (h.ot.id_lt hf i hi) (fun e => by subst e; have := h.kb; have := h.ot.kind hi; omega) (fun e => by have := h.oy.kind e; have := h.ot.kind hi; omega)
  oy := hoy
  maps := fun i hi => by
    obtain ⟨r, h1, h2⟩ := h.maps i hi
    have hr := List.mem_of_getElem? h1
    refine ⟨r, h1, ?_⟩
    rw [hfr r (get_lt hf h2) (fun e => by subst e; have := h.kb; have := h.kr hr; omega) (fun e => by have := h.oy.kind e; have := h.kr hr; omega)]
    exact h2
  nd := h.nd

end Go.Proofs.Ytnjoaffnfjlcaaa
