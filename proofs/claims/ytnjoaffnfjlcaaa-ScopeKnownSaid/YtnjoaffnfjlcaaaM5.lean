/-
  Joined by program out of Sc1, Ops1, Ops2, Ops3, Ops4, Ops5, Ops6, Ops7, Cpy, Ops13.
-/
import Derived.Test.YtnjoaffnfjlcaaaM4
import Derived.Test.YtnjoaffnfjlcaaaM3
namespace Go.Proofs.Ytnjoaffnfjlcaaa
open Go Go.Proofs B

structure Trn where
  label : ByteArray
  loop : Bool
  no : Nat

abbrev Blk := List (ByteArray × Nat)

structure Sc where
  blocks : List Blk
  turns : List Trn
  types : List Int
  next : Nat

def lookN : Blk → ByteArray → Option Nat
  | [], _ => none
  | p :: l, k => if k = p.1 then some p.2 else lookN l k

def entV (m : Blk) : List (ByteArray × Value) := m.map fun p => (p.1, .int .i64 p.2)
theorem lookB_entV (m : Blk) (k : ByteArray) : lookB (entV m) k = (lookN m k).map fun n : Nat => Value.int .i64 (n : Int) := by
  induction m with
  | nil => rfl
  | cons p l ih =>
    simp only [entV, List.map_cons, lookB, lookN] at ih ⊢
    split
    · rfl
    · exact ih
theorem lookB_entV_some (m : Blk) (k : ByteArray) : (lookB (entV m) k).isSome = (lookN m k).isSome := by rw [lookB_entV]; cases lookN m k <;> rfl

def trnC (t : Trn) : List Value := [.string t.label, .bool t.loop, .int .i64 t.no]
def tyC (t : Int) : Value := .int .i64 t

/-- Where a scope's parts lie. -/
def SFoot (b : Nat) (bl tl ts : Value) (rs : List Nat) : Nat → Prop := fun j => j = b ∨ idOf bl = some j ∨ idOf tl = some j ∨ idOf ts = some j ∨ j ∈ rs

structure SAt (H : AHeap) (b : Nat) (σ : Sc) (bl tl ts : Value) (rs : List Nat) : Prop where
  box : H.get b = some (.box [bl, tl, ts, .int .i64 σ.next] 55)
  ob : Own H 56 1 bl σ.blocks.length (rs.map fun r => Value.map (some r))
  ot : Own H 62 3 tl σ.turns.length (σ.turns.flatMap trnC)
  oy : Own H 3 1 ts σ.types.length (σ.types.map tyC)
  maps : ∀ i, i < σ.blocks.length → ∃ r, rs[i]? = some r ∧ H.get r = some (.map (strE (entV (σ.blocks.getD i []))))
  nd : rs.Nodup

def ScopeAt (H : AHeap) (b : Nat) (σ : Sc) (F : Nat → Prop) : Prop := ∃ bl tl ts rs, SAt H b σ bl tl ts rs ∧ F = SFoot b bl tl ts rs

theorem B.Own.isArr {H : AHeap} {e sz : Nat} {v : Value} {n : Nat} {cells : List Value} (h : Own H e sz v n cells) {j : Nat} (hj : idOf v = some j) : ∃ cs st g, H.get j = some (.arr cs st g e false) := by
  cases h with
  | nil => simp [idOf] at hj
  | row hg h2 h3 h4 h5 =>
    simp only [idOf, Option.some.injEq] at hj
    subst hj
    exact ⟨_, _, _, hg⟩

variable {H H2 : AHeap} {b : Nat} {σ : Sc} {bl tl ts : Value} {rs : List Nat}

theorem SAt.len (h : SAt H b σ bl tl ts rs) : rs.length = σ.blocks.length := by
  have := Own.length h.ob
  simpa using this

theorem SAt.mem (h : SAt H b σ bl tl ts rs) {r : Nat} (hr : r ∈ rs) : ∃ es, H.get r = some (.map es) := by
  obtain ⟨i, hi, rfl⟩ := List.getElem_of_mem hr
  obtain ⟨r', h1, h2⟩ := h.maps i (by rw [← h.len]; exact hi)
  rw [List.getElem?_eq_getElem hi] at h1
  obtain rfl := by simpa using h1
  exact ⟨_, h2⟩

theorem SAt.lt (h : SAt H b σ bl tl ts rs) (hf : H.Fresh) {j : Nat} (hj : SFoot b bl tl ts rs j) : j < H.next := by
  rcases hj with rfl | hj | hj | hj | hj
  · exact get_lt hf h.box
  · exact h.ob.id_lt hf j hj
  · exact h.ot.id_lt hf j hj
  · exact h.oy.id_lt hf j hj
  · obtain ⟨es, he⟩ := h.mem hj; exact get_lt hf he

theorem SAt.keep (h : SAt H b σ bl tl ts rs) (hk : ∀ j, SFoot b bl tl ts rs j → H2.get j = H.get j) : SAt H2 b σ bl tl ts rs where
  box := by rw [hk b (.inl rfl)]; exact h.box
  ob := h.ob.mono fun i hi => hk i (.inr (.inl hi))
  ot := h.ot.mono fun i hi => hk i (.inr (.inr (.inl hi)))
  oy := h.oy.mono fun i hi => hk i (.inr (.inr (.inr (.inl hi))))
  maps := fun i hi => by
    obtain ⟨r, h1, h2⟩ := h.maps i hi
    exact ⟨r, h1, by rw [hk r (.inr (.inr (.inr (.inr (List.mem_of_getElem? h1)))))]; exact h2⟩
  nd := h.nd

theorem SAt.grown (h : SAt H b σ bl tl ts rs) (hf : H.Fresh) (g : Grown H H2) : SAt H2 b σ bl tl ts rs := h.keep fun j hj => g.get j (h.lt hf hj)

theorem ScopeAt.grown {F : Nat → Prop} (h : ScopeAt H b σ F) (hf : H.Fresh) (g : Grown H H2) : ScopeAt H2 b σ F := by
  obtain ⟨bl, tl, ts, rs, h1, h2⟩ := h
  exact ⟨bl, tl, ts, rs, h1.grown hf g, h2⟩

theorem ScopeAt.lt {F : Nat → Prop} (h : ScopeAt H b σ F) (hf : H.Fresh) {j : Nat} (hj : F j) : j < H.next := by
  obtain ⟨bl, tl, ts, rs, h1, rfl⟩ := h
  exact h1.lt hf hj

/-- It stays while its footprint stays. -/
theorem ScopeAt.keep {F : Nat → Prop} (h : ScopeAt H b σ F) (hk : ∀ j, F j → H2.get j = H.get j) : ScopeAt H2 b σ F := by
  obtain ⟨bl, tl, ts, rs, h1, rfl⟩ := h
  exact ⟨bl, tl, ts, rs, h1.keep hk, rfl⟩

/-! ### What the operations do -/
/-- The slot of a name's innermost meaning. -/
def Sc.findAt (σ : Sc) (nm : ByteArray) : Option Nat := lastI (fun i => (lookN (σ.blocks.getD i []) nm).isSome) σ.blocks.length
def Sc.find (σ : Sc) (nm : ByteArray) : Option Nat := (σ.findAt nm).bind fun i => lookN (σ.blocks.getD i []) nm

def Sc.ok (σ : Sc) : Prop := ∀ m ∈ σ.blocks, ∀ p ∈ m, p.2 < σ.types.length

theorem lookN_mem {m : Blk} {k : ByteArray} {n : Nat} (h : lookN m k = some n) : (k, n) ∈ m := by
  induction m with
  | nil => simp [lookN] at h
  | cons p l ih =>
    unfold lookN at h
    split at h
    · rename_i hk
      simp only [Option.some.injEq] at h
      subst hk; subst h
      exact List.mem_cons_self ..
    · exact List.mem_cons_of_mem _ (ih h)

def tMatch (t : Trn) (nm : ByteArray) (tn : Bool) : Bool := (decide (nm = ⟨#[]⟩) || decide (t.label = nm)) && (t.loop || !tn)
def tTwice (t : Trn) (nm : ByteArray) : Bool := !decide (nm = ⟨#[]⟩) && decide (t.label = nm)
def noTrn : Trn := ⟨⟨#[]⟩, false, 0⟩
def Sc.targetAt (σ : Sc) (nm : ByteArray) (tn : Bool) : Option Nat := lastI (fun i => tMatch (σ.turns.getD i noTrn) nm tn) σ.turns.length
def Sc.target (σ : Sc) (nm : ByteArray) (tn : Bool) : Option Nat := (σ.targetAt nm tn).map fun i => (σ.turns.getD i noTrn).no
def Sc.twice (σ : Sc) (nm : ByteArray) : Bool := (lastI (fun i => tTwice (σ.turns.getD i noTrn) nm) σ.turns.length).isSome
def Sc.top (σ : Sc) : Blk := σ.blocks.getD (σ.blocks.length - 1) []

def Sc.open' (σ : Sc) : Sc := { σ with blocks := σ.blocks ++ [[]] }
def Sc.close (σ : Sc) : Sc := if σ.blocks.length ≤ 1 then σ else { σ with blocks := σ.blocks.take (σ.blocks.length - 1) }
def Sc.leave (σ : Sc) : Sc := if σ.turns.length = 0 then σ else { σ with turns := σ.turns.take (σ.turns.length - 1) }
/-- The error of a declaration: 0, 70, 73. -/
def Sc.declErr (σ : Sc) (nm : ByteArray) : Nat := if (lookN σ.top nm).isSome then 70 else if σ.types.length = 256 then 73 else 0
def Sc.decl (σ : Sc) (nm : ByteArray) (ty : Int) : Sc := if σ.declErr nm = 0 then { σ with blocks := σ.blocks.take (σ.blocks.length - 1) ++ [σ.top ++ [(nm, σ.types.length)]], types := σ.types ++ [ty] } else σ
def Sc.enter (σ : Sc) (nm : ByteArray) (tn : Bool) : Sc := if σ.twice nm then σ else { σ with turns := σ.turns ++ [⟨nm, tn, σ.next⟩], next := σ.next + 1 }
def sc0 : Sc := ⟨[[]], [], [], 0⟩

/-! ### The elements, read -/
theorem SAt.valB (h : SAt H b σ bl tl ts rs) {i : Nat} (hi : i < σ.blocks.length) : H.loadV Try.prog 56 (addA (baseOf bl) (i * 1)) = some (.map (some (rs.getD i 0))) := by
  rw [loadV_flat agg56, h.ob.cell (by omega)]
  have : i < rs.length := by rw [h.len]; exact hi
  simp [List.getElem?_map, List.getD_eq_getElem?_getD, List.getElem?_eq_getElem this]

theorem trnC_drop (l : List Trn) {i : Nat} (hi : i < l.length) : ((l.flatMap trnC).drop (i * 3)).take 3 = trnC (l.getD i noTrn) := by
  induction l generalizing i with
  | nil => simp at hi
  | cons t l ih =>
    cases i with
    | zero => simp [trnC]
    | succ i =>
      simp only [List.length_cons] at hi
      have h3 : ∀ X : List Value, (trnC t ++ X).drop (i * 3 + 3) = X.drop (i * 3) := fun X => rfl
      rw [List.flatMap_cons, show (i + 1) * 3 = i * 3 + 3 by omega, h3, ih (by omega)]
      rfl

def trnV (t : Trn) : Value := .agg (trnC t).toArray

theorem SAt.valT (h : SAt H b σ bl tl ts rs) {i : Nat} (hi : i < σ.turns.length) : H.loadV Try.prog 62 (addA (baseOf tl) (i * 3)) = some (trnV (σ.turns.getD i noTrn)) := by
  rw [loadV_agg agg62 info62, cells62, h.ot.readN (by omega) (by decide), trnC_drop _ hi]
  rfl

theorem SAt.valY (h : SAt H b σ bl tl ts rs) {i : Nat} (hi : i < σ.types.length) : H.loadV Try.prog 3 (addA (baseOf ts) (i * 1)) = some (tyC (σ.types.getD i 0)) := by
  rw [loadV_flat agg3, h.oy.cell (by omega)]
  simp [List.getElem?_map, List.getD_eq_getElem?_getD, List.getElem?_eq_getElem hi]

/-! ### What is distinct -/
def kindO : Option AObj → Nat
  | some (.arr _ _ _ e _) => e
  | some (.box _ _) => 1000
  | some (.map _) => 1001
  | _ => 1002

theorem B.Own.kind {H : AHeap} {e sz : Nat} {v : Value} {n : Nat} {cells : List Value} (h : Own H e sz v n cells) {j : Nat} (hj : idOf v = some j) : kindO (H.get j) = e := by
  obtain ⟨cs, st, g, hg⟩ := h.isArr hj
  rw [hg]; rfl
theorem SAt.kb (h : SAt H b σ bl tl ts rs) : kindO (H.get b) = 1000 := by rw [h.box]; rfl
theorem SAt.kr (h : SAt H b σ bl tl ts rs) {r : Nat} (hr : r ∈ rs) : kindO (H.get r) = 1001 := by
  obtain ⟨es, he⟩ := h.mem hr
  rw [he]; rfl

/-- The blocks turn. -/
theorem SAt.repB {bl' : Value} {rs' : List Nat} {blocks' : List Blk} (h : SAt H b σ bl tl ts rs) (hf : H.Fresh) (hfr : ∀ j, j < H.next → j ≠ b → idOf bl ≠ some j → kindO (H.get j) ≠ 1001 → H2.get j = H.get j)
    (hbox : H2.get b = some (.box [bl', tl, ts, .int .i64 σ.next] 55)) (hob : Own H2 56 1 bl' blocks'.length (rs'.map fun r => Value.map (some r)))
    (hmaps : ∀ i, i < blocks'.length → ∃ r, rs'[i]? = some r ∧ H2.get r = some (.map (strE (entV (blocks'.getD i []))))) (hnd : rs'.Nodup) : SAt H2 b { σ with blocks := blocks' } bl' tl ts rs' where
  box := hbox
  ob := hob
  ot := h.ot.mono fun i hi => hfr i (h.ot.id_lt hf i hi) (fun e => by subst e; have := h.kb; have := h.ot.kind hi; omega) (fun e => by have := h.ob.kind e; have := h.ot.kind hi; omega) (by have := h.ot.kind hi; omega)
  oy := h.oy.mono fun i hi => hfr i (h.oy.id_lt hf i hi) (fun e => by subst e; have := h.kb; have := h.oy.kind hi; omega) (fun e => by have := h.ob.kind e; have := h.oy.kind hi; omega) (by have := h.oy.kind hi; omega)
  maps := hmaps
  nd := hnd

/-- The turns, and the next number, turn. -/
theorem SAt.repT {tl' : Value} {turns' : List Trn} {next' : Nat} (h : SAt H b σ bl tl ts rs) (hf : H.Fresh) (hfr : ∀ j, j < H.next → j ≠ b → idOf tl ≠ some j → H2.get j = H.get j)
    (hbox : H2.get b = some (.box [bl, tl', ts, .int .i64 next'] 55)) (hot : Own H2 62 3 tl' turns'.length (turns'.flatMap trnC)) : SAt H2 b { σ with turns := turns', next := next' } bl tl' ts rs where
  box := hbox
  ob := h.ob.mono fun i hi => hfr i (h.ob.id_lt hf i hi) (fun e => by subst e; have := h.kb; have := h.ob.kind hi; omega) (fun e => by have := h.ot.kind e; have := h.ob.kind hi; omega)
  ot := hot
  oy := h.oy.mono fun i hi => hfr i (h.oy.id_lt hf i hi) (fun e => by subst e; have := h.kb; have := h.oy.kind hi; omega) (fun e => by have := h.ot.kind e; have := h.oy.kind hi; omega)
  maps := fun i hi => by
    obtain ⟨r, h1, h2⟩ := h.maps i hi
    have hr := List.mem_of_getElem? h1
    refine ⟨r, h1, ?_⟩
    rw [hfr r (get_lt hf h2) (fun e => by subst e; have := h.kb; have := h.kr hr; omega) (fun e => by have := h.ot.kind e; have := h.kr hr; omega)]
    exact h2
  nd := h.nd

/-- The types turn. -/
theorem SAt.repY {ts' : Value} {types' : List Int} (h : SAt H b σ bl tl ts rs) (hf : H.Fresh) (hfr : ∀ j, j < H.next → j ≠ b → idOf ts ≠ some j → H2.get j = H.get j)
    (hbox : H2.get b = some (.box [bl, tl, ts', .int .i64 σ.next] 55)) (hoy : Own H2 3 1 ts' types'.length (types'.map tyC)) : SAt H2 b { σ with types := types' } bl tl ts' rs where
  box := hbox
  ob := h.ob.mono fun i hi => hfr i (h.ob.id_lt hf i hi) (fun e => by subst e; have := h.kb; have := h.ob.kind hi; omega) (fun e => by have := h.oy.kind e; have := h.ob.kind hi; omega)
  ot := h.ot.mono fun i hi => hfr i (h.ot.id_lt hf i hi) (fun e => by subst e; have := h.kb; have := h.ot.kind hi; omega) (fun e => by have := h.oy.kind e; have := h.ot.kind hi; omega)
  oy := hoy
  maps := fun i hi => by
    obtain ⟨r, h1, h2⟩ := h.maps i hi
    have hr := List.mem_of_getElem? h1
    refine ⟨r, h1, ?_⟩
    rw [hfr r (get_lt hf h2) (fun e => by subst e; have := h.kb; have := h.kr hr; omega) (fun e => by have := h.oy.kind e; have := h.kr hr; omega)]
    exact h2
  nd := h.nd

end Go.Proofs.Ytnjoaffnfjlcaaa

namespace Go.Proofs.Ytnjoaffnfjlcaaa
open Go Go.Proofs B


theorem push31 {ext : CallT} (hx : ∀ f args H, f ≠ 22 → ext f args H = none) {H : AHeap} (hf : H.Fresh) {b : Nat} {σ : Sc} {bl tl ts : Value} {rs : List Nat} (h : SAt H b σ bl tl ts rs) (hn : σ.blocks.length < 1000000) {r : Nat} (hr : H.get r = some (.map (strE (entV [])))) (hr2 : r ∉ rs) :
    ∃ bl' H', theCall Try.prog ext 31 [.pointer (some ⟨b, 0, none⟩), .map (some r)] H = some (.ret (.int .i64 (σ.blocks.length + 1)), H') ∧ SAt H' b σ.open' bl' tl ts (rs ++ [r]) ∧ (∀ j, j < H.next → j ≠ b → idOf bl ≠ some j → H'.get j = H.get j) ∧ H.next ≤ H'.next ∧ H'.Fresh ∧ (∀ j, idOf bl' = some j → idOf bl = some j ∨ H.next ≤ j) := by
  obtain ⟨bl', Ha, h1, h2, hu⟩ := h.ob.append1U (xs := [.map (some r)]) (i := Try.t56) (z := .map none) hf rfl (by decide) rfl rfl rfl rfl (by omega) (by show (σ.blocks.length + 1) * 8 ≤ 140737488355328; omega)
  simp only [List.length_cons, List.length_nil, Nat.zero_add] at h1
  have hbl : b < H.next := get_lt hf h.box
  have hnb : idOf bl ≠ some b := h.ob.id_ne h.box
  have hb2 : Ha.get b = some (.box [bl, tl, ts, .int .i64 σ.next] 55) := by rw [hu.frame b hnb hbl]; exact h.box
  have hnb' : idOf bl' ≠ some b := h2.id_ne hb2
  have c1 := h2.vcells
  have c2 := h2.flat
  have c3 := fun H2 => h2.lenS isl48 H2
  have hfr : ∀ j, j < H.next → j ≠ b → idOf bl ≠ some j → (Ha.set b (.box [bl', tl, ts, .int .i64 σ.next] 55)).get j = H.get j := fun j hj hjb hji => by
    rw [get_set_ne hjb]; exact hu.frame j hji hj
  refine ⟨bl', Ha.set b (.box [bl', tl, ts, .int .i64 σ.next] 55), ?_, ?_, hfr, hu.next, (AHeap.le_set hb2).fresh hu.fresh, fun j hj => hu.foot j hj⟩
  · refine theCall_run (hx _ _ _ (by decide)) Try.func31 (rs := [.tmp 4]) rfl rfl rfl (by simp) fun tm hl hi => ?_
    replace hl : tm.length = 20 := hl
    have i0 := hi 0
    have i1 := hi 1
    simp only [List.getD_cons_zero, List.getD_cons_succ] at i0 i1
    simp (config := { decide := true }) only [theCode_seq, theCode_list, theCode_ret, evalList_plain, evalList_nil, nd_move, nd_assign, nd_buildSlice, nd_load, nd_store, nd_nilCheck, nd_fieldAddr, nd_call, ok_tmp, ok_const, cl_int, opA_move, opA_assign, opA_load, opA_store, opA_nilCheck, opA_fieldAddr, opA_len, opA_appendS, contA_val, contA_skip, putT_some, putT_none, aev_tmp, aev_const, rd_same, rd_ne, List.length_set, valA_some, skipA_some, pairA_some,
    thenA_normal, loadS_ptr, storeS_ptr, nilCheckS_ptr, fieldAddrS_eq, leaveR_ret, resA_tmp, resA_nil, List.getElem?_cons_zero, pack_one, Option.map_some, Option.isSome_some, ne_eq, Nat.reduceLT, Nat.reduceAdd, Nat.zero_add, Option.some.injEq, List.all_cons, List.all_nil, Bool.and_true, hl, i0, i1, storeV_flat, setCell_eq, hb2, setCellO_box, c1, c2, c3, get_set_same, List.set_cons_zero, Option.getD_none, opA_build1F, b1_48, es48, vc_map, fl_map, appendS_of sli48, build1S_of sli48, h1, sli48, off50_0, loadV_flat, agg48, cell_eq, h.box, cellO_box, List.size_toArray, List.length_cons, List.length_nil, info48, cells48]
    push_cast
    rfl
  · refine h.repB hf (fun j hj hjb hji _ => hfr j hj hjb hji) get_set_same ?_ ?_ ?_
    · have := h2.mono (H2 := Ha.set b (.box [bl', tl, ts, .int .i64 σ.next] 55)) fun i hi => get_set_ne (by rintro rfl; exact hnb' hi)
      simpa [Sc.open'] using this
    · intro i hi
      simp only [List.length_append, List.length_cons, List.length_nil] at hi
      rcases Nat.lt_or_ge i σ.blocks.length with hlt | hge
      · obtain ⟨r', g1, g2⟩ := h.maps i hlt
        have hr' := List.mem_of_getElem? g1
        refine ⟨r', ?_, ?_⟩
        · rw [List.getElem?_append_left (by rw [h.len]; exact hlt)]; exact g1
        · rw [hfr r' (get_lt hf g2) (fun e => by subst e; have := h.kb; have := h.kr hr'; omega) (fun e => by have := h.ob.kind e; have := h.kr hr'; omega), g2]
          rw [List.getD_eq_getElem?_getD, List.getD_eq_getElem?_getD, List.getElem?_append_left hlt]
      · obtain rfl : i = σ.blocks.length := by omega
        refine ⟨r, ?_, ?_⟩
        · rw [List.getElem?_append_right (by rw [h.len]; exact Nat.le_refl _), h.len]; simp
        · have kr : kindO (H.get r) = 1001 := by rw [hr]; rfl
          rw [hfr r (get_lt hf hr) (fun e => by subst e; have := h.kb; omega) (fun e => by have := h.ob.kind e; omega), hr]
          rw [List.getD_eq_getElem?_getD, List.getElem?_append_right (Nat.le_refl _)]; simp
    · rw [List.nodup_append]
      exact ⟨h.nd, by simp, fun x hx y hy => by simp only [List.mem_singleton] at hy; subst hy; rintro rfl; exact hr2 hx⟩

theorem open13 {ext : CallT} (hx : ∀ f args H, f ≠ 22 → ext f args H = none) {H : AHeap} (hf : H.Fresh) {b : Nat} {σ : Sc} {F : Nat → Prop} (h : ScopeAt H b σ F) (hn : σ.blocks.length < 1000000) :
    ∃ H' F', theCall Try.prog ext 13 [.pointer (some ⟨b, 0, none⟩)] H = some (.ret (.int .i64 (σ.blocks.length + 1)), H') ∧ ScopeAt H' b σ.open' F' ∧ Upd H F H' F' := by
  obtain ⟨bl, tl, ts, rs, h, rfl⟩ := h
  have g1 : Grown H (H.push (.map [])) := Grown.push hf _
  have h0 := h.grown hf g1
  obtain ⟨bl', H', h1, h2, h3, h4, h5, h6⟩ := push31 (ext := ext) hx g1.fresh h0 hn (r := H.next) get_push_new (fun hm => by have := h.lt hf (.inr (.inr (.inr (.inr hm)))); omega)
  refine ⟨H', _, ?_, ⟨bl', tl, ts, _, h2, rfl⟩, ?_⟩
  · refine theCall_run (hx _ _ _ (by decide)) Try.func13 (rs := [.tmp 2]) rfl rfl rfl (by simp) fun tm hl hi => ?_
    replace hl : tm.length = 10 := hl
    have i0 := hi 0
    simp only [List.getD_cons_zero] at i0
    simp (config := { decide := true }) only [theCode_seq, theCode_list, theCode_skip, theCode_ret, theCode_if, evalList_plain, evalList_nil, nd_move, nd_assign, nd_nilCheck, nd_binOp, nd_makeMap, nd_fieldAddr, nd_call, ok_tmp, ok_const, ok_func, cl_int, cl_ptr, opA_move, opA_assign, opA_nilCheck, opA_fieldAddr, opA_bin, opA_call, opA_makeMap, contA_val, contA_enter, callA_ret, putT_some, aev_tmp, aev_const, aev_func, rd_same, rd_ne, List.length_set, thenA_normal, boolOf_bool, nilCheckS_ptr, fieldAddrS_eq, bin_ptr_eql, callS_func, leaveR_ret, resA_tmp, resA_nil, pack_one, Option.map_some, Option.isSome_some, ne_eq, ↓reduceIte, Nat.reduceLT, Nat.zero_add, Option.some.injEq, List.map_cons, List.map_nil, List.all_cons, List.all_nil, Bool.and_true, List.nil_append, List.append_nil, hl, i0, off55_0, isp23, en31, h1]
  · refine ⟨fun j hj hlt => ?_, fun j hj => ?_, h5, Nat.le_trans g1.next h4⟩
    · rw [h3 j (Nat.lt_of_lt_of_le hlt g1.next) (fun e => hj (.inl e)) (fun e => hj (.inr (.inl e)))]
      exact g1.get j hlt
    · rcases hj with rfl | hj | hj | hj | hj
      · exact .inl (.inl rfl)
      · rcases h6 j hj with e | e
        · exact .inl (.inr (.inl e))
        · exact .inr (Nat.le_trans g1.next e)
      · exact .inl (.inr (.inr (.inl hj)))
      · exact .inl (.inr (.inr (.inr (.inl hj))))
      · rw [List.mem_append] at hj
        rcases hj with hj | hj
        · exact .inl (.inr (.inr (.inr (.inr hj))))
        · simp only [List.mem_singleton] at hj; exact .inr (by omega)

theorem build55 {H : AHeap} : buildS Try.prog H 55 [] = some (.val (.agg #[.slice none 0 0, .slice none 0 0, .slice none 0 0, .int .i64 0]) H) := by
  unfold buildS
  have h1 : zeroOf Try.prog 55 = some (.agg #[.slice none 0 0, .slice none 0 0, .slice none 0 0, .int .i64 0]) := by unfold zeroOf; rw [inf55]; rfl
  have h2 : Program.built Try.prog 55 [] = some #[.slice none 0 0, .slice none 0 0, .slice none 0 0, .int .i64 0] := by kernel_rfl
  rw [h1, h2]
theorem zero55 : (zeroOf Try.prog 55).isSome = true := by unfold zeroOf; rw [inf55]; rfl

theorem new8 {ext : CallT} (hx : ∀ f args H, f ≠ 22 → ext f args H = none) {H : AHeap} (hf : H.Fresh) :
    ∃ H' F, theCall Try.prog ext 8 [] H = some (.ret (.pointer (some ⟨H.next, 0, none⟩)), H') ∧ ScopeAt H' H.next sc0 F ∧ Grown H H' ∧ (∀ j, F j → H.next ≤ j) := by
  have g1 : Grown H (H.push (.box [.slice none 0 0, .slice none 0 0, .slice none 0 0, .int .i64 0] 55)) := Grown.push hf _
  have hs : ScopeAt (H.push (.box [.slice none 0 0, .slice none 0 0, .slice none 0 0, .int .i64 0] 55)) H.next ⟨[], [], [], 0⟩ (SFoot H.next (.slice none 0 0) (.slice none 0 0) (.slice none 0 0) []) :=
    ⟨_, _, _, _, ⟨get_push_new, .nil, .nil, .nil, fun i hi => by simp at hi, by simp⟩, rfl⟩
  obtain ⟨H', F', h1, h2, h3⟩ := open13 (ext := ext) hx g1.fresh hs (by decide)
  have hF : ∀ j, SFoot H.next (.slice none 0 0) (.slice none 0 0) (.slice none 0 0) [] j → j = H.next := by
    rintro j (e | e | e | e | e)
    · exact e
    · simp [idOf] at e
    · simp [idOf] at e
    · simp [idOf] at e
    · simp at e
  refine ⟨H', F', ?_, h2, ⟨fun j hj => ?_, Nat.le_trans g1.next h3.next, h3.fresh⟩, fun j hj => ?_⟩
  · refine theCall_run (hx _ _ _ (by decide)) Try.func8 (rs := [.tmp 0]) rfl rfl rfl (by simp) fun tm hl hi => ?_
    replace hl : tm.length = 7 := hl
    simp (config := { decide := true }) only [theCode_seq, theCode_list, theCode_ret, evalList_plain, evalList_nil, nd_move, nd_assign, nd_box, nd_build, nd_call, ok_tmp, ok_const, ok_func, cl_ptr, opA_move, opA_assign, opA_call, opA_build0, opA_box, contA_val, contA_enter, callA_ret, putT_some, aev_tmp, aev_const, aev_func, rd_same, rd_ne, List.length_set, thenA_normal, callS_func, leaveR_ret, resA_tmp, resA_nil, pack_one, Option.map_some, ne_eq, Nat.reduceLT, List.map_cons, List.map_nil, List.all_cons, List.all_nil, Bool.and_true, List.nil_append, List.append_nil, hl, zero55, build55, info55, vc_agg, fl_slice, fl_int, en13, h1]
  · rw [h3.frame j (fun e => by have := hF j e; omega) (Nat.lt_of_lt_of_le hj g1.next)]
    exact g1.get j hj
  · rcases h3.foot j hj with e | e
    · have := hF j e; omega
    · exact Nat.le_trans g1.next e

end Go.Proofs.Ytnjoaffnfjlcaaa

namespace Go.Proofs.Ytnjoaffnfjlcaaa
open Go Go.Proofs B


theorem pop34 {ext : CallT} (hx : ∀ f args H, f ≠ 22 → ext f args H = none) {H : AHeap} (hf : H.Fresh) {b : Nat} {σ : Sc} {bl tl ts : Value} {rs : List Nat} (h : SAt H b σ bl tl ts rs) {m : Nat} (hm : σ.blocks.length = m + 1) (hml : 1 < m + 1) (hn : m < 1000000) :
    ∃ H', theCall Try.prog ext 34 [.pointer (some ⟨b, 0, none⟩), .int .i64 1] H = some (.ret (.bool true), H') ∧ H'.get b = some (.box [.slice (some (baseOf bl)) m (capOf bl), tl, ts, .int .i64 σ.next] 55) ∧ Own H' 56 1 (.slice (some (baseOf bl)) m (capOf bl)) m ((rs.map fun r => Value.map (some r)).take (m * 1)) ∧
      (∀ j, j < H.next → j ≠ b → idOf bl ≠ some j → H'.get j = H.get j) ∧ H.next ≤ H'.next ∧ H'.Fresh := by
  have hbl : b < H.next := get_lt hf h.box
  have hnb : idOf bl ≠ some b := h.ob.id_ne h.box

  obtain ⟨Ha, ha1, ha2, ha3, ha4⟩ := h.ob.set1 (o := m * 1) (x := .map none) (by rw [hm]; omega) (by simp [fl_map])
  have hst : H.storeV Try.prog 56 (addA (baseOf bl) (m * 1)) (.map none) = some Ha := by
    rw [storeV_flat cells56 info56 vc_map]; exact ha1
  have hnx : H.next ≤ Ha.next := by rw [ha3]; exact Nat.le_refl _
  have hfa : ∀ j, j < H.next → idOf bl ≠ some j → Ha.get j = H.get j := fun j _ hji => ha4 j hji
  have hfra : Ha.Fresh := fun j hj => by
    rw [ha3] at hj
    rw [ha4 j (fun e => by have := h.ob.id_lt hf j e; omega)]; exact hf j hj

  have hba : Ha.get b = some (.box [bl, tl, ts, .int .i64 σ.next] 55) := by rw [hfa b hbl hnb]; exact h.box
  rw [hm] at ha2
  have hcut := ha2.cutLast
  have c3 := fun H2 => h.ob.lenS isl48 H2
  have hw : IntKind.i64.wrap ((σ.blocks.length : Int) - 1) = (m : Int) := by rw [hm, IntWalk.i64_in _ (by omega)]; omega
  have hix := fun H2 => indexAddrS_own (j := m) (k := .i64) h.ob (by omega) (by omega) es48 H2
  simp only [Int.toNat_natCast] at hix
  have hsl := fun H2 => sliceS_upto (k := .i64) (m := m) h.ob (by omega) sli48 (by omega) (by omega) H2
  simp only [Int.toNat_natCast] at hsl
  have hle : ¬ ((σ.blocks.length : Int) ≤ 1) := by omega
  refine ⟨Ha.set b (.box [.slice (some (baseOf bl)) m (capOf bl), tl, ts, .int .i64 σ.next] 55), ?_, get_set_same, ?_, ?_, hnx, (AHeap.le_set hba).fresh hfra⟩
  · refine theCall_run (hx _ _ _ (by decide)) Try.func34 (rs := [.tmp 4]) rfl rfl rfl (by simp) fun tm hl hi => ?_
    replace hl : tm.length = 39 := hl
    have i0 := hi 0
    have i1 := hi 1
    simp only [List.getD_cons_zero, List.getD_cons_succ] at i0 i1
    simp (config := { decide := true }) only [theCode_seq, theCode_list, theCode_skip, theCode_ret, theCode_if, evalList_plain, evalList_nil, nd_move, nd_assign, nd_load, nd_nilCheck, nd_binOp, nd_fieldAddr, nd_call, ok_tmp, ok_const, cl_bool, cl_map, opA_move, opA_assign, opA_load, opA_nilCheck, opA_fieldAddr, opA_bin, opA_len, contA_val, putT_some, aev_tmp, aev_const, rd_same, rd_ne, List.length_set, valA_some, thenA_normal, boolOf_bool, loadS_ptr, nilCheckS_ptr, fieldAddrS_eq, bin_leq, List.getElem?_cons_zero, Option.map_some, Option.isSome_some, ne_eq, ↓reduceIte, Nat.reduceLT, Nat.zero_add, Option.some.injEq, hl, i0, i1, off50_0, agg48, loadV_flat, cell_eq, h.box, cellO_box, c3, hle]
    rw [theCode_text (by kernel_rfl)]
    simp (config := { decide := true }) only [evalList_plain, evalList_nil, nd_move, nd_load, nd_store, nd_nilCheck, nd_binOp, nd_fieldAddr, nd_indexAddr, nd_call, ok_tmp, ok_const, cl_int, opA_move, opA_load, opA_store, opA_nilCheck, opA_fieldAddr, opA_bin, opA_len, opA_indexAddr, contA_val, contA_skip, putT_some, putT_none, aev_tmp, aev_const, rd_same, rd_ne, List.length_set, valA_some, skipA_some, thenA_normal, loadS_ptr, storeS_ptr, nilCheckS_ptr, fieldAddrS_eq, bin_sub, List.getElem?_cons_zero, Option.map_some, Option.isSome_some, ne_eq, Nat.reduceLT, Nat.zero_add, dropP_normal,
      hl, i0, off50_0, agg48, loadV_flat, cell_eq, h.box, cellO_box, c3, hw, hix, sli48, vc_map, info56, cells56, storeV_flat, ha1]
    rw [theCode_text (by kernel_rfl)]
    simp (config := { decide := true }) only [evalList_plain, evalList_nil, nd_move, nd_load, nd_store, nd_nilCheck, nd_binOp, nd_slice, nd_fieldAddr, nd_call, ok_tmp, ok_const, cl_int, opA_move, opA_load, opA_store, opA_nilCheck, opA_fieldAddr, opA_bin, opA_len, opA_sliceHi, contA_val, contA_skip, putT_some, putT_none, aev_tmp, aev_const, rd_same, rd_ne, List.length_set, valA_some, skipA_some, thenA_normal, loadS_ptr, storeS_ptr, nilCheckS_ptr, fieldAddrS_eq, bin_sub, leaveR_ret, resA_tmp, resA_nil, List.getElem?_cons_zero, pack_one, Option.map_some, Option.isSome_some, ne_eq, Nat.reduceLT, Nat.zero_add, dropP_normal,
      hl, i0, off50_0, agg48, loadV_flat, cell_eq, hba, cellO_box, c3, hw, hsl, sli48, vc_slice, fl_slice, info48, cells48, storeV_flat, setCell_eq, setCellO_box, Option.getD_none, List.set_cons_zero, List.length_cons]
  · have := hcut.mono (H2 := Ha.set b (.box [.slice (some (baseOf bl)) m (capOf bl), tl, ts, .int .i64 σ.next] 55)) fun i hi => get_set_ne (by
      rintro rfl
      rw [idOf_cut ha2] at hi
      exact hnb hi)
    rw [List.take_set_of_le (Nat.le_refl _)] at this
    exact this
  · intro j hj hjb hji
    rw [get_set_ne hjb]; exact hfa j hj hji

theorem pop34n {ext : CallT} (hx : ∀ f args H, f ≠ 22 → ext f args H = none) {H : AHeap} {b : Nat} {σ : Sc} {bl tl ts : Value} {rs : List Nat} (h : SAt H b σ bl tl ts rs) (hm : σ.blocks.length ≤ 1) :
    theCall Try.prog ext 34 [.pointer (some ⟨b, 0, none⟩), .int .i64 1] H = some (.ret (.bool false), H) := by
  have c3 := fun H2 => h.ob.lenS isl48 H2
  have hle : ((σ.blocks.length : Int) ≤ 1) := by omega
  refine theCall_run (hx _ _ _ (by decide)) Try.func34 (rs := [.tmp 4]) rfl rfl rfl (by simp) fun tm hl hi => ?_
  replace hl : tm.length = 39 := hl
  have i0 := hi 0
  have i1 := hi 1
  simp only [List.getD_cons_zero, List.getD_cons_succ] at i0 i1
  simp (config := { decide := true }) only [theCode_seq, theCode_list, theCode_ret, theCode_if, evalList_plain, evalList_nil, nd_move, nd_assign, nd_load, nd_nilCheck, nd_binOp, nd_fieldAddr, nd_call, ok_tmp, ok_const, cl_bool, cl_map, opA_move, opA_assign, opA_load, opA_nilCheck, opA_fieldAddr, opA_bin, opA_len, contA_val, putT_some, aev_tmp, aev_const, rd_same, rd_ne, List.length_set, valA_some, thenA_normal, thenA_ret, boolOf_bool, loadS_ptr, nilCheckS_ptr, fieldAddrS_eq, bin_leq, leaveR_ret, resA_tmp, resA_nil, List.getElem?_cons_zero, pack_one, Option.map_some, Option.isSome_some, ne_eq, ↓reduceIte, Nat.reduceLT, Nat.zero_add, Option.some.injEq, hl, i0, i1, off50_0, agg48, loadV_flat, cell_eq, h.box, cellO_box, c3, hle]


theorem pop35 {ext : CallT} (hx : ∀ f args H, f ≠ 22 → ext f args H = none) {H : AHeap} (hf : H.Fresh) {b : Nat} {σ : Sc} {bl tl ts : Value} {rs : List Nat} (h : SAt H b σ bl tl ts rs) {m : Nat} (hm : σ.turns.length = m + 1) (hml : 0 < m + 1) (hn : m < 1000000) :
    ∃ H', theCall Try.prog ext 35 [.pointer (some ⟨b, 1, none⟩), .int .i64 0] H = some (.ret (.bool true), H') ∧ H'.get b = some (.box [bl, .slice (some (baseOf tl)) m (capOf tl), ts, .int .i64 σ.next] 55) ∧ Own H' 62 3 (.slice (some (baseOf tl)) m (capOf tl)) m ((σ.turns.flatMap trnC).take (m * 3)) ∧
      (∀ j, j < H.next → j ≠ b → idOf tl ≠ some j → H'.get j = H.get j) ∧ H.next ≤ H'.next ∧ H'.Fresh := by
  have hbl : b < H.next := get_lt hf h.box
  have hnb : idOf tl ≠ some b := h.ot.id_ne h.box

  have g0 : Grown H (H.push (.box [.string ⟨#[]⟩, .bool false, .int .i64 0] 62)) := Grown.push hf _
  have h0 := h.grown hf g0
  have hz : (H.push (.box [.string ⟨#[]⟩, .bool false, .int .i64 0] 62)).loadV Try.prog 62 ⟨H.next, 0, none⟩ = some (.agg ([.string ⟨#[]⟩, .bool false, .int .i64 0] : List Value).toArray) := loadV_box agg62 info62 get_push_new (by rw [cells62]; rfl)
  obtain ⟨Ha, ha1, ha2, ha3, ha4⟩ := Own.setN (xs := [.string ⟨#[]⟩, .bool false, .int .i64 0]) (o := m * 3) h0.ot (by simp only [List.length_cons, List.length_nil]; rw [hm]; omega) (by simp [fl_string, fl_bool, fl_int])
  have hst : (H.push (.box [.string ⟨#[]⟩, .bool false, .int .i64 0] 62)).storeV Try.prog 62 (addA (baseOf tl) (m * 3)) (.agg ([.string ⟨#[]⟩, .bool false, .int .i64 0] : List Value).toArray) = some Ha := by
    rw [storeV_agg info62 (by rw [cells62, vc_agg]; rfl), vc_agg]; exact ha1
  have hnx : H.next ≤ Ha.next := by rw [ha3]; exact g0.next
  have hfa : ∀ j, j < H.next → idOf tl ≠ some j → Ha.get j = H.get j := fun j hj hji => by rw [ha4 j hji]; exact g0.get j hj
  have hfra : Ha.Fresh := fun j hj => by
    rw [ha3] at hj
    rw [ha4 j (fun e => by have := h0.ot.id_lt g0.fresh j e; omega)]; exact g0.fresh j hj

  have hba : Ha.get b = some (.box [bl, tl, ts, .int .i64 σ.next] 55) := by rw [hfa b hbl hnb]; exact h.box
  rw [hm] at ha2
  have hcut := ha2.cutLast
  have c3 := fun H2 => h.ot.lenS isl51 H2
  have hw : IntKind.i64.wrap ((σ.turns.length : Int) - 1) = (m : Int) := by rw [hm, IntWalk.i64_in _ (by omega)]; omega
  have hix := fun H2 => indexAddrS_own (j := m) (k := .i64) h.ot (by omega) (by omega) es51 H2
  simp only [Int.toNat_natCast] at hix
  have hsl := fun H2 => sliceS_upto (k := .i64) (m := m) h.ot (by omega) sli51 (by omega) (by omega) H2
  simp only [Int.toNat_natCast] at hsl
  have hle : ¬ ((σ.turns.length : Int) ≤ 0) := by omega
  refine ⟨Ha.set b (.box [bl, .slice (some (baseOf tl)) m (capOf tl), ts, .int .i64 σ.next] 55), ?_, get_set_same, ?_, ?_, hnx, (AHeap.le_set hba).fresh hfra⟩
  · refine theCall_run (hx _ _ _ (by decide)) Try.func35 (rs := [.tmp 4]) rfl rfl rfl (by simp) fun tm hl hi => ?_
    replace hl : tm.length = 39 := hl
    have i0 := hi 0
    have i1 := hi 1
    simp only [List.getD_cons_zero, List.getD_cons_succ] at i0 i1
    simp (config := { decide := true }) only [theCode_seq, theCode_list, theCode_skip, theCode_ret, theCode_if, evalList_plain, evalList_nil, nd_move, nd_assign, nd_alloc, nd_load, nd_nilCheck, nd_binOp, nd_fieldAddr, nd_call, ok_tmp, ok_const, cl_bool, opA_move, opA_assign, opA_load, opA_nilCheck, opA_fieldAddr, opA_bin, opA_len, opA_alloc, contA_val, putT_some, aev_tmp, aev_const, rd_same, rd_ne, List.length_set, valA_some, thenA_normal, boolOf_bool, loadS_ptr, nilCheckS_ptr, fieldAddrS_eq, bin_leq, List.getElem?_cons_zero, List.getElem?_cons_succ, Option.map_some, Option.isSome_some, ne_eq, ↓reduceIte, Nat.reduceLT, Nat.add_zero, Option.some.injEq, hl, i0, i1, off53_0, agg51, loadV_flat, cell_eq, h.box, cellO_box, c3, hle, zf62, vc_agg]
    rw [theCode_text (by kernel_rfl)]
    simp (config := { decide := true }) only [evalList_plain, evalList_nil, nd_move, nd_load, nd_store, nd_nilCheck, nd_binOp, nd_fieldAddr, nd_indexAddr, nd_call, ok_tmp, ok_const, cl_int, opA_move, opA_load, opA_store, opA_nilCheck, opA_fieldAddr, opA_bin, opA_len, opA_indexAddr, contA_val, contA_skip, putT_some, putT_none, aev_tmp, aev_const, rd_same, rd_ne, List.length_set, valA_some, skipA_some, thenA_normal, loadS_ptr, storeS_ptr, nilCheckS_ptr, fieldAddrS_eq, bin_sub, List.getElem?_cons_zero, List.getElem?_cons_succ, Option.map_some, Option.isSome_some, ne_eq, Nat.reduceLT, Nat.add_zero, dropP_normal,
      hl, i0, off53_0, agg51, loadV_flat, cell_eq, h0.box, cellO_box, c3, hw, hix, sli51, hz, hst]
    rw [theCode_text (by kernel_rfl)]
    simp (config := { decide := true }) only [evalList_plain, evalList_nil, nd_move, nd_load, nd_store, nd_nilCheck, nd_binOp, nd_slice, nd_fieldAddr, nd_call, ok_tmp, ok_const, cl_int, opA_move, opA_load, opA_store, opA_nilCheck, opA_fieldAddr, opA_bin, opA_len, opA_sliceHi, contA_val, contA_skip, putT_some, putT_none, aev_tmp, aev_const, rd_same, rd_ne, List.length_set, valA_some, skipA_some, thenA_normal, loadS_ptr, storeS_ptr, nilCheckS_ptr, fieldAddrS_eq, bin_sub, leaveR_ret, resA_tmp, resA_nil, List.getElem?_cons_zero, List.getElem?_cons_succ, pack_one, Option.map_some, Option.isSome_some, ne_eq, Nat.reduceLT, Nat.add_zero, dropP_normal,
      hl, i0, off53_0, agg51, loadV_flat, cell_eq, hba, cellO_box, c3, hw, hsl, sli51, vc_slice, fl_slice, info51, cells51, storeV_flat, setCell_eq, setCellO_box, Option.getD_none, List.set_cons_zero, List.set_cons_succ, List.length_cons]
  · have := hcut.mono (H2 := Ha.set b (.box [bl, .slice (some (baseOf tl)) m (capOf tl), ts, .int .i64 σ.next] 55)) fun i hi => get_set_ne (by
      rintro rfl
      rw [idOf_cut ha2] at hi
      exact hnb hi)
    rw [setL_take _ _ _ _ (Nat.le_refl _)] at this
    exact this
  · intro j hj hjb hji
    rw [get_set_ne hjb]; exact hfa j hj hji

theorem pop35n {ext : CallT} (hx : ∀ f args H, f ≠ 22 → ext f args H = none) {H : AHeap} {b : Nat} {σ : Sc} {bl tl ts : Value} {rs : List Nat} (h : SAt H b σ bl tl ts rs) (hm : σ.turns.length ≤ 0) :
    theCall Try.prog ext 35 [.pointer (some ⟨b, 1, none⟩), .int .i64 0] H = some (.ret (.bool false), H) := by
  have c3 := fun H2 => h.ot.lenS isl51 H2
  have hle : ((σ.turns.length : Int) ≤ 0) := by omega
  refine theCall_run (hx _ _ _ (by decide)) Try.func35 (rs := [.tmp 4]) rfl rfl rfl (by simp) fun tm hl hi => ?_
  replace hl : tm.length = 39 := hl
  have i0 := hi 0
  have i1 := hi 1
  simp only [List.getD_cons_zero, List.getD_cons_succ] at i0 i1
  simp (config := { decide := true }) only [theCode_seq, theCode_list, theCode_ret, theCode_if, evalList_plain, evalList_nil, nd_move, nd_assign, nd_alloc, nd_load, nd_nilCheck, nd_binOp, nd_fieldAddr, nd_call, ok_tmp, ok_const, cl_bool, opA_move, opA_assign, opA_load, opA_nilCheck, opA_fieldAddr, opA_bin, opA_len, opA_alloc, contA_val, putT_some, aev_tmp, aev_const, rd_same, rd_ne, List.length_set, valA_some, thenA_normal, thenA_ret, boolOf_bool, loadS_ptr, nilCheckS_ptr, fieldAddrS_eq, bin_leq, leaveR_ret, resA_tmp, resA_nil, List.getElem?_cons_zero, List.getElem?_cons_succ, pack_one, Option.map_some, Option.isSome_some, ne_eq, ↓reduceIte, Nat.reduceLT, Nat.add_zero, Option.some.injEq, hl, i0, i1, off53_0, agg51, loadV_flat, cell_eq, h.box, cellO_box, c3, hle]


theorem close17 {ext : CallT} (hx : ∀ f args H, f ≠ 22 → ext f args H = none) {H : AHeap} (hf : H.Fresh) {b : Nat} {σ : Sc} {F : Nat → Prop} (h : ScopeAt H b σ F) (hn : σ.blocks.length < 1000000) :
    ∃ H' F', theCall Try.prog ext 17 [.pointer (some ⟨b, 0, none⟩)] H = some (.ret (.bool (decide (1 < σ.blocks.length))), H') ∧ ScopeAt H' b σ.close F' ∧ Upd H F H' F' := by
  obtain ⟨bl, tl, ts, rs, h, rfl⟩ := h
  rcases Nat.lt_or_ge 1 σ.blocks.length with hlt | hge
  · obtain ⟨m, hm⟩ : ∃ m, σ.blocks.length = m + 1 := ⟨σ.blocks.length - 1, by omega⟩
    obtain ⟨H', h1, h2, h3, h4, h5, h6⟩ := pop34 (ext := ext) hx hf h hm (by omega) (by omega)
    have hS : SAt H' b { σ with blocks := σ.blocks.take m } (.slice (some (baseOf bl)) m (capOf bl)) tl ts (rs.take m) := by
      refine h.repB hf (fun j hj hjb hji _ => h4 j hj hjb hji) h2 ?_ ?_ ?_
      · rw [List.length_take, hm, Nat.min_eq_left (by omega), List.map_take]
        rw [Nat.mul_one] at h3; exact h3
      · intro i hi
        rw [List.length_take, hm, Nat.min_eq_left (by omega)] at hi
        obtain ⟨r, g1, g2⟩ := h.maps i (by omega)
        have hr := List.mem_of_getElem? g1
        refine ⟨r, by rw [List.getElem?_take_of_lt hi]; exact g1, ?_⟩
        rw [h4 r (get_lt hf g2) (fun e => by subst e; have := h.kb; have := h.kr hr; omega) (fun e => by have := h.ob.kind e; have := h.kr hr; omega), g2]
        rw [List.getD_eq_getElem?_getD, List.getD_eq_getElem?_getD, List.getElem?_take_of_lt hi]
      · exact h.nd.sublist (List.take_sublist _ _)
    have hc : σ.close = { σ with blocks := σ.blocks.take m } := by unfold Sc.close; rw [if_neg (by omega), hm]; rfl
    refine ⟨H', _, ?_, ⟨_, _, _, _, by rw [hc]; exact hS, rfl⟩, fun j hj hlt' => h4 j hlt' (fun e => hj (.inl e)) (fun e => hj (.inr (.inl e))), fun j hj => ?_, h6, h5⟩
    · rw [decide_eq_true hlt]
      refine theCall_run (hx _ _ _ (by decide)) Try.func17 (rs := [.tmp 2]) rfl rfl rfl (by simp) fun tm hl hi => ?_
      replace hl : tm.length = 11 := hl
      have i0 := hi 0
      simp only [List.getD_cons_zero] at i0
      simp (config := { decide := true }) only [theCode_seq, theCode_list, theCode_ret, evalList_plain, evalList_guard, evalList_nil, nd_move, nd_assign, nd_pick, nd_nilCheck, nd_binOp, nd_fieldAddr, nd_call, ok_tmp, ok_const, ok_func, cl_int, cl_bool, cl_ptr, opA_move, opA_assign, opA_pick, opA_nilCheck, opA_fieldAddr, opA_bin, opA_call, contA_val, contA_enter, callA_ret, putT_some, aev_tmp, aev_const, aev_func, rd_same, rd_ne, List.length_set, thenA_normal, boolOf_bool, nilCheckS_ptr, fieldAddrS_eq, bin_ptr_neq, callS_func, leaveR_ret, resA_tmp, resA_nil, yieldA_S, slotAt_succ, slotAt_zero, yieldS_some, pack_one, Option.map_some, Option.isSome_some, ne_eq, ↓reduceIte, Nat.reduceLT, Nat.zero_add, List.map_cons, List.map_nil, List.all_cons, List.all_nil, Bool.and_true, List.nil_append, List.append_nil, hl, i0, off55_0, isp23, en34, h1]
    · rcases hj with rfl | hj | hj | hj | hj
      · exact .inl (.inl rfl)
      · have hid := idOf_cut (n := m) (c := capOf bl) (hm ▸ h.ob)
        rw [hid] at hj; exact .inl (.inr (.inl hj))
      · exact .inl (.inr (.inr (.inl hj)))
      · exact .inl (.inr (.inr (.inr (.inl hj))))
      · exact .inl (.inr (.inr (.inr (.inr (List.mem_of_mem_take hj)))))
  · have h1 := pop34n (ext := ext) hx h hge
    have hc : σ.close = σ := by unfold Sc.close; rw [if_pos hge]
    refine ⟨H, _, ?_, ⟨_, _, _, _, by rw [hc]; exact h, rfl⟩, Upd.refl hf⟩
    rw [decide_eq_false (by omega)]
    refine theCall_run (hx _ _ _ (by decide)) Try.func17 (rs := [.tmp 2]) rfl rfl rfl (by simp) fun tm hl hi => ?_
    replace hl : tm.length = 11 := hl
    have i0 := hi 0
    simp only [List.getD_cons_zero] at i0
    simp (config := { decide := true }) only [theCode_seq, theCode_list, theCode_ret, evalList_plain, evalList_guard, evalList_nil, nd_move, nd_assign, nd_pick, nd_nilCheck, nd_binOp, nd_fieldAddr, nd_call, ok_tmp, ok_const, ok_func, cl_int, cl_bool, cl_ptr, opA_move, opA_assign, opA_pick, opA_nilCheck, opA_fieldAddr, opA_bin, opA_call, contA_val, contA_enter, callA_ret, putT_some, aev_tmp, aev_const, aev_func, rd_same, rd_ne, List.length_set, thenA_normal, boolOf_bool, nilCheckS_ptr, fieldAddrS_eq, bin_ptr_neq, callS_func, leaveR_ret, resA_tmp, resA_nil, yieldA_S, slotAt_succ, slotAt_zero, yieldS_some, pack_one, Option.map_some, Option.isSome_some, ne_eq, ↓reduceIte, Nat.reduceLT, Nat.zero_add, List.map_cons, List.map_nil, List.all_cons, List.all_nil, Bool.and_true, List.nil_append, List.append_nil, hl, i0, off55_0, isp23, en34, h1]

theorem flatMap_take : ∀ (l : List Trn) (m : Nat), (l.flatMap trnC).take (m * 3) = (l.take m).flatMap trnC
  | [], m => by simp
  | t :: l, 0 => by simp
  | t :: l, m + 1 => by
    have h3 : ∀ X : List Value, (trnC t ++ X).take (m * 3 + 3) = trnC t ++ X.take (m * 3) := fun X => rfl
    rw [List.flatMap_cons, show (m + 1) * 3 = m * 3 + 3 by omega, h3, flatMap_take l m]
    rfl

theorem leave18 {ext : CallT} (hx : ∀ f args H, f ≠ 22 → ext f args H = none) {H : AHeap} (hf : H.Fresh) {b : Nat} {σ : Sc} {F : Nat → Prop} (h : ScopeAt H b σ F) (hn : σ.turns.length < 1000000) :
    ∃ H' F', theCall Try.prog ext 18 [.pointer (some ⟨b, 0, none⟩)] H = some (.ret (.bool (decide (0 < σ.turns.length))), H') ∧ ScopeAt H' b σ.leave F' ∧ Upd H F H' F' := by
  obtain ⟨bl, tl, ts, rs, h, rfl⟩ := h
  rcases Nat.lt_or_ge 0 σ.turns.length with hlt | hge
  · obtain ⟨m, hm⟩ : ∃ m, σ.turns.length = m + 1 := ⟨σ.turns.length - 1, by omega⟩
    obtain ⟨H', h1, h2, h3, h4, h5, h6⟩ := pop35 (ext := ext) hx hf h hm (by omega) (by omega)
    have hS : SAt H' b { σ with turns := σ.turns.take m, next := σ.next } bl (.slice (some (baseOf tl)) m (capOf tl)) ts rs := by
      refine h.repT hf (fun j hj hjb hji => h4 j hj hjb hji) h2 ?_
      rw [List.length_take, hm, Nat.min_eq_left (by omega), ← flatMap_take]
      exact h3
    have hc : σ.leave = { σ with turns := σ.turns.take m, next := σ.next } := by unfold Sc.leave; rw [if_neg (by omega), hm]; rfl
    refine ⟨H', _, ?_, ⟨_, _, _, _, by rw [hc]; exact hS, rfl⟩, fun j hj hlt' => h4 j hlt' (fun e => hj (.inl e)) (fun e => hj (.inr (.inr (.inl e)))), fun j hj => ?_, h6, h5⟩
    · rw [decide_eq_true hlt]
      refine theCall_run (hx _ _ _ (by decide)) Try.func18 (rs := [.tmp 2]) rfl rfl rfl (by simp) fun tm hl hi => ?_
      replace hl : tm.length = 11 := hl
      have i0 := hi 0
      simp only [List.getD_cons_zero] at i0
      simp (config := { decide := true }) only [theCode_seq, theCode_list, theCode_ret, evalList_plain, evalList_guard, evalList_nil, nd_move, nd_assign, nd_pick, nd_nilCheck, nd_binOp, nd_fieldAddr, nd_call, ok_tmp, ok_const, ok_func, cl_int, cl_bool, cl_ptr, opA_move, opA_assign, opA_pick, opA_nilCheck, opA_fieldAddr, opA_bin, opA_call, contA_val, contA_enter, callA_ret, putT_some, aev_tmp, aev_const, aev_func, rd_same, rd_ne, List.length_set, thenA_normal, boolOf_bool, nilCheckS_ptr, fieldAddrS_eq, bin_ptr_neq, callS_func, leaveR_ret, resA_tmp, resA_nil, yieldA_S, slotAt_succ, slotAt_zero, yieldS_some, pack_one, Option.map_some, Option.isSome_some, ne_eq, ↓reduceIte, Nat.reduceLT, Nat.zero_add, List.map_cons, List.map_nil, List.all_cons, List.all_nil, Bool.and_true, List.nil_append, List.append_nil, hl, i0, off55_1, isp23, en35, h1]
    · rcases hj with rfl | hj | hj | hj | hj
      · exact .inl (.inl rfl)
      · exact .inl (.inr (.inl hj))
      · have hid := idOf_cut (n := m) (c := capOf tl) (hm ▸ h.ot)
        rw [hid] at hj; exact .inl (.inr (.inr (.inl hj)))
      · exact .inl (.inr (.inr (.inr (.inl hj))))
      · exact .inl (.inr (.inr (.inr (.inr hj))))
  · have h1 := pop35n (ext := ext) hx h hge
    have hc : σ.leave = σ := by unfold Sc.leave; rw [if_pos (by omega)]
    refine ⟨H, _, ?_, ⟨_, _, _, _, by rw [hc]; exact h, rfl⟩, Upd.refl hf⟩
    rw [decide_eq_false (by omega)]
    refine theCall_run (hx _ _ _ (by decide)) Try.func18 (rs := [.tmp 2]) rfl rfl rfl (by simp) fun tm hl hi => ?_
    replace hl : tm.length = 11 := hl
    have i0 := hi 0
    simp only [List.getD_cons_zero] at i0
    simp (config := { decide := true }) only [theCode_seq, theCode_list, theCode_ret, evalList_plain, evalList_guard, evalList_nil, nd_move, nd_assign, nd_pick, nd_nilCheck, nd_binOp, nd_fieldAddr, nd_call, ok_tmp, ok_const, ok_func, cl_int, cl_bool, cl_ptr, opA_move, opA_assign, opA_pick, opA_nilCheck, opA_fieldAddr, opA_bin, opA_call, contA_val, contA_enter, callA_ret, putT_some, aev_tmp, aev_const, aev_func, rd_same, rd_ne, List.length_set, thenA_normal, boolOf_bool, nilCheckS_ptr, fieldAddrS_eq, bin_ptr_neq, callS_func, leaveR_ret, resA_tmp, resA_nil, yieldA_S, slotAt_succ, slotAt_zero, yieldS_some, pack_one, Option.map_some, Option.isSome_some, ne_eq, ↓reduceIte, Nat.reduceLT, Nat.zero_add, List.map_cons, List.map_nil, List.all_cons, List.all_nil, Bool.and_true, List.nil_append, List.append_nil, hl, i0, off55_1, isp23, en35, h1]

end Go.Proofs.Ytnjoaffnfjlcaaa

namespace Go.Proofs.Ytnjoaffnfjlcaaa
open Go Go.Proofs B


def findV (σ : Sc) (nm : ByteArray) : Value := match σ.find nm with
  | some k => .tuple #[.int .i64 k, tyC (σ.types.getD k 0), .bool true]
  | none => .tuple #[.int .i64 0, .int .i64 0, .bool false]

theorem find10 {ext : CallT} (hx : ∀ f args H, f ≠ 22 → ext f args H = none) {H : AHeap} (hf : H.Fresh) {b : Nat} {σ : Sc} {F : Nat → Prop} (h : ScopeAt H b σ F) (hok : σ.ok) (hn : σ.blocks.length < 1000000) (hn2 : σ.types.length < 1000000) (nm : ByteArray) :
    ∃ H', theCall Try.prog ext 10 [.pointer (some ⟨b, 0, none⟩), .string nm] H = some (.ret (findV σ nm), H') ∧ Grown H H' := by
  obtain ⟨bl, tl, ts, rs, h, rfl⟩ := h
  obtain ⟨H1, e1⟩ : ∃ X, H.push (.box [.string nm] 9) = X := ⟨_, rfl⟩
  have g1 : Grown H H1 := by rw [← e1]; exact Grown.push hf _
  have x1 : H1.get H.next = some (.box [.string nm] 9) := by rw [← e1]; exact get_push_new
  have h1 := h.grown hf g1
  have hval : ∀ H2, Grown H1 H2 → ∀ i, i < σ.blocks.length → H2.loadV Try.prog 56 (addA (baseOf bl) (i * 1)) = some ((fun i => Value.map (some (rs.getD i 0))) i) := fun H2 g i hi => (h1.grown g1.fresh g).valB hi
  obtain ⟨Hf, hcall, gf⟩ := find26 (ext := ext) hx g1.fresh h1.box h1.ob hn (val := fun i => Value.map (some (rs.getD i 0))) hval (fun i _ => ⟨by rw [vc_map]; rfl, by rw [vc_map]; simp [fl_map], vc_map⟩)
    (cf := 27) (caps := [.pointer (some ⟨H.next, 0, none⟩)]) en27 (fun i => (lookN (σ.blocks.getD i []) nm).isSome) (fun i H2 hi g => by
      obtain ⟨r, hr1, hr2⟩ := (h1.grown g1.fresh g).maps i hi
      refine ⟨H2, ?_, Grown.refl g.fresh⟩
      rw [← lookB_entV_some]
      have hrr : rs.getD i 0 = r := by rw [List.getD_eq_getElem?_getD, hr1]; rfl
      show theCall Try.prog ext 27 [.map (some (rs.getD i 0)), _] H2 = _
      rw [hrr]
      exact is27 hx (g.has g1.fresh x1) hr2)
  have hfb := (h1.grown g1.fresh gf).box
  have hfx := gf.has g1.fresh x1
  have hft := h1.grown g1.fresh gf
  refine ⟨Hf, ?_, g1.trans gf⟩
  cases hq : σ.findAt nm with
  | none =>
    have hq' := hq
    unfold Sc.findAt at hq'
    rw [hq'] at hcall
    simp only [Option.isSome_none] at hcall
    have hv : findV σ nm = .tuple #[.int .i64 0, .int .i64 0, .bool false] := by unfold findV Sc.find; rw [hq]; rfl
    rw [hv]
    refine theCall_run (hx _ _ _ (by decide)) Try.func10 (rs := [.tmp 4, .tmp 5, .tmp 6]) rfl rfl rfl (by simp) fun tm hl hi => ?_
    replace hl : tm.length = 33 := hl
    have i0 := hi 0
    have i1 := hi 1
    simp only [List.getD_cons_zero, List.getD_cons_succ] at i0 i1
    simp (config := { decide := true }) only [theCode_seq, theCode_list, theCode_skip, theCode_ret, theCode_if, evalList_plain, evalList_nil, nd_move, nd_assign, nd_box, nd_nilCheck, nd_binOp, nd_unOp, nd_makeFunc, nd_fieldAddr, nd_extract, nd_call, ok_tmp, ok_const, ok_func, cl_int, cl_bool, cl_ptr, opA_move, opA_assign, opA_nilCheck, opA_fieldAddr, opA_extract, opA_bin, opA_un, opA_call, opA_box, opA_makeFunc0, contA_val, contA_enter, callA_ret, putT_some, aev_tmp, aev_const, aev_func, rd_same, rd_ne, List.length_set, valA_some, thenA_normal, thenA_ret, boolOf_bool, nilCheckS_ptr, fieldAddrS_eq, extractS_tuple, un_not,
    bin_ptr_eql, callS_func, leaveR_ret, resA_tmp, resA_nil, List.getElem?_toArray, List.getElem?_cons_zero, List.getElem?_cons_succ, pack_two, Option.map_some, Option.isSome_some, ne_eq, ↓reduceIte, Nat.reduceLT, Nat.zero_add, Option.some.injEq, List.map_cons, List.map_nil, List.all_cons, List.all_nil, Bool.and_true, List.nil_append, List.append_nil, hl, i0, i1, vc_string, fl_string, info9, e1, isp23, off55_0, en26, hcall, Bool.not_false]
  | some i =>
    have hq' := hq
    unfold Sc.findAt at hq'
    rw [hq'] at hcall
    simp only [Option.isSome_some] at hcall
    obtain ⟨hin, hp, _⟩ := lastI_some hq'
    obtain ⟨k, hk⟩ := Option.isSome_iff_exists.1 hp
    have hv : findV σ nm = .tuple #[.int .i64 k, tyC (σ.types.getD k 0), .bool true] := by unfold findV Sc.find; rw [hq, Option.bind_some, hk]
    rw [hv]
    obtain ⟨r, hr1, hr2⟩ := hft.maps i hin
    have hrr : rs.getD i 0 = r := by rw [List.getD_eq_getElem?_getD, hr1]; rfl
    rw [hrr] at hcall
    have hkl : k < σ.types.length := hok _ (by rw [List.getD_eq_getElem?_getD, List.getElem?_eq_getElem hin]; exact List.getElem_mem hin) _ (lookN_mem hk)
    have hlk := lookS_str1 (P := Try.prog) (t := 56) (k := nm) (und_of Try.underlying56) us9 zero3 hr2
    rw [lookB_entV, hk, Option.map_some, Option.getD_some] at hlk
    have hix := fun H2 => indexAddrS_own (j := k) (k := .i64) hft.oy (by omega) (by omega) es32 H2
    simp only [Int.toNat_natCast] at hix
    have hld := hft.valY hkl
    rw [loadV_flat agg3] at hld
    refine theCall_run (hx _ _ _ (by decide)) Try.func10 (rs := [.tmp 4, .tmp 5, .tmp 6]) rfl rfl rfl (by simp) fun tm hl hi => ?_
    replace hl : tm.length = 33 := hl
    have i0 := hi 0
    have i1 := hi 1
    simp only [List.getD_cons_zero, List.getD_cons_succ] at i0 i1
    simp (config := { decide := true }) only [theCode_seq, theCode_list, theCode_skip, theCode_ret, theCode_if, evalList_plain, evalList_nil, nd_move, nd_assign, nd_box, nd_nilCheck, nd_binOp, nd_unOp, nd_makeFunc, nd_fieldAddr, nd_extract, nd_call, ok_tmp, ok_const, ok_func, cl_int, cl_bool, cl_ptr, opA_move, opA_assign, opA_nilCheck, opA_fieldAddr, opA_extract, opA_bin, opA_un, opA_call, opA_box, opA_makeFunc0, contA_val, contA_enter, callA_ret, putT_some, aev_tmp, aev_const, aev_func, rd_same, rd_ne, List.length_set, valA_some, thenA_normal, boolOf_bool, nilCheckS_ptr, fieldAddrS_eq, extractS_tuple, un_not,
    bin_ptr_eql, callS_func, List.getElem?_toArray, List.getElem?_cons_zero, List.getElem?_cons_succ, Option.map_some, Option.isSome_some, ne_eq, ↓reduceIte, Nat.reduceLT, Nat.zero_add, Option.some.injEq, List.map_cons, List.map_nil, List.all_cons, List.all_nil, Bool.and_true, List.nil_append, List.append_nil, hl, i0, i1, vc_string, fl_string, info9, e1, isp23, off55_0, en26, hcall, Bool.not_true]
    rw [theCode_text (by kernel_rfl)]
    simp (config := { decide := true }) only [evalList_plain, evalList_nil, nd_move, nd_assign, nd_load, nd_nilCheck, nd_fieldAddr, nd_indexAddr, nd_lookup, ok_tmp, ok_const, cl_bool, opA_move, opA_assign, opA_load, opA_nilCheck, opA_fieldAddr, opA_indexAddr, opA_lookup, contA_val, putT_some, aev_tmp, aev_const, rd_same, rd_ne, List.length_set, valA_some, thenA_normal, loadS_ptr, nilCheckS_ptr, fieldAddrS_eq, leaveR_ret, resA_tmp, resA_nil, List.getElem?_cons_zero, List.getElem?_cons_succ, pack_two, Option.map_some, Option.isSome_some, ne_eq, Nat.reduceLT, Nat.zero_add, dropP_normal,
      hl, i0, agg9, agg32, loadV_flat, cell_eq, hfx, hfb, cellO_box, hlk, off55_2, hix, sli32, hld]


def targV (σ : Sc) (nm : ByteArray) (tn : Bool) : Value := match σ.target nm tn with
  | some k => .tuple #[.int .i64 k, .int .i64 0]
  | none => .tuple #[.int .i64 0, .int .i64 72]

theorem target11 {ext : CallT} (hx : ∀ f args H, f ≠ 22 → ext f args H = none) {H : AHeap} (hf : H.Fresh) {b : Nat} {σ : Sc} {F : Nat → Prop} (h : ScopeAt H b σ F) (hn : σ.turns.length < 1000000) (nm : ByteArray) (tn : Bool) :
    ∃ H', theCall Try.prog ext 11 [.pointer (some ⟨b, 0, none⟩), .string nm, .bool tn] H = some (.ret (targV σ nm tn), H') ∧ Grown H H' := by
  obtain ⟨bl, tl, ts, rs, h, rfl⟩ := h
  obtain ⟨H1, e1⟩ : ∃ X, H.push (.box [.string nm] 9) = X := ⟨_, rfl⟩
  have g1 : Grown H H1 := by rw [← e1]; exact Grown.push hf _
  have x1 : H1.get H.next = some (.box [.string nm] 9) := by rw [← e1]; exact get_push_new
  have n1 : H1.next = H.next + 1 := by rw [← e1]; rfl
  obtain ⟨H2, e2⟩ : ∃ X, H1.push (.box [.bool tn] 4) = X := ⟨_, rfl⟩
  have g2 : Grown H1 H2 := by rw [← e2]; exact Grown.push g1.fresh _
  have x2 : H2.get (H.next + 1) = some (.box [.bool tn] 4) := by rw [← e2, ← n1]; exact get_push_new
  have y1 := g2.has g1.fresh x1
  have h2 := (h.grown hf g1).grown g1.fresh g2
  have hval : ∀ H3, Grown H2 H3 → ∀ i, i < σ.turns.length → H3.loadV Try.prog 62 (addA (baseOf tl) (i * 3)) = some ((fun i => trnV (σ.turns.getD i noTrn)) i) := fun H3 g i hi => (h2.grown g2.fresh g).valT hi
  obtain ⟨Hf, hcall, gf⟩ := find28 (ext := ext) hx g2.fresh h2.box h2.ot hn (val := fun i => trnV (σ.turns.getD i noTrn)) hval (fun i _ => ⟨by simp [trnV, vc_agg, trnC], by simp [trnV, vc_agg, trnC, fl_string, fl_bool, fl_int], by simp [trnV, vc_agg]⟩)
    (cf := 29) (caps := [.pointer (some ⟨H.next, 0, none⟩), .pointer (some ⟨H.next + 1, 0, none⟩)]) en29 (fun i => tMatch (σ.turns.getD i noTrn) nm tn) (fun i H3 hi g =>
      ⟨_, is29 hx g.fresh (g.has g2.fresh y1) (g.has g2.fresh x2), Grown.push g.fresh _⟩)
  have hq0 : σ.targetAt nm tn = lastI (fun i => tMatch (σ.turns.getD i noTrn) nm tn) σ.turns.length := rfl
  rw [← hq0] at hcall
  have n3 : H2.next ≤ Hf.next := gf.next
  cases hq : σ.targetAt nm tn with
  | none =>
    rw [hq] at hcall
    simp only [Option.isSome_none] at hcall
    have hv : targV σ nm tn = .tuple #[.int .i64 0, .int .i64 72] := by unfold targV Sc.target; rw [hq]; rfl
    rw [hv]
    have hst : (Hf.push (.box [.string ⟨#[]⟩, .bool false, .int .i64 0] 62)).storeV Try.prog 62 ⟨Hf.next, 0, none⟩ (.agg #[.string ⟨#[]⟩, .bool false, .int .i64 0]) = some ((Hf.push (.box [.string ⟨#[]⟩, .bool false, .int .i64 0] 62)).set Hf.next (.box [.string ⟨#[]⟩, .bool false, .int .i64 0] 62)) := by
      rw [storeV_box info62 get_push_new (by rw [cells62]; rfl) (by rw [vc_agg]; rfl) (by rw [vc_agg]; simp [fl_string, fl_bool, fl_int]), vc_agg]
    refine ⟨?X1, ?h1, ?g1⟩
    case h1 =>
      refine theCall_run (hx _ _ _ (by decide)) Try.func11 (rs := [.tmp 6, .tmp 7]) rfl rfl rfl (by simp) fun tm hl hi => ?_
      replace hl : tm.length = 24 := hl
      have i0 := hi 0
      have i1 := hi 1
      have i2 := hi 2
      simp only [List.getD_cons_zero, List.getD_cons_succ] at i0 i1 i2
      simp (config := { decide := true }) only [theCode_seq, theCode_list, theCode_skip, theCode_ret, theCode_if, evalList_plain, evalList_nil, nd_move, nd_assign, nd_alloc, nd_box, nd_store, nd_nilCheck, nd_binOp, nd_unOp, nd_makeFunc, nd_fieldAddr, nd_extract, nd_call, ok_tmp, ok_const, ok_func, cl_int, cl_ptr, opA_move, opA_assign, opA_store, opA_nilCheck, opA_fieldAddr, opA_extract, opA_bin, opA_un, opA_call, opA_box, opA_alloc, opA_makeFunc0, contA_val, contA_skip, contA_enter, callA_ret, putT_some, putT_none, aev_tmp, aev_const, aev_func, rd_same, rd_ne, List.length_set, valA_some, skipA_some, thenA_normal, thenA_ret, boolOf_bool, storeS_ptr, nilCheckS_ptr, fieldAddrS_eq, extractS_tuple, un_not,
    bin_ptr_eql, callS_func, leaveR_ret, resA_tmp, resA_nil, List.getElem?_toArray, List.getElem?_cons_zero, List.getElem?_cons_succ, pack_two, Option.map_some, Option.isSome_some, ne_eq, ↓reduceIte, Nat.reduceLT, Nat.zero_add, Option.some.injEq, List.map_cons, List.map_nil, List.all_cons, List.all_nil, Bool.and_true, List.nil_append, List.append_nil, hl, i0, i1, i2, vc_string, fl_string, vc_bool, fl_bool, info9, info4, e1, n1, e2, isp23, off55_1, en28, hcall, zf62, vc_agg, hst, Bool.not_false]
      rfl
    case g1 => exact ((g1.trans g2).trans gf).trans (Grown.set2 (Grown.push gf.fresh _) _ get_push_new (Nat.le_refl _))
  | some i =>
    rw [hq] at hcall
    simp only [Option.isSome_some] at hcall
    have hv : targV σ nm tn = .tuple #[.int .i64 (σ.turns.getD i noTrn).no, .int .i64 0] := by unfold targV Sc.target; rw [hq]; rfl
    rw [hv]
    have hst : (Hf.push (.box [.string ⟨#[]⟩, .bool false, .int .i64 0] 62)).storeV Try.prog 62 ⟨Hf.next, 0, none⟩ (trnV (σ.turns.getD i noTrn)) = some ((Hf.push (.box [.string ⟨#[]⟩, .bool false, .int .i64 0] 62)).set Hf.next (.box (trnC (σ.turns.getD i noTrn)) 62)) := by
      rw [storeV_box info62 get_push_new (by rw [cells62]; rfl) (by simp [trnV, vc_agg, trnC]) (by simp [trnV, vc_agg, trnC, fl_string, fl_bool, fl_int])]
      simp [trnV, vc_agg]
    have hld : ∀ o, (Hf.set o (.box (trnC (σ.turns.getD i noTrn)) 62)).cell ⟨o, 2, none⟩ = some (.int .i64 (σ.turns.getD i noTrn).no) := fun o => by
      rw [cell_eq, get_set_same]; rfl
    refine ⟨?X2, ?h2, ?g2⟩
    case h2 =>
      refine theCall_run (hx _ _ _ (by decide)) Try.func11 (rs := [.tmp 6, .tmp 7]) rfl rfl rfl (by simp) fun tm hl hi => ?_
      replace hl : tm.length = 24 := hl
      have i0 := hi 0
      have i1 := hi 1
      have i2 := hi 2
      simp only [List.getD_cons_zero, List.getD_cons_succ] at i0 i1 i2
      simp (config := { decide := true }) only [theCode_seq, theCode_list, theCode_skip, theCode_ret, theCode_if, evalList_plain, evalList_nil, nd_move, nd_assign, nd_alloc, nd_box, nd_load, nd_store, nd_nilCheck, nd_binOp, nd_unOp, nd_makeFunc, nd_fieldAddr, nd_extract, nd_call, ok_tmp, ok_const, ok_func, cl_int, cl_ptr, opA_move, opA_assign, opA_load, opA_store, opA_nilCheck, opA_fieldAddr, opA_extract, opA_bin, opA_un, opA_call, opA_box, opA_alloc, opA_makeFunc0, contA_val, contA_skip, contA_enter, callA_ret, putT_some, putT_none, aev_tmp, aev_const, aev_func, rd_same, rd_ne, List.length_set, valA_some, skipA_some, thenA_normal, boolOf_bool, loadS_ptr, storeS_ptr, nilCheckS_ptr, fieldAddrS_eq, extractS_tuple, un_not,
    bin_ptr_eql, callS_func, leaveR_ret, resA_tmp, resA_nil, List.getElem?_toArray, List.getElem?_cons_zero, List.getElem?_cons_succ, pack_two, Option.map_some, Option.isSome_some, ne_eq, ↓reduceIte, Nat.reduceLT, Nat.zero_add, Option.some.injEq, List.map_cons, List.map_nil, List.all_cons, List.all_nil, Bool.and_true, List.nil_append, List.append_nil, hl, i0, i1, i2, vc_string, fl_string, vc_bool, fl_bool, info9, info4, e1, n1, e2, isp23, off55_1, en28, hcall, zf62, vc_agg, hst, Bool.not_true, off62_2, agg3, loadV_flat, cell_eq, get_set_same, cellO_box, trnC]
      rfl
    case g2 => exact ((g1.trans g2).trans gf).trans (Grown.set2 (Grown.push gf.fresh _) _ get_push_new (Nat.le_refl _))

end Go.Proofs.Ytnjoaffnfjlcaaa

namespace Go.Proofs.Ytnjoaffnfjlcaaa
open Go Go.Proofs B


theorem push33 {ext : CallT} (hx : ∀ f args H, f ≠ 22 → ext f args H = none) {H : AHeap} (hf : H.Fresh) {b : Nat} {σ : Sc} {bl tl ts : Value} {rs : List Nat} (h : SAt H b σ bl tl ts rs) (hn : σ.turns.length < 1000000) (s : ByteArray) (lp : Bool) (no : Nat) :
    ∃ tl' H', theCall Try.prog ext 33 [.pointer (some ⟨b, 1, none⟩), .agg #[.string s, .bool lp, .int .i64 no]] H = some (.ret (.int .i64 (σ.turns.length + 1)), H') ∧ SAt H' b { σ with turns := σ.turns ++ [⟨s, lp, no⟩] } bl tl' ts rs ∧ (∀ j, j < H.next → j ≠ b → idOf tl ≠ some j → H'.get j = H.get j) ∧ H.next ≤ H'.next ∧ H'.Fresh ∧ (∀ j, idOf tl' = some j → idOf tl = some j ∨ H.next ≤ j) := by
  obtain ⟨H0, e0⟩ : ∃ X, H.push (.box [.string s, .bool lp, .int .i64 no] 62) = X := ⟨_, rfl⟩
  have g0 : Grown H H0 := by rw [← e0]; exact Grown.push hf _
  have x0 : H0.get H.next = some (.box [.string s, .bool lp, .int .i64 no] 62) := by rw [← e0]; exact get_push_new
  have h0 := h.grown hf g0
  obtain ⟨tl', Ha, h1, h2, hu⟩ := h0.ot.append1U (xs := [.string s, .bool lp, .int .i64 no]) (i := Try.t62) (z := .agg #[.string ⟨#[]⟩, .bool false, .int .i64 0]) g0.fresh rfl (by decide) rfl rfl rfl rfl (by omega) (by show (σ.turns.length + 1) * 32 ≤ 140737488355328; omega)
  simp only [List.length_cons, List.length_nil, Nat.zero_add, Nat.reduceAdd] at h1
  have hbl : b < H.next := get_lt hf h.box
  have hnb : idOf tl ≠ some b := h0.ot.id_ne h0.box
  have hb2 : Ha.get b = some (.box [bl, tl, ts, .int .i64 σ.next] 55) := by rw [hu.frame b hnb (Nat.lt_of_lt_of_le hbl g0.next)]; exact h0.box
  have hnb' : idOf tl' ≠ some b := h2.id_ne hb2
  have c1 := h2.vcells
  have c2 := h2.flat
  have c3 := fun H2 => h2.lenS isl51 H2
  have ld0 : H0.loadV Try.prog 62 ⟨H.next, 0, none⟩ = some (.agg #[.string s, .bool lp, .int .i64 no]) := loadV_box agg62 info62 x0 (by rw [cells62]; rfl)
  have hfr : ∀ j, j < H0.next → j ≠ b → idOf tl ≠ some j → (Ha.set b (.box [bl, tl', ts, .int .i64 σ.next] 55)).get j = H0.get j := fun j hj hjb hji => by
    rw [get_set_ne hjb]; exact hu.frame j hji hj
  refine ⟨tl', Ha.set b (.box [bl, tl', ts, .int .i64 σ.next] 55), ?_, ?_, fun j hj hjb hji => by rw [hfr j (Nat.lt_of_lt_of_le hj g0.next) hjb hji]; exact g0.get j hj, Nat.le_trans g0.next hu.next, (AHeap.le_set hb2).fresh hu.fresh, fun j hj => (hu.foot j hj).imp id (Nat.le_trans g0.next)⟩
  · refine theCall_run (hx _ _ _ (by decide)) Try.func33 (rs := [.tmp 4]) rfl rfl rfl (by simp) fun tm hl hi => ?_
    replace hl : tm.length = 20 := hl
    have i0 := hi 0
    have i1 := hi 1
    simp only [List.getD_cons_zero, List.getD_cons_succ] at i0 i1
    simp (config := { decide := true }) only [theCode_seq, theCode_list, theCode_ret, evalList_plain, evalList_nil, nd_move, nd_assign, nd_box, nd_nilCheck, ok_tmp, ok_const, cl_int, opA_move, opA_assign, opA_nilCheck, opA_box, contA_val, putT_some, aev_tmp, aev_const, thenA_normal, List.all_cons, List.all_nil, Bool.and_true, i1, info62, vc_agg, fl_string, fl_bool, fl_int, e0]
    rw [theCode_text (by kernel_rfl)]
    simp (config := { decide := true }) only [evalList_plain, evalList_nil, nd_move, nd_assign, nd_buildSlice, nd_load, nd_store, nd_nilCheck, nd_fieldAddr, nd_call, ok_tmp, opA_move, opA_assign, opA_load, opA_store, opA_nilCheck, opA_fieldAddr, opA_len, opA_appendS, contA_val, contA_skip, putT_some, putT_none, aev_tmp, rd_same, rd_ne, List.length_set, valA_some, skipA_some, pairA_some,
    thenA_normal, loadS_ptr, storeS_ptr, nilCheckS_ptr, fieldAddrS_eq, leaveR_ret, resA_tmp, resA_nil, List.getElem?_cons_zero, List.getElem?_cons_succ, pack_one, Option.map_some, Option.isSome_some, ne_eq, Nat.reduceLT, Nat.reduceAdd, Nat.add_zero, Nat.zero_add, Option.some.injEq, List.all_cons, List.all_nil, Bool.and_true, dropP_normal,
      hl, i0, off53_0, agg51, loadV_flat, ld0, cell_eq, h0.box, hb2, cellO_box, info51, cells51, storeV_flat, setCell_eq, setCellO_box, c1, c2, c3, get_set_same, List.set_cons_zero, List.set_cons_succ, Option.getD_none, opA_build1F, b1_51, es51, vc_agg, fl_string, fl_bool, fl_int, appendS_of sli51, build1S_of sli51, h1, sli51, List.size_toArray, List.length_cons, List.length_nil]
    push_cast
    rfl
  · refine h0.repT g0.fresh hfr get_set_same ?_
    have := h2.mono (H2 := Ha.set b (.box [bl, tl', ts, .int .i64 σ.next] 55)) fun i hi => get_set_ne (by rintro rfl; exact hnb' hi)
    simpa [List.flatMap_append, trnC] using this

def entV2 (σ : Sc) (nm : ByteArray) : Value := if σ.twice nm then .tuple #[.int .i64 0, .int .i64 70] else .tuple #[.int .i64 σ.next, .int .i64 0]

theorem enter14 {ext : CallT} (hx : ∀ f args H, f ≠ 22 → ext f args H = none) {H : AHeap} (hf : H.Fresh) {b : Nat} {σ : Sc} {F : Nat → Prop} (h : ScopeAt H b σ F) (hn : σ.turns.length < 1000000) (hn2 : σ.next < 1000000) (nm : ByteArray) (tn : Bool) :
    ∃ H' F', theCall Try.prog ext 14 [.pointer (some ⟨b, 0, none⟩), .string nm, .bool tn] H = some (.ret (entV2 σ nm), H') ∧ ScopeAt H' b (σ.enter nm tn) F' ∧ Upd H F H' F' := by
  obtain ⟨bl, tl, ts, rs, h, rfl⟩ := h
  obtain ⟨H1, e1⟩ : ∃ X, H.push (.box [.string nm] 9) = X := ⟨_, rfl⟩
  have g1 : Grown H H1 := by rw [← e1]; exact Grown.push hf _
  have x1 : H1.get H.next = some (.box [.string nm] 9) := by rw [← e1]; exact get_push_new
  have n1 : H1.next = H.next + 1 := by rw [← e1]; rfl
  have h1 := h.grown hf g1
  have hval : ∀ H3, Grown H1 H3 → ∀ i, i < σ.turns.length → H3.loadV Try.prog 62 (addA (baseOf tl) (i * 3)) = some ((fun i => trnV (σ.turns.getD i noTrn)) i) := fun H3 g i hi => (h1.grown g1.fresh g).valT hi
  obtain ⟨Hf, hcall, gf⟩ := find28 (ext := ext) hx g1.fresh h1.box h1.ot hn (val := fun i => trnV (σ.turns.getD i noTrn)) hval (fun i _ => ⟨by simp [trnV, vc_agg, trnC], by simp [trnV, vc_agg, trnC, fl_string, fl_bool, fl_int], by simp [trnV, vc_agg]⟩)
    (cf := 32) (caps := [.pointer (some ⟨H.next, 0, none⟩)]) en32 (fun i => tTwice (σ.turns.getD i noTrn) nm) (fun i H3 hi g =>
      ⟨_, is32 hx g.fresh (g.has g1.fresh x1), Grown.push g.fresh _⟩)
  -- the copy of the turn
  obtain ⟨v, hvs, hcall⟩ : ∃ v : Value, (v.cells.size = 3 ∧ v.cells.toList.all flatV = true) ∧ theCall Try.prog ext 28 [.pointer (some ⟨b, 1, none⟩), .func (.func 32) #[] #[.pointer (some ⟨H.next, 0, none⟩)]] H1 = some (.ret (.tuple #[v, .bool (σ.twice nm)]), Hf) := by
    unfold Sc.twice
    cases hq : lastI (fun i => tTwice (σ.turns.getD i noTrn) nm) σ.turns.length with
    | none =>
      rw [hq] at hcall
      exact ⟨_, ⟨by simp [vc_agg], by simp [vc_agg, fl_string, fl_bool, fl_int]⟩, hcall⟩
    | some i =>
      rw [hq] at hcall
      exact ⟨_, ⟨by simp [trnV, vc_agg, trnC], by simp [trnV, vc_agg, trnC, fl_string, fl_bool, fl_int]⟩, hcall⟩
  obtain ⟨Hg, eg⟩ : ∃ X, (Hf.push (.box [.string ⟨#[]⟩, .bool false, .int .i64 0] 62)).set Hf.next (.box v.cells.toList 62) = X := ⟨_, rfl⟩
  have hst : (Hf.push (.box [.string ⟨#[]⟩, .bool false, .int .i64 0] 62)).storeV Try.prog 62 ⟨Hf.next, 0, none⟩ v = some Hg := by
    rw [storeV_box info62 get_push_new (by rw [cells62]; rfl) (by rw [hvs.1]; rfl) hvs.2, eg]
  have gg : Grown H1 Hg := by rw [← eg]; exact Grown.set2 (gf.push2 _) _ get_push_new gf.next
  have hg := h1.grown g1.fresh gg
  have xg := gg.has g1.fresh x1
  have g0g : Grown H Hg := g1.trans gg
  cases ht : σ.twice nm with
  | true =>
    rw [ht] at hcall
    have hE : σ.enter nm tn = σ := by unfold Sc.enter; rw [ht]; rfl
    have hV : entV2 σ nm = .tuple #[.int .i64 0, .int .i64 70] := by unfold entV2; rw [ht]; rfl
    rw [hE, hV]
    refine ⟨Hg, _, ?_, ⟨_, _, _, _, hg, rfl⟩, g0g.upd _⟩
    refine theCall_run (hx _ _ _ (by decide)) Try.func14 (rs := [.tmp 6, .tmp 7]) rfl rfl rfl (by simp) fun tm hl hi => ?_
    replace hl : tm.length = 42 := hl
    have i0 := hi 0
    have i1 := hi 1
    have i2 := hi 2
    simp only [List.getD_cons_zero, List.getD_cons_succ] at i0 i1 i2
    simp (config := { decide := true }) only [theCode_seq, theCode_list, theCode_skip, theCode_ret, theCode_if, evalList_plain, evalList_nil, nd_move, nd_assign, nd_alloc, nd_box, nd_store, nd_nilCheck, nd_binOp, nd_makeFunc, nd_fieldAddr, nd_extract, nd_call, ok_tmp, ok_const, ok_func, cl_int, cl_ptr, opA_move, opA_assign, opA_store, opA_nilCheck, opA_fieldAddr, opA_extract, opA_bin, opA_call, opA_box, opA_alloc, opA_makeFunc0, contA_val, contA_skip, contA_enter, callA_ret, putT_some, putT_none, aev_tmp, aev_const, aev_func, rd_same, rd_ne, List.length_set, valA_some, skipA_some, thenA_normal, thenA_ret, boolOf_bool, storeS_ptr, nilCheckS_ptr, fieldAddrS_eq, extractS_tuple, bin_ptr_eql, callS_func, leaveR_ret, resA_tmp, resA_nil, List.getElem?_toArray, List.getElem?_cons_zero, List.getElem?_cons_succ, pack_two, Option.map_some, Option.isSome_some, ne_eq, ↓reduceIte, Nat.reduceLT, Nat.zero_add, Option.some.injEq, List.map_cons, List.map_nil, List.all_cons, List.all_nil, Bool.and_true, List.nil_append, List.append_nil, hl, i0, i1, vc_string, fl_string, info9, e1, isp23, off55_1, en28, hcall, zf62, vc_agg, hst]
  | false =>
    rw [ht] at hcall
    have hE : σ.enter nm tn = { σ with turns := σ.turns ++ [⟨nm, tn, σ.next⟩], next := σ.next + 1 } := by unfold Sc.enter; rw [ht]; rfl
    have hV : entV2 σ nm = .tuple #[.int .i64 σ.next, .int .i64 0] := by unfold entV2; rw [ht]; rfl
    rw [hE, hV]
    obtain ⟨tl', Hp, p1, p2, p3, p4, p5, p6⟩ := push33 (ext := ext) hx gg.fresh hg hn nm tn σ.next
    have hb62 : buildS Try.prog Hg 62 [(0, .string nm), (1, .bool tn), (2, .int .i64 σ.next)] = some (.val (.agg #[.string nm, .bool tn, .int .i64 σ.next]) Hg) := by
      unfold buildS
      rw [zf62]
      have : Program.built Try.prog 62 [(0, .string nm), (1, .bool tn), (2, .int .i64 σ.next)] = some #[.string nm, .bool tn, .int .i64 σ.next] := by
        kernel_rfl
      rw [this]
    have hw : IntKind.i64.wrap ((σ.next : Int) + 1) = ((σ.next + 1 : Nat) : Int) := by rw [IntWalk.i64_in _ (by omega)]; omega
    have hbH : b < Hg.next := get_lt gg.fresh hg.box
    have hS : SAt (Hp.set b (.box [bl, tl', ts, .int .i64 (σ.next + 1 : Nat)] 55)) b { σ with turns := σ.turns ++ [⟨nm, tn, σ.next⟩], next := σ.next + 1 } bl tl' ts rs :=
      p2.repT p5 (fun j _ hjb _ => get_set_ne hjb) get_set_same (p2.ot.mono fun i hi => get_set_ne (by rintro rfl; exact p2.ot.id_ne p2.box hi))
    refine ⟨Hp.set b (.box [bl, tl', ts, .int .i64 (σ.next + 1 : Nat)] 55), _, ?_, ⟨_, _, _, _, hS, rfl⟩, fun j hj hlt => ?_, fun j hj => ?_, (AHeap.le_set p2.box).fresh p5, Nat.le_trans g0g.next p4⟩
    · refine theCall_run (hx _ _ _ (by decide)) Try.func14 (rs := [.tmp 6, .tmp 7]) rfl rfl rfl (by simp) fun tm hl hi => ?_
      replace hl : tm.length = 42 := hl
      have i0 := hi 0
      have i1 := hi 1
      have i2 := hi 2
      simp only [List.getD_cons_zero, List.getD_cons_succ] at i0 i1 i2
      simp (config := { decide := true }) only [theCode_seq, theCode_list, theCode_skip, theCode_ret, theCode_if, evalList_plain, evalList_nil, nd_move, nd_assign, nd_alloc, nd_box, nd_load, nd_store, nd_nilCheck, nd_binOp, nd_makeFunc, nd_fieldAddr, nd_extract, nd_call, ok_tmp, ok_const, ok_func, cl_int, cl_ptr, opA_move, opA_assign, opA_load, opA_store, opA_nilCheck, opA_fieldAddr, opA_extract, opA_bin, opA_call, opA_box, opA_alloc, opA_makeFunc0, contA_val, contA_skip, contA_enter, callA_ret, putT_some, putT_none, aev_tmp, aev_const, aev_func, rd_same, rd_ne, List.length_set, valA_some, skipA_some, thenA_normal, boolOf_bool, loadS_ptr, storeS_ptr, nilCheckS_ptr, fieldAddrS_eq, extractS_tuple, bin_ptr_eql, callS_func, List.getElem?_toArray, List.getElem?_cons_zero, List.getElem?_cons_succ, Option.map_some, Option.isSome_some, ne_eq, ↓reduceIte, Nat.reduceLT, Nat.zero_add, Option.some.injEq, List.map_cons, List.map_nil, List.all_cons, List.all_nil, Bool.and_true, List.nil_append, List.append_nil, hl, i0, i1, vc_string, fl_string, info9, e1, isp23, off55_1, off55_3, en28, hcall, zf62, vc_agg, hst, agg3, loadV_flat, cell_eq, hg.box, cellO_box]
      rw [theCode_text (by kernel_rfl)]
      simp (config := { decide := true }) only [evalList_plain, evalList_nil, nd_move, nd_build, nd_load, nd_store, nd_nilCheck, nd_binOp, nd_fieldAddr, nd_call, ok_tmp, ok_const, ok_func, cl_int, opA_move, opA_load, opA_store, opA_nilCheck, opA_fieldAddr, opA_bin, opA_call, opA_build, contA_val, contA_skip, contA_enter, callA_ret, putT_some, putT_none, aev_tmp, aev_const, aev_func, rd_same, rd_ne, List.length_set, valA_some, skipA_some, thenA_normal, loadS_ptr, storeS_ptr, nilCheckS_ptr, fieldAddrS_eq, bin_add, callS_func, leaveR_ret, resA_tmp, resA_nil, List.getElem?_cons_zero, List.getElem?_cons_succ, pack_two, Option.map_some, Option.isSome_some, ne_eq, Nat.reduceLT, Nat.reduceAdd, Nat.zero_add, List.map_cons, List.map_nil, List.all_cons, List.all_nil, Bool.and_true, List.nil_append, List.append_nil, dropP_normal,
        hl, i0, i2, off55_1, off55_3, agg9, agg3, loadV_flat, cell_eq, xg, p2.box, cellO_box, zf62, Option.isSome_some, hb62, en33, p1, hw, info3, cells3, storeV_flat, setCell_eq, setCellO_box, vc_int, fl_int, Option.getD_none, List.set_cons_zero, List.set_cons_succ, List.length_cons, List.length_nil]
    · rw [get_set_ne (fun e => hj (.inl e)), p3 j (Nat.lt_of_lt_of_le hlt g0g.next) (fun e => hj (.inl e)) (fun e => hj (.inr (.inr (.inl e))))]
      exact g0g.get j hlt
    · rcases hj with rfl | hj | hj | hj | hj
      · exact .inl (.inl rfl)
      · exact .inl (.inr (.inl hj))
      · exact (p6 j hj).elim (fun e => .inl (.inr (.inr (.inl e)))) (fun e => .inr (Nat.le_trans g0g.next e))
      · exact .inl (.inr (.inr (.inr (.inl hj))))
      · exact .inl (.inr (.inr (.inr (.inr hj))))

end Go.Proofs.Ytnjoaffnfjlcaaa

namespace Go.Proofs.Ytnjoaffnfjlcaaa
open Go Go.Proofs B


def declV (σ : Sc) (nm : ByteArray) : Value := .tuple #[.int .i64 (if σ.declErr nm = 0 then (σ.types.length : Int) else 0), .int .i64 (σ.declErr nm : Nat)]

theorem declare20 {ext : CallT} (hx : ∀ f args H, f ≠ 22 → ext f args H = none) {H : AHeap} (hf : H.Fresh) {b : Nat} {σ : Sc} {F : Nat → Prop} (h : ScopeAt H b σ F) (hb1 : 0 < σ.blocks.length) (hn : σ.blocks.length < 1000000) (hn2 : σ.types.length < 1000000) (nm : ByteArray) (ty : Int) :
    ∃ H' F', theCall Try.prog ext 20 [.pointer (some ⟨b, 0, none⟩), .string nm, .int .i64 ty] H = some (.ret (declV σ nm), H') ∧ ScopeAt H' b (σ.decl nm ty) F' ∧ Upd H F H' F' := by
  obtain ⟨bl, tl, ts, rs, h, rfl⟩ := h
  obtain ⟨m, hm⟩ : ∃ m, σ.blocks.length = m + 1 := ⟨σ.blocks.length - 1, by omega⟩
  have htop : σ.top = σ.blocks.getD m [] := by unfold Sc.top; rw [hm]; rfl
  obtain ⟨r, hr1, hr2⟩ := h.maps m (by omega)
  rw [← htop] at hr2
  have hrm := List.mem_of_getElem? hr1
  have hrr : rs.getD m 0 = r := by rw [List.getD_eq_getElem?_getD, hr1]; rfl
  have c3 := fun H2 => h.ob.lenS isl48 H2
  have c4 := fun H2 => h.oy.lenS isl32 H2
  have hw : IntKind.i64.wrap ((σ.blocks.length : Int) - 1) = (m : Int) := by rw [hm, IntWalk.i64_in _ (by omega)]; omega
  have hix := fun H2 => indexAddrS_own (j := m) (k := .i64) h.ob (by omega) (by omega) es48 H2
  simp only [Int.toNat_natCast] at hix
  have hld := h.valB (i := m) (by omega)
  rw [loadV_flat agg56, hrr] at hld
  have hlk := lookS_str2 (P := Try.prog) (t := 56) (k := nm) (und_of Try.underlying56) us9 zero3 hr2
  rw [lookB_entV] at hlk
  cases hlook : lookN σ.top nm with
  | some k =>
    rw [hlook] at hlk
    have hE : σ.declErr nm = 70 := by unfold Sc.declErr; rw [hlook]; rfl
    have hV : declV σ nm = .tuple #[.int .i64 0, .int .i64 70] := by unfold declV; rw [hE]; rfl
    have hD : σ.decl nm ty = σ := by unfold Sc.decl; rw [hE]; rfl
    rw [hV, hD]
    refine ⟨H, _, ?_, ⟨_, _, _, _, h, rfl⟩, Upd.refl hf⟩
    refine theCall_run (hx _ _ _ (by decide)) Try.func20 (rs := [.tmp 6, .tmp 7]) rfl rfl rfl (by simp) fun tm hl hi => ?_
    replace hl : tm.length = 56 := hl
    have i0 := hi 0
    have i1 := hi 1
    have i2 := hi 2
    simp only [List.getD_cons_zero, List.getD_cons_succ] at i0 i1 i2
    simp (config := { decide := true }) only [theCode_seq, theCode_list, theCode_skip, theCode_ret, theCode_if, evalList_plain, evalList_nil, nd_move, nd_assign, nd_nilCheck, nd_binOp, nd_lookup, nd_mapUpdate, ok_tmp, ok_const, cl_int, cl_ptr, opA_move, opA_assign, opA_nilCheck, opA_bin, opA_lookup, opA_mapUpdate, contA_val, putT_some, aev_tmp, aev_const, rd_same, rd_ne, List.length_set, thenA_normal, boolOf_bool, bin_ptr_eql, Option.isSome_some, ne_eq, ↓reduceIte, Nat.reduceLT, Option.some.injEq, hl, i0, isp23]
    rw [theCode_text (by kernel_rfl)]
    simp (config := { decide := true }) only [theCode_seq, theCode_list, theCode_ret, theCode_if, evalList_plain, evalList_nil, nd_move, nd_assign, nd_load, nd_nilCheck, nd_binOp, nd_fieldAddr, nd_indexAddr, nd_extract, nd_call, ok_tmp, ok_const, cl_int, opA_move, opA_assign, opA_load, opA_nilCheck, opA_fieldAddr, opA_extract, opA_bin, opA_len, opA_indexAddr, contA_val, putT_some, aev_tmp, aev_const, rd_same, rd_ne, List.length_set, valA_some, thenA_normal, thenA_ret, boolOf_bool, loadS_ptr, nilCheckS_ptr, fieldAddrS_eq, extractS_tuple, bin_sub, leaveR_ret, resA_tmp, resA_nil, List.getElem?_toArray, List.getElem?_cons_zero, List.getElem?_cons_succ, pack_two, Option.map_some, Option.isSome_some, ne_eq, ↓reduceIte, Nat.reduceLT, Nat.zero_add, dropP_normal,
        hl, i0, i1, off55_0, off55_2, off50_0, agg48, agg32, loadV_flat, cell_eq, h.box, cellO_box, c3, hw, hix, sli48, hld, c4, hlk, Option.map_some, Option.isSome_some, ]
  | none =>
    rw [hlook] at hlk
    by_cases h256 : σ.types.length = 256
    · have hE : σ.declErr nm = 73 := by unfold Sc.declErr; rw [hlook, h256]; rfl
      have hV : declV σ nm = .tuple #[.int .i64 0, .int .i64 73] := by unfold declV; rw [hE]; rfl
      have hD : σ.decl nm ty = σ := by unfold Sc.decl; rw [hE]; rfl
      rw [hV, hD]
      refine ⟨H, _, ?_, ⟨_, _, _, _, h, rfl⟩, Upd.refl hf⟩
      rw [h256] at c4
      refine theCall_run (hx _ _ _ (by decide)) Try.func20 (rs := [.tmp 6, .tmp 7]) rfl rfl rfl (by simp) fun tm hl hi => ?_
      replace hl : tm.length = 56 := hl
      have i0 := hi 0
      have i1 := hi 1
      have i2 := hi 2
      simp only [List.getD_cons_zero, List.getD_cons_succ] at i0 i1 i2
      simp (config := { decide := true }) only [theCode_seq, theCode_list, theCode_skip, theCode_ret, theCode_if, evalList_plain, evalList_nil, nd_move, nd_assign, nd_nilCheck, nd_binOp, nd_lookup, nd_mapUpdate, ok_tmp, ok_const, cl_int, cl_ptr, opA_move, opA_assign, opA_nilCheck, opA_bin, opA_lookup, opA_mapUpdate, contA_val, putT_some, aev_tmp, aev_const, rd_same, rd_ne, List.length_set, thenA_normal, boolOf_bool, bin_ptr_eql, Option.isSome_some, ne_eq, ↓reduceIte, Nat.reduceLT, Option.some.injEq, hl, i0, isp23]
      rw [theCode_text (by kernel_rfl)]
      simp (config := { decide := true }) only [theCode_seq, theCode_list, theCode_skip, theCode_ret, theCode_if, evalList_plain, evalList_nil, nd_move, nd_assign, nd_load, nd_nilCheck, nd_binOp, nd_fieldAddr, nd_indexAddr, nd_extract, nd_call, ok_tmp, ok_const, cl_int, opA_move, opA_assign, opA_load, opA_nilCheck, opA_fieldAddr, opA_extract, opA_bin, opA_len, opA_indexAddr, contA_val, putT_some, aev_tmp, aev_const, rd_same, rd_ne, List.length_set, valA_some, thenA_normal, thenA_ret, boolOf_bool, loadS_ptr, nilCheckS_ptr, fieldAddrS_eq, extractS_tuple, bin_eql, bin_sub, leaveR_ret, resA_tmp, resA_nil, List.getElem?_toArray, List.getElem?_cons_zero, List.getElem?_cons_succ, pack_two, Option.map_some, Option.isSome_some, ne_eq, ↓reduceIte, Nat.reduceLT, Nat.zero_add, Option.some.injEq, dropP_normal,
          hl, i0, i1, off55_0, off55_2, off50_0, agg48, agg32, loadV_flat, cell_eq, h.box, cellO_box, c3, hw, hix, sli48, hld, c4, hlk, Option.map_some, Option.map_none, Option.isSome_some, Option.isSome_none, ]
    · have hE : σ.declErr nm = 0 := by unfold Sc.declErr; rw [hlook, if_neg (by simp), if_neg h256]
      have hV : declV σ nm = .tuple #[.int .i64 σ.types.length, .int .i64 0] := by unfold declV; rw [hE]; rfl
      have hD : σ.decl nm ty = { σ with blocks := σ.blocks.take m ++ [σ.top ++ [(nm, σ.types.length)]], types := σ.types ++ [ty] } := by
        unfold Sc.decl; rw [if_pos hE, hm]; rfl
      rw [hV, hD]
      have hput := mapPut_str (P := Try.prog) (t := 56) (k := nm) (v := .int .i64 σ.types.length) (und_of Try.underlying56) us9 hr2 (by rw [lookB_entV, hlook]; rfl)
      have hent : entV σ.top ++ [(nm, Value.int .i64 σ.types.length)] = entV (σ.top ++ [(nm, σ.types.length)]) := by simp [entV]
      rw [hent] at hput
      obtain ⟨Ha, ea⟩ : ∃ X, H.set r (.map (strE (entV (σ.top ++ [(nm, σ.types.length)])))) = X := ⟨_, rfl⟩
      rw [ea] at hput
      have hfa : ∀ j, j ≠ r → Ha.get j = H.get j := fun j hj => by rw [← ea]; exact get_set_ne hj
      have hra : Ha.get r = some (.map (strE (entV (σ.top ++ [(nm, σ.types.length)])))) := by rw [← ea]; exact get_set_same
      have hfra : Ha.Fresh := by rw [← ea]; exact (AHeap.le_set hr2).fresh hf
      have hna : Ha.next = H.next := by rw [← ea]; rfl
      have hrb : r ≠ b := fun e => by subst e; have := h.kb; have := h.kr hrm; omega
      have hSa : SAt Ha b { σ with blocks := σ.blocks.take m ++ [σ.top ++ [(nm, σ.types.length)]] } bl tl ts rs := by
        have hlen : (σ.blocks.take m ++ [σ.top ++ [(nm, σ.types.length)]]).length = σ.blocks.length := by simp [hm]
        refine h.repB hf (fun j hj hjb hji hjk => hfa j (by rintro rfl; exact hjk (h.kr hrm))) (by rw [hfa b (Ne.symm hrb)]; exact h.box) ?_ ?_ h.nd
        · rw [hlen]
          exact h.ob.mono fun i hi => hfa i (by rintro rfl; have := h.ob.kind hi; have := h.kr hrm; omega)
        · intro i hi
          rw [hlen, hm] at hi
          rcases Nat.lt_or_ge i m with hlt | hge
          · obtain ⟨r', g1, g2⟩ := h.maps i (by omega)
            have hne : r' ≠ r := by
              rintro rfl
              have hi1 : i < rs.length := (List.getElem?_eq_some_iff.1 g1).1
              have hm1 : m < rs.length := (List.getElem?_eq_some_iff.1 hr1).1
              have e1 := (List.getElem?_eq_some_iff.1 g1).2
              have e2 := (List.getElem?_eq_some_iff.1 hr1).2
              have := (List.getElem_inj h.nd).1 (e1.trans e2.symm)
              omega
            refine ⟨r', g1, ?_⟩
            rw [hfa r' hne, g2, List.getD_eq_getElem?_getD, List.getD_eq_getElem?_getD, List.getElem?_append_left (by simp; omega), List.getElem?_take_of_lt hlt]
          · obtain rfl : i = m := by omega
            refine ⟨r, hr1, ?_⟩
            rw [hra, List.getD_eq_getElem?_getD, List.getElem?_append_right (by simp; omega)]
            simp [hm]
      obtain ⟨ts', Hb, b1, b2, hu⟩ := hSa.oy.append1U (xs := [.int .i64 ty]) (i := Try.t3) (z := .int .i64 0) hfra rfl (by decide) rfl rfl rfl rfl (by show σ.types.length + 1 ≤ _; omega) (by show (σ.types.length + 1) * 8 ≤ 140737488355328; omega)
      simp only [List.length_cons, List.length_nil, Nat.zero_add] at b1
      have hba : b < Ha.next := get_lt hfra hSa.box
      have hnb : idOf ts ≠ some b := hSa.oy.id_ne hSa.box
      have hbb : Hb.get b = some (.box [bl, tl, ts, .int .i64 σ.next] 55) := by rw [hu.frame b hnb hba]; exact hSa.box
      have hnb' : idOf ts' ≠ some b := b2.id_ne hbb
      have d1 := b2.vcells
      have d2 := b2.flat
      have hfr : ∀ j, j < Ha.next → j ≠ b → idOf ts ≠ some j → (Hb.set b (.box [bl, tl, ts', .int .i64 σ.next] 55)).get j = Ha.get j := fun j hj hjb hji => by
        rw [get_set_ne hjb]; exact hu.frame j hji hj
      have hSb : SAt (Hb.set b (.box [bl, tl, ts', .int .i64 σ.next] 55)) b { σ with blocks := σ.blocks.take m ++ [σ.top ++ [(nm, σ.types.length)]], types := σ.types ++ [ty] } bl tl ts' rs := by
        refine hSa.repY hfra hfr get_set_same ?_
        have := b2.mono (H2 := Hb.set b (.box [bl, tl, ts', .int .i64 σ.next] 55)) fun i hi => get_set_ne (by rintro rfl; exact hnb' hi)
        simpa [tyC] using this
      have hle : ¬ ((σ.types.length : Int) = 256) := by omega
      refine ⟨Hb.set b (.box [bl, tl, ts', .int .i64 σ.next] 55), _, ?_, ⟨_, _, _, _, hSb, rfl⟩, fun j hj hlt => ?_, fun j hj => ?_, (AHeap.le_set hbb).fresh hu.fresh, Nat.le_trans (Nat.le_of_eq hna.symm) hu.next⟩
      · refine theCall_run (hx _ _ _ (by decide)) Try.func20 (rs := [.tmp 6, .tmp 7]) rfl rfl rfl (by simp) fun tm hl hi => ?_
        replace hl : tm.length = 56 := hl
        have i0 := hi 0
        have i1 := hi 1
        have i2 := hi 2
        simp only [List.getD_cons_zero, List.getD_cons_succ] at i0 i1 i2
        simp (config := { decide := true }) only [theCode_seq, theCode_list, theCode_skip, theCode_ret, theCode_if, evalList_plain, evalList_nil, nd_move, nd_assign, nd_nilCheck, nd_binOp, nd_lookup, nd_mapUpdate, ok_tmp, ok_const, cl_int, cl_ptr, opA_move, opA_assign, opA_nilCheck, opA_bin, opA_lookup, opA_mapUpdate, contA_val, putT_some, aev_tmp, aev_const, rd_same, rd_ne, List.length_set, thenA_normal, boolOf_bool, bin_ptr_eql, Option.isSome_some, ne_eq, ↓reduceIte, Nat.reduceLT, Option.some.injEq, hl, i0, isp23]
        rw [theCode_text (by kernel_rfl)]
        simp (config := { decide := true }) only [theCode_skip, theCode_if, evalList_plain, evalList_nil, nd_move, nd_assign, nd_buildSlice, nd_load, nd_store, nd_nilCheck, nd_binOp, nd_fieldAddr, nd_indexAddr, nd_extract, nd_call, ok_tmp, ok_const, cl_int, opA_move, opA_assign, opA_load, opA_store, opA_nilCheck, opA_fieldAddr, opA_extract, opA_bin, opA_len, opA_appendS, opA_indexAddr, contA_val, contA_skip, putT_some, putT_none, aev_tmp, aev_const, rd_same, rd_ne, List.length_set, valA_some, skipA_some, pairA_some,
        thenA_normal, boolOf_bool, loadS_ptr, storeS_ptr, nilCheckS_ptr, fieldAddrS_eq, extractS_tuple, bin_eql, bin_sub, leaveR_ret, resA_tmp, resA_nil, List.getElem?_toArray, List.getElem?_cons_zero, List.getElem?_cons_succ, pack_two, Option.map_some, Option.isSome_some, ne_eq, ↓reduceIte, Nat.reduceLT, Nat.reduceAdd, Nat.zero_add, Option.some.injEq, List.all_cons, List.all_nil, Bool.and_true, dropP_normal,
            hl, i0, i1, i2, off55_0, off55_2, off50_0, agg48, agg32, loadV_flat, cell_eq, h.box, cellO_box, c3, hw, hix, sli48, hld, c4, hlk, Option.map_some, Option.map_none, Option.isSome_some, Option.isSome_none, hle, hput, hSa.box, hbb, opA_build1F, b1_32, es32, vc_int, fl_int, appendS_of sli32, build1S_of sli32, b1, sli32, d1, d2, info32, cells32, storeV_flat, setCell_eq, setCellO_box, Option.getD_none, List.set_cons_zero, List.set_cons_succ, List.size_toArray, List.length_cons, List.length_nil]
      · rw [hfr j (by omega) (fun e => hj (.inl e)) (fun e => hj (.inr (.inr (.inr (.inl e)))))]
        exact hfa j (fun e => hj (.inr (.inr (.inr (.inr (e ▸ hrm))))))
      · rcases hj with rfl | hj | hj | hj | hj
        · exact .inl (.inl rfl)
        · exact .inl (.inr (.inl hj))
        · exact .inl (.inr (.inr (.inl hj)))
        · exact (hu.foot j hj).elim (fun e => .inl (.inr (.inr (.inr (.inl e))))) (fun e => .inr (by omega))
        · exact .inl (.inr (.inr (.inr (.inr hj))))

end Go.Proofs.Ytnjoaffnfjlcaaa

namespace Go.Proofs.Ytnjoaffnfjlcaaa
open Go Go.Proofs B


theorem clone30 {ext : CallT} (hx : ∀ f args H, f ≠ 22 → ext f args H = none) {H : AHeap} (hf : H.Fresh) {v : Value} {n : Nat} {cells : List Value} (ho : Own H 3 1 v n cells) (hfl : cells.all flatV = true) (hn : n < 1000000) :
    ∃ v' H', theCall Try.prog ext 30 [v] H = some (.ret v', H') ∧ Own H' 3 1 v' n cells ∧ Grown H H' ∧ (∀ j, idOf v' = some j → H.next ≤ j) := by
  cases ho with
  | nil =>
    refine ⟨_, H, ?_, .nil, Grown.refl hf, fun j hj => by simp [idOf] at hj⟩
    refine theCall_run (hx _ _ _ (by decide)) Try.func30 (rs := [.tmp 2]) rfl rfl rfl (by simp) fun tm hl hi => ?_
    replace hl : tm.length = 8 := hl
    have i0 := hi 0
    simp only [List.getD_cons_zero] at i0
    simp (config := { decide := true }) only [theCode_seq, theCode_list, theCode_ret, theCode_if, evalList_plain, evalList_nil, nd_move, nd_assign, nd_buildSlice, nd_binOp, ok_tmp, ok_const, cl_slice, opA_move, opA_assign, opA_bin, contA_val, putT_some, aev_tmp, aev_const, rd_same, rd_ne, List.length_set, thenA_normal, thenA_ret, boolOf_bool, leaveR_ret, resA_tmp, resA_nil, pack_one, Option.map_some, Option.isSome_some, ne_eq, ↓reduceIte, Nat.reduceLT, hl, i0, isl32, bin_snil_eql]
  | @row i g n c cs st hg h2 h3 h4 h5 =>
    have ho := Own.row (H := H) (e := 3) (sz := 1) (i := i) (g := g) (n := n) (c := c) (cs := cs) (st := st) hg h2 h3 h4 h5
    obtain ⟨H1, e1⟩ : ∃ X, H.push (.arr [] [] 0 3 false) = X := ⟨_, rfl⟩
    have g1 : Grown H H1 := by rw [← e1]; exact Grown.push hf _
    have he : Own H1 3 1 (.slice (some ⟨H.next, 0, some 0⟩) 0 0) 0 [] := by rw [← e1]; exact Own.empty
    have ho1 := g1.own hf ho
    obtain ⟨v', H', a1, a2, hu⟩ := he.appendN (i := Try.t3) (z := .int .i64 0) g1.fresh rfl (by decide) rfl rfl ho1.elems (by have := ho1.length; omega) hfl (by omega) (by show (0 + n) * 8 ≤ 140737488355328; omega)
    rw [Nat.zero_add, List.nil_append] at a2
    have b0 := fun ρ ty => opA_build00 (P := Try.prog) (H := H) (t := 32) (ρ := ρ) (ty := ty) sli32 (z := .int .i64 0) rfl
    have hnf : ∀ j, sliceFoot (.slice (some ⟨H.next, 0, some 0⟩) 0 0) j → j = H.next := fun j hj => by
      simp only [sliceFoot, idOf, Option.some.injEq] at hj; exact hj.symm
    refine ⟨v', H', ?_, a2, ⟨fun j hj => (hu.frame j (fun e => by have := hnf j e; omega) (Nat.lt_of_lt_of_le hj g1.next)).trans (g1.get j hj), Nat.le_trans g1.next hu.next, hu.fresh⟩, fun j hj => ?_⟩
    rotate_left
    · rcases hu.foot j hj with e | e
      · exact Nat.le_of_eq (hnf j e).symm
      · exact Nat.le_trans g1.next e
    refine theCall_run (hx _ _ _ (by decide)) Try.func30 (rs := [.tmp 2]) rfl rfl rfl (by simp) fun tm hl hi => ?_
    replace hl : tm.length = 8 := hl
    have i0 := hi 0
    simp only [List.getD_cons_zero] at i0
    simp (config := { decide := true }) only [theCode_seq, theCode_list, theCode_skip, theCode_ret, theCode_if, evalList_plain, evalList_nil, nd_move, nd_assign, nd_buildSlice, nd_binOp, nd_call, ok_tmp, ok_const, cl_slice, opA_move, opA_assign, opA_bin, opA_appendS, contA_val, putT_some, aev_tmp, aev_const, rd_same, rd_ne, List.length_set, pairA_some,
    thenA_normal, boolOf_bool, leaveR_ret, resA_tmp, resA_nil, pack_one, Option.map_some, Option.isSome_some, ne_eq, ↓reduceIte, Nat.reduceLT, Option.some.injEq, hl, i0, isl32, bin_slice_eql, b0, e1, sli32, appendS_of sli32, a1]


theorem slots12 {ext : CallT} (hx : ∀ f args H, f ≠ 22 → ext f args H = none) {H : AHeap} (hf : H.Fresh) {b : Nat} {σ : Sc} {F : Nat → Prop} (h : ScopeAt H b σ F) (hn : σ.types.length < 1000000) :
    ∃ v H', theCall Try.prog ext 12 [.pointer (some ⟨b, 0, none⟩)] H = some (.ret v, H') ∧ Own H' 3 1 v σ.types.length (σ.types.map tyC) ∧ Grown H H' ∧ (∀ j, idOf v = some j → H.next ≤ j) := by
  obtain ⟨bl, tl, ts, rs, h, rfl⟩ := h
  obtain ⟨v, H', h1, h2, h3, h4⟩ := clone30 (ext := ext) hx hf h.oy (by rw [List.all_map, List.all_eq_true]; intro t _; simp [tyC, fl_int]) hn
  refine ⟨v, H', ?_, h2, h3, h4⟩
  refine theCall_run (hx _ _ _ (by decide)) Try.func12 (rs := [.tmp 2]) rfl rfl rfl (by simp) fun tm hl hi => ?_
  replace hl : tm.length = 10 := hl
  have i0 := hi 0
  simp only [List.getD_cons_zero] at i0
  simp (config := { decide := true }) only [theCode_seq, theCode_list, theCode_skip, theCode_ret, theCode_if, evalList_plain, evalList_nil, nd_move, nd_assign, nd_load, nd_nilCheck, nd_binOp, nd_fieldAddr, nd_call, ok_tmp, ok_const, ok_func, cl_ptr, cl_slice, opA_move, opA_assign, opA_load, opA_nilCheck, opA_fieldAddr, opA_bin, opA_call, contA_val, contA_enter, callA_ret, putT_some, aev_tmp, aev_const, aev_func, rd_same, rd_ne, List.length_set, valA_some, thenA_normal, boolOf_bool, loadS_ptr, nilCheckS_ptr, fieldAddrS_eq, bin_ptr_eql, callS_func, leaveR_ret, resA_tmp, resA_nil, List.getElem?_cons_zero, List.getElem?_cons_succ, pack_one, Option.map_some, Option.isSome_some, ne_eq, ↓reduceIte, Nat.reduceLT, Nat.zero_add, Option.some.injEq, List.map_cons, List.map_nil, List.all_cons, List.all_nil, Bool.and_true, List.nil_append, List.append_nil, hl, i0, isp23, off55_2, agg32, loadV_flat, cell_eq, h.box, cellO_box, en30, h1]


theorem nil20 {ext : CallT} (hx : ∀ f args H, f ≠ 22 → ext f args H = none) {H : AHeap} {nm : ByteArray} {ty : Int} : theCall Try.prog ext 20 [.pointer none, .string nm, .int .i64 ty] H = some (.ret (.tuple #[.int .i64 0, .int .i64 1]), H) := by
  refine theCall_run (hx _ _ _ (by decide)) Try.func20 (rs := [.tmp 6, .tmp 7]) rfl rfl rfl (by simp) fun tm hl hi => ?_
  replace hl : tm.length = 56 := hl
  have i0 := hi 0
  have i1 := hi 1
  have i2 := hi 2
  simp only [List.getD_cons_zero, List.getD_cons_succ] at i0 i1 i2
  simp (config := { decide := true }) only [theCode_seq, theCode_list, theCode_ret, theCode_if, evalList_plain, evalList_nil, nd_move, nd_assign, nd_nilCheck, nd_binOp, nd_lookup, nd_mapUpdate, ok_tmp, ok_const, cl_int, cl_ptr, opA_move, opA_assign, opA_nilCheck, opA_bin, opA_lookup, opA_mapUpdate, contA_val, putT_some, aev_tmp, aev_const, rd_same, rd_ne, List.length_set, thenA_normal, thenA_ret, boolOf_bool, bin_nil_eql, leaveR_ret, resA_tmp, resA_nil, pack_two, Option.map_some, Option.isSome_some, ne_eq, ↓reduceIte, Nat.reduceLT, hl, i0, isp23]


theorem nil14 {ext : CallT} (hx : ∀ f args H, f ≠ 22 → ext f args H = none) {H : AHeap} {nm : ByteArray} {tn : Bool} : theCall Try.prog ext 14 [.pointer none, .string nm, .bool tn] H = some (.ret (.tuple #[.int .i64 0, .int .i64 1]), (H.push (.box [.string nm] 9))) := by
  refine theCall_run (hx _ _ _ (by decide)) Try.func14 (rs := [.tmp 6, .tmp 7]) rfl rfl rfl (by simp) fun tm hl hi => ?_
  replace hl : tm.length = 42 := hl
  have i0 := hi 0
  have i1 := hi 1
  have i2 := hi 2
  simp only [List.getD_cons_zero, List.getD_cons_succ] at i0 i1 i2
  simp (config := { decide := true }) only [theCode_seq, theCode_list, theCode_ret, theCode_if, evalList_plain, evalList_nil, nd_move, nd_assign, nd_box, nd_nilCheck, nd_binOp, ok_tmp, ok_const, cl_int, cl_ptr, opA_move, opA_assign, opA_nilCheck, opA_bin, opA_box, contA_val, putT_some, aev_tmp, aev_const, rd_same, rd_ne, List.length_set, thenA_normal, thenA_ret, boolOf_bool, bin_nil_eql, leaveR_ret, resA_tmp, resA_nil, pack_two, Option.map_some, Option.isSome_some, ne_eq, ↓reduceIte, Nat.reduceLT, List.all_cons, List.all_nil, Bool.and_true, hl, i0, i1, isp23, vc_string, fl_string, info9]


theorem nil11 {ext : CallT} (hx : ∀ f args H, f ≠ 22 → ext f args H = none) {H : AHeap} {nm : ByteArray} {tn : Bool} : theCall Try.prog ext 11 [.pointer none, .string nm, .bool tn] H = some (.ret (.tuple #[.int .i64 0, .int .i64 1]), ((H.push (.box [.string nm] 9)).push (.box [.bool tn] 4))) := by
  refine theCall_run (hx _ _ _ (by decide)) Try.func11 (rs := [.tmp 6, .tmp 7]) rfl rfl rfl (by simp) fun tm hl hi => ?_
  replace hl : tm.length = 24 := hl
  have i0 := hi 0
  have i1 := hi 1
  have i2 := hi 2
  simp only [List.getD_cons_zero, List.getD_cons_succ] at i0 i1 i2
  simp (config := { decide := true }) only [theCode_seq, theCode_list, theCode_ret, theCode_if, evalList_plain, evalList_nil, nd_move, nd_assign, nd_box, nd_nilCheck, nd_binOp, nd_unOp, nd_fieldAddr, ok_tmp, ok_const, cl_int, cl_ptr, opA_move, opA_assign, opA_nilCheck, opA_fieldAddr, opA_bin, opA_un, opA_box, contA_val, putT_some, aev_tmp, aev_const, rd_same, rd_ne, List.length_set, thenA_normal, thenA_ret, boolOf_bool, bin_nil_eql, leaveR_ret, resA_tmp, resA_nil, pack_two, Option.map_some, Option.isSome_some, ne_eq, ↓reduceIte, Nat.reduceLT, List.all_cons, List.all_nil, Bool.and_true, hl, i0, i1, i2, isp23, vc_string, fl_string, vc_bool, fl_bool, info9, info4]


theorem nil10 {ext : CallT} (hx : ∀ f args H, f ≠ 22 → ext f args H = none) {H : AHeap} {nm : ByteArray} : theCall Try.prog ext 10 [.pointer none, .string nm] H = some (.ret (.tuple #[.int .i64 0, .int .i64 0, .bool false]), (H.push (.box [.string nm] 9))) := by
  refine theCall_run (hx _ _ _ (by decide)) Try.func10 (rs := [.tmp 4, .tmp 5, .tmp 6]) rfl rfl rfl (by simp) fun tm hl hi => ?_
  replace hl : tm.length = 33 := hl
  have i0 := hi 0
  have i1 := hi 1
  simp only [List.getD_cons_zero, List.getD_cons_succ] at i0 i1
  simp (config := { decide := true }) only [theCode_seq, theCode_list, theCode_ret, theCode_if, evalList_plain, evalList_nil, nd_move, nd_assign, nd_box, nd_nilCheck, nd_binOp, nd_unOp, ok_tmp, ok_const, cl_int, cl_bool, cl_ptr, opA_move, opA_assign, opA_nilCheck, opA_bin, opA_un, opA_box, contA_val, putT_some, aev_tmp, aev_const, rd_same, rd_ne, List.length_set, thenA_normal, thenA_ret, boolOf_bool, bin_nil_eql, leaveR_ret, resA_tmp, resA_nil, pack_two, Option.map_some, Option.isSome_some, ne_eq, ↓reduceIte, Nat.reduceLT, List.all_cons, List.all_nil, Bool.and_true, hl, i0, i1, isp23, vc_string, fl_string, info9]


theorem nil13 {ext : CallT} (hx : ∀ f args H, f ≠ 22 → ext f args H = none) {H : AHeap}  : theCall Try.prog ext 13 [.pointer none] H = some (.ret (.int .i64 0), H) := by
  refine theCall_run (hx _ _ _ (by decide)) Try.func13 (rs := [.tmp 2]) rfl rfl rfl (by simp) fun tm hl hi => ?_
  replace hl : tm.length = 10 := hl
  have i0 := hi 0
  simp only [List.getD_cons_zero] at i0
  simp (config := { decide := true }) only [theCode_seq, theCode_list, theCode_ret, theCode_if, evalList_plain, evalList_nil, nd_move, nd_assign, nd_nilCheck, nd_binOp, ok_tmp, ok_const, cl_int, cl_ptr, opA_move, opA_assign, opA_nilCheck, opA_bin, contA_val, putT_some, aev_tmp, aev_const, rd_same, rd_ne, List.length_set, thenA_normal, thenA_ret, boolOf_bool, bin_nil_eql, leaveR_ret, resA_tmp, resA_nil, pack_one, Option.map_some, Option.isSome_some, ne_eq, ↓reduceIte, Nat.reduceLT, hl, i0, isp23]


theorem nil17 {ext : CallT} (hx : ∀ f args H, f ≠ 22 → ext f args H = none) {H : AHeap}  : theCall Try.prog ext 17 [.pointer none] H = some (.ret (.bool false), H) := by
  refine theCall_run (hx _ _ _ (by decide)) Try.func17 (rs := [.tmp 2]) rfl rfl rfl (by simp) fun tm hl hi => ?_
  replace hl : tm.length = 11 := hl
  have i0 := hi 0
  simp only [List.getD_cons_zero] at i0
  simp (config := { decide := true }) only [theCode_seq, theCode_list, theCode_ret, evalList_plain, evalList_guard, evalList_nil, nd_move, nd_assign, nd_pick, nd_nilCheck, nd_binOp, nd_fieldAddr, nd_call, ok_tmp, ok_const, cl_bool, cl_ptr, opA_move, opA_assign, opA_pick, opA_bin, contA_val, putT_some, aev_tmp, aev_const, rd_same, rd_ne, List.length_set, thenA_normal, boolOf_bool, bin_nil_neq, leaveR_ret, resA_tmp, resA_nil, yieldA_S, slotAt_succ, slotAt_zero, yieldS_some, pack_one, Option.map_some, Option.isSome_some, ne_eq, ↓reduceIte, Nat.reduceLT, Option.some.injEq, hl, i0, isp23]


theorem nil18 {ext : CallT} (hx : ∀ f args H, f ≠ 22 → ext f args H = none) {H : AHeap}  : theCall Try.prog ext 18 [.pointer none] H = some (.ret (.bool false), H) := by
  refine theCall_run (hx _ _ _ (by decide)) Try.func18 (rs := [.tmp 2]) rfl rfl rfl (by simp) fun tm hl hi => ?_
  replace hl : tm.length = 11 := hl
  have i0 := hi 0
  simp only [List.getD_cons_zero] at i0
  simp (config := { decide := true }) only [theCode_seq, theCode_list, theCode_ret, evalList_plain, evalList_guard, evalList_nil, nd_move, nd_assign, nd_pick, nd_nilCheck, nd_binOp, nd_fieldAddr, nd_call, ok_tmp, ok_const, cl_bool, cl_ptr, opA_move, opA_assign, opA_pick, opA_bin, contA_val, putT_some, aev_tmp, aev_const, rd_same, rd_ne, List.length_set, thenA_normal, boolOf_bool, bin_nil_neq, leaveR_ret, resA_tmp, resA_nil, yieldA_S, slotAt_succ, slotAt_zero, yieldS_some, pack_one, Option.map_some, Option.isSome_some, ne_eq, ↓reduceIte, Nat.reduceLT, Option.some.injEq, hl, i0, isp23]


theorem nil12 {ext : CallT} (hx : ∀ f args H, f ≠ 22 → ext f args H = none) {H : AHeap}  : theCall Try.prog ext 12 [.pointer none] H = some (.ret (.slice none 0 0), H) := by
  refine theCall_run (hx _ _ _ (by decide)) Try.func12 (rs := [.tmp 2]) rfl rfl rfl (by simp) fun tm hl hi => ?_
  replace hl : tm.length = 10 := hl
  have i0 := hi 0
  simp only [List.getD_cons_zero] at i0
  simp (config := { decide := true }) only [theCode_seq, theCode_list, theCode_ret, theCode_if, evalList_plain, evalList_nil, nd_move, nd_assign, nd_nilCheck, nd_binOp, ok_tmp, ok_const, cl_ptr, cl_slice, opA_move, opA_assign, opA_nilCheck, opA_bin, contA_val, putT_some, aev_tmp, aev_const, rd_same, rd_ne, List.length_set, thenA_normal, thenA_ret, boolOf_bool, bin_nil_eql, leaveR_ret, resA_tmp, resA_nil, pack_one, Option.map_some, Option.isSome_some, ne_eq, ↓reduceIte, Nat.reduceLT, hl, i0, isp23]


theorem nil22 {ext : CallT} {H : AHeap} (hx : ext 22 [.pointer none] H = none)   : theCall Try.prog ext 22 [.pointer none] H = some (.ret (.pointer none), H) := by
  refine theCall_run hx Try.func22 (rs := [.tmp 2]) rfl rfl rfl (by simp) fun tm hl hi => ?_
  replace hl : tm.length = 60 := hl
  have i0 := hi 0
  simp only [List.getD_cons_zero] at i0
  simp (config := { decide := true }) only [theCode_seq, theCode_list, theCode_ret, theCode_block, theCode_if, evalList_plain, evalList_nil, nd_move, nd_assign, nd_nilCheck, nd_binOp, ok_tmp, ok_const, cl_ptr, opA_move, opA_assign, opA_nilCheck, opA_bin, contA_val, putT_some, aev_tmp, aev_const, rd_same, rd_ne, List.length_set, thenA_normal, thenA_ret, boolOf_bool, bin_nil_eql, leaveR_ret, resA_tmp, resA_nil, pack_one, Option.map_some, Option.isSome_some, ne_eq, ↓reduceIte, Nat.reduceLT, hl, i0, isp23]

end Go.Proofs.Ytnjoaffnfjlcaaa

namespace Go.Proofs.Ytnjoaffnfjlcaaa
open Go Go.Proofs B


def nmA : ByteArray := ⟨#[97]⟩
def nmL : ByteArray := ⟨#[76]⟩
def w1 : Sc := sc0.decl nmA 7
def w2 : Sc := w1.open'
def w3 : Sc := w2.decl nmA 8
def w4 : Sc := w3.decl nmA 9
def w5 : Sc := w4.close
def w6 : Sc := w5.enter nmL true

theorem wv1 : declV sc0 ⟨#[97]⟩ = .tuple #[.int .i64 0, .int .i64 0] := rfl
theorem wv3 : declV w2 ⟨#[97]⟩ = .tuple #[.int .i64 1, .int .i64 0] := rfl
theorem wf3 : findV w3 ⟨#[97]⟩ = .tuple #[.int .i64 1, .int .i64 8, .bool true] := rfl
theorem wv4 : declV w3 ⟨#[97]⟩ = .tuple #[.int .i64 0, .int .i64 70] := rfl
theorem wf5 : findV w5 ⟨#[97]⟩ = .tuple #[.int .i64 0, .int .i64 7, .bool true] := rfl
theorem wv6 : entV2 w5 ⟨#[76]⟩ = .tuple #[.int .i64 0, .int .i64 0] := rfl
theorem wt6 : targV w6 ⟨#[]⟩ true = .tuple #[.int .i64 0, .int .i64 0] := rfl
theorem ok3 : w3.ok := by show ∀ m ∈ w3.blocks, ∀ p ∈ m, p.2 < w3.types.length; decide
theorem ok5 : w5.ok := by show ∀ m ∈ w5.blocks, ∀ p ∈ m, p.2 < w5.types.length; decide

set_option maxRecDepth 100000 in
set_option maxHeartbeats 4000000 in
theorem works15 {ext : CallT} (hx : ∀ f args H, f ≠ 22 → ext f args H = none) {H : AHeap} (hf : H.Fresh) : ∃ H', theCall Try.prog ext 15 [] H = some (.ret (.bool true), H') ∧ Grown H H' := by
  obtain ⟨H1, F1, a1, s1, g1, f1⟩ := new8 (ext := ext) hx hf
  obtain ⟨H2, F2, a2, s2, u2⟩ := declare20 (ext := ext) hx g1.fresh s1 (by decide) (by decide) (by decide) ⟨#[97]⟩ 7
  obtain ⟨H3, F3, a3, s3, u3⟩ := open13 (ext := ext) hx u2.fresh (σ := w1) s2 (by decide)
  obtain ⟨H4, F4, a4, s4, u4⟩ := declare20 (ext := ext) hx u3.fresh (σ := w2) s3 (by decide) (by decide) (by decide) ⟨#[97]⟩ 8
  obtain ⟨H5, a5, g5⟩ := find10 (ext := ext) hx u4.fresh (σ := w3) s4 ok3 (by decide) (by decide) ⟨#[97]⟩
  obtain ⟨H6, F6, a6, s6, u6⟩ := declare20 (ext := ext) hx g5.fresh (σ := w3) (s4.grown u4.fresh g5) (by decide) (by decide) (by decide) ⟨#[97]⟩ 9
  obtain ⟨H7, F7, a7, s7, u7⟩ := close17 (ext := ext) hx u6.fresh (σ := w4) s6 (by decide)
  obtain ⟨H8, a8, g8⟩ := find10 (ext := ext) hx u7.fresh (σ := w5) s7 ok5 (by decide) (by decide) ⟨#[97]⟩
  obtain ⟨H9, F9, a9, s9, u9⟩ := enter14 (ext := ext) hx g8.fresh (σ := w5) (s7.grown u7.fresh g8) (by decide) (by decide) ⟨#[76]⟩ true
  obtain ⟨Ha, aa, ga⟩ := target11 (ext := ext) hx u9.fresh (σ := w6) s9 (by decide) ⟨#[]⟩ true
  obtain ⟨Hb, Fb, ab, sb, ub⟩ := close17 (ext := ext) hx ga.fresh (σ := w6) (s9.grown u9.fresh ga) (by decide)
  rw [wv1] at a2
  rw [wv3] at a4
  rw [wf3] at a5
  rw [wv4] at a6
  rw [show decide (1 < w4.blocks.length) = true from rfl] at a7
  rw [wf5] at a8
  rw [wv6] at a9
  rw [wt6] at aa
  rw [show decide (1 < w6.blocks.length) = false from rfl] at ab
  have U := (((((((((((u2.trans u3).trans u4).trans (g5.upd _)).trans u6).trans u7).trans (g8.upd _)).trans u9).trans (ga.upd _)).trans ub)))
  refine ⟨Hb, ?_, ⟨fun j hj => ?_, Nat.le_trans g1.next U.next, U.fresh⟩⟩
  · refine theCall_lit [undef, undef, undef, undef, undef, undef, undef, undef, undef, undef, undef, undef, undef, undef, undef, undef, undef, undef, undef, undef, undef, undef, undef, undef, undef, undef, undef, undef, undef, undef, undef, undef, undef, undef, undef, undef, undef, undef, undef, undef, undef, undef, undef, undef, undef, undef, undef, undef, undef, undef, undef, undef, undef, undef, undef, undef, undef, undef, undef, undef, undef, undef, undef, undef, undef, undef, undef, undef, undef, undef, undef, undef, undef, undef, undef, undef, undef, undef, undef, undef, undef, undef, undef, undef, undef, undef, undef, undef, undef, undef, undef, undef, undef, undef, undef, undef, undef, undef, undef, undef, undef, undef, undef, undef, undef, undef, undef, undef, undef, undef, undef, undef, undef, undef, undef, undef, undef, undef, undef, undef, undef, undef, undef, undef, undef, undef, undef] (hx _ _ _ (by decide)) Try.func15 (rs := [.tmp 0]) rfl rfl rfl ?_
    dsimp only [List.cons_append, List.nil_append]
    simp only [theCode_seq, theCode_list, theCode_skip, theCode_ret, theCode_if, evalList_plain, evalList_guard, evalList_nil, nd_move, nd_assign, nd_pick, nd_binOp, nd_unOp, nd_extract, nd_call, ok_tmp, ok_const, ok_func, cl_int, cl_bool, cl_string, cl_ptr, opA_move, opA_assign, opA_pick, opA_extract, opA_bin, opA_un, opA_call, opA_call0, contA_val, contA_enter, callA_ret, putT_some, aev_tmp, aev_const, aev_func, List.set_cons_succ, List.set_cons_zero, List.getD_cons_succ, List.getD_cons_zero, valA_some, thenA_normal, boolOf_bool, extractS_tuple, un_not,
    bin_eql, bin_ptr_eql, callS_func, leaveR_ret, resA_tmp, resA_nil, yieldA_S, slotAt_succ, slotAt_zero, yieldS_cons, yieldS_head, List.getElem?_toArray, List.getElem?_cons_zero, List.getElem?_cons_succ, pack_one, Option.map_some, Option.isSome_some, ↓reduceIte, eq_self, decide_true, evalList_capp, evalList_napp, slotAt_capp, slotAt_napp,  Option.some.injEq, List.map_cons, List.map_nil, List.all_cons, List.all_nil, Bool.and_true, List.nil_append, List.append_nil, en8, en20, en13, en10, en17, en14, en11, isp23, a1, a2, a3, a4, a5, a6, a7, a8, a9, aa, ab, Bool.not_false, Bool.false_eq_true]
  · rw [U.frame j (fun e => by have := f1 j e; omega) (Nat.lt_of_lt_of_le hj g1.next)]
    exact g1.get j hj

end Go.Proofs.Ytnjoaffnfjlcaaa

namespace Go.Proofs.Ytnjoaffnfjlcaaa
open Go Go.Proofs B


theorem push31G {ext : CallT} (hx : ∀ f args H, f ≠ 22 → ext f args H = none) {H : AHeap} (hf : H.Fresh) {b : Nat} {σ : Sc} {bl tl ts : Value} {rs : List Nat} (h : SAt H b σ bl tl ts rs) (hn : σ.blocks.length < 1000000) {r : Nat} {m : Blk} (hr : H.get r = some (.map (strE (entV m)))) (hr2 : r ∉ rs) :
    ∃ bl' H', theCall Try.prog ext 31 [.pointer (some ⟨b, 0, none⟩), .map (some r)] H = some (.ret (.int .i64 (σ.blocks.length + 1)), H') ∧ SAt H' b { σ with blocks := σ.blocks ++ [m] } bl' tl ts (rs ++ [r]) ∧ (∀ j, j < H.next → j ≠ b → idOf bl ≠ some j → H'.get j = H.get j) ∧ H.next ≤ H'.next ∧ H'.Fresh ∧ (∀ j, idOf bl' = some j → idOf bl = some j ∨ H.next ≤ j) := by
  obtain ⟨bl', Ha, h1, h2, hu⟩ := h.ob.append1U (xs := [.map (some r)]) (i := Try.t56) (z := .map none) hf rfl (by decide) rfl rfl rfl rfl (by omega) (by show (σ.blocks.length + 1) * 8 ≤ 140737488355328; omega)
  simp only [List.length_cons, List.length_nil, Nat.zero_add] at h1
  have hbl : b < H.next := get_lt hf h.box
  have hnb : idOf bl ≠ some b := h.ob.id_ne h.box
  have hb2 : Ha.get b = some (.box [bl, tl, ts, .int .i64 σ.next] 55) := by rw [hu.frame b hnb hbl]; exact h.box
  have hnb' : idOf bl' ≠ some b := h2.id_ne hb2
  have c1 := h2.vcells
  have c2 := h2.flat
  have c3 := fun H2 => h2.lenS isl48 H2
  have hfr : ∀ j, j < H.next → j ≠ b → idOf bl ≠ some j → (Ha.set b (.box [bl', tl, ts, .int .i64 σ.next] 55)).get j = H.get j := fun j hj hjb hji => by
    rw [get_set_ne hjb]; exact hu.frame j hji hj
  refine ⟨bl', Ha.set b (.box [bl', tl, ts, .int .i64 σ.next] 55), ?_, ?_, hfr, hu.next, (AHeap.le_set hb2).fresh hu.fresh, fun j hj => hu.foot j hj⟩
  · refine theCall_run (hx _ _ _ (by decide)) Try.func31 (rs := [.tmp 4]) rfl rfl rfl (by simp) fun tm hl hi => ?_
    replace hl : tm.length = 20 := hl
    have i0 := hi 0
    have i1 := hi 1
    simp only [List.getD_cons_zero, List.getD_cons_succ] at i0 i1
    simp (config := { decide := true }) only [theCode_seq, theCode_list, theCode_ret, evalList_plain, evalList_nil, nd_move, nd_assign, nd_buildSlice, nd_load, nd_store, nd_nilCheck, nd_fieldAddr, nd_call, ok_tmp, ok_const, cl_int, opA_move, opA_assign, opA_load, opA_store, opA_nilCheck, opA_fieldAddr, opA_len, opA_appendS, contA_val, contA_skip, putT_some, putT_none, aev_tmp, aev_const, rd_same, rd_ne, List.length_set, valA_some, skipA_some, pairA_some,
    thenA_normal, loadS_ptr, storeS_ptr, nilCheckS_ptr, fieldAddrS_eq, leaveR_ret, resA_tmp, resA_nil, List.getElem?_cons_zero, pack_one, Option.map_some, Option.isSome_some, ne_eq, Nat.reduceLT, Nat.reduceAdd, Nat.zero_add, Option.some.injEq, List.all_cons, List.all_nil, Bool.and_true, hl, i0, i1, storeV_flat, setCell_eq, hb2, setCellO_box, c1, c2, c3, get_set_same, List.set_cons_zero, Option.getD_none, opA_build1F, b1_48, es48, vc_map, fl_map, appendS_of sli48, build1S_of sli48, h1, sli48, off50_0, loadV_flat, agg48, cell_eq, h.box, cellO_box, List.size_toArray, List.length_cons, List.length_nil, info48, cells48]
    push_cast
    rfl
  · refine h.repB hf (fun j hj hjb hji _ => hfr j hj hjb hji) get_set_same ?_ ?_ ?_
    · have := h2.mono (H2 := Ha.set b (.box [bl', tl, ts, .int .i64 σ.next] 55)) fun i hi => get_set_ne (by rintro rfl; exact hnb' hi)
      simpa using this
    · intro i hi
      simp only [List.length_append, List.length_cons, List.length_nil] at hi
      rcases Nat.lt_or_ge i σ.blocks.length with hlt | hge
      · obtain ⟨r', g1, g2⟩ := h.maps i hlt
        have hr' := List.mem_of_getElem? g1
        refine ⟨r', ?_, ?_⟩
        · rw [List.getElem?_append_left (by rw [h.len]; exact hlt)]; exact g1
        · rw [hfr r' (get_lt hf g2) (fun e => by subst e; have := h.kb; have := h.kr hr'; omega) (fun e => by have := h.ob.kind e; have := h.kr hr'; omega), g2]
          rw [List.getD_eq_getElem?_getD, List.getD_eq_getElem?_getD, List.getElem?_append_left hlt]
      · obtain rfl : i = σ.blocks.length := by omega
        refine ⟨r, ?_, ?_⟩
        · rw [List.getElem?_append_right (by rw [h.len]; exact Nat.le_refl _), h.len]; simp
        · have kr : kindO (H.get r) = 1001 := by rw [hr]; rfl
          rw [hfr r (get_lt hf hr) (fun e => by subst e; have := h.kb; omega) (fun e => by have := h.ob.kind e; omega), hr]
          rw [List.getD_eq_getElem?_getD, List.getElem?_append_right (Nat.le_refl _)]; simp
    · rw [List.nodup_append]
      exact ⟨h.nd, by simp, fun x hx y hy => by simp only [List.mem_singleton] at hy; subst hy; rintro rfl; exact hr2 hx⟩




theorem own_form {H : AHeap} {e sz : Nat} {v : Value} {n : Nat} {cells : List Value} (h : Own H e sz v n cells) : ∃ a n c, v = .slice a n c := by
  cases h <;> exact ⟨_, _, _, rfl⟩

theorem own_det {H : AHeap} {e sz : Nat} {v : Value} {n n' : Nat} {cells cells' : List Value} (h : Own H e sz v n cells) (h' : Own H e sz v n' cells') : n = n' ∧ cells = cells' := by
  have h1 := h.elems
  rw [h'.elems] at h1
  simp only [Option.some.injEq, Prod.mk.injEq] at h1
  exact ⟨h1.1.symm, h1.2.symm⟩

theorem trnC_inj : ∀ {l l' : List Trn}, l.flatMap trnC = l'.flatMap trnC → l = l'
  | [], [], _ => rfl
  | [], t :: l', h => by simp [trnC] at h
  | t :: l, [], h => by simp [trnC] at h
  | t :: l, t' :: l', h => by
    simp only [List.flatMap_cons, trnC, List.cons_append, List.nil_append, List.cons.injEq, Value.string.injEq, Value.bool.injEq, Value.int.injEq, true_and] at h
    obtain ⟨h1, h2, h3, h4⟩ := h
    rw [trnC_inj h4]
    obtain ⟨a, b, c⟩ := t
    obtain ⟨a', b', c'⟩ := t'
    simp only at h1 h2 h3
    have : c = c' := by omega
    subst h1; subst h2; subst this
    rfl

theorem tyC_inj : ∀ {l l' : List Int}, l.map tyC = l'.map tyC → l = l'
  | [], [], _ => rfl
  | [], t :: l', h => by simp at h
  | t :: l, [], h => by simp at h
  | t :: l, t' :: l', h => by
    simp only [List.map_cons, tyC, List.cons.injEq, Value.int.injEq, true_and] at h
    rw [h.1, tyC_inj (l := l) (l' := l') h.2]

theorem entV_inj : ∀ {m m' : Blk}, strE (entV m) = strE (entV m') → m = m'
  | [], [], _ => rfl
  | [], p :: m', h => by simp [strE, entV] at h
  | p :: m, [], h => by simp [strE, entV] at h
  | p :: m, p' :: m', h => by
    simp only [strE, entV, List.map_cons, List.cons.injEq, Prod.mk.injEq, Value.string.injEq, Value.int.injEq, true_and] at h
    obtain ⟨⟨h1, h2⟩, h3⟩ := h
    have h4 : m = m' := entV_inj h3
    obtain ⟨a, b⟩ := p
    obtain ⟨a', b'⟩ := p'
    simp only at h1 h2
    have : b = b' := by omega
    subst h1; subst this; subst h4
    rfl

/-- The heap tells the state. -/
theorem SAt.uniq {H : AHeap} {b : Nat} {σ σ' : Sc} {bl tl ts bl' tl' ts' : Value} {rs rs' : List Nat} (h : SAt H b σ bl tl ts rs) (h' : SAt H b σ' bl' tl' ts' rs') : σ = σ' := by
  have hb := h.box
  rw [h'.box] at hb
  simp only [Option.some.injEq, AObj.box.injEq, List.cons.injEq, Value.int.injEq, true_and, and_true] at hb
  obtain ⟨rfl, rfl, rfl, hn⟩ := hb
  obtain ⟨o1, o2⟩ := own_det h.ob h'.ob
  obtain ⟨_, o3⟩ := own_det h.ot h'.ot
  obtain ⟨_, o4⟩ := own_det h.oy h'.oy
  have hrs : rs = rs' := by
    have : ∀ {l l' : List Nat}, (l.map fun r => Value.map (some r)) = (l'.map fun r => Value.map (some r)) → l = l' := by
      intro l l' h
      exact List.map_inj_right (f := fun r => Value.map (some r)) (fun a b hab => by injection hab with hab; injection hab) |>.1 h
    exact this o2
  subst hrs
  have hbl : σ.blocks = σ'.blocks := by
    apply List.ext_getElem o1
    intro i hi hi'
    obtain ⟨r, g1, g2⟩ := h.maps i hi
    obtain ⟨r', g3, g4⟩ := h'.maps i hi'
    rw [g1] at g3
    obtain rfl := (by simpa using g3 : r = r')
    rw [g2] at g4
    have := entV_inj (by simpa using g4 : strE (entV (σ.blocks.getD i [])) = strE (entV (σ'.blocks.getD i [])))
    rwa [List.getD_eq_getElem?_getD, List.getD_eq_getElem?_getD, List.getElem?_eq_getElem hi, List.getElem?_eq_getElem hi'] at this
  have ht := trnC_inj o3
  have hy := tyC_inj o4
  obtain ⟨B1, T1, Y1, N1⟩ := σ
  obtain ⟨B2, T2, Y2, N2⟩ := σ'
  simp only at hbl ht hy hn
  have : N1 = N2 := by omega
  subst hbl; subst ht; subst hy; subst this
  rfl

theorem ScopeAt.uniq {H : AHeap} {b : Nat} {σ σ' : Sc} {F F' : Nat → Prop} (h : ScopeAt H b σ F) (h' : ScopeAt H b σ' F') : σ = σ' := by
  obtain ⟨_, _, _, _, h, _⟩ := h
  obtain ⟨_, _, _, _, h', _⟩ := h'
  exact h.uniq h'

end Go.Proofs.Ytnjoaffnfjlcaaa

namespace Go.Proofs.Ytnjoaffnfjlcaaa
open Go Go.Proofs B


theorem clone36 {ext : CallT} (hx : ∀ f args H, f ≠ 22 → ext f args H = none) {H : AHeap} (hf : H.Fresh) {v : Value} {n : Nat} {cells : List Value} (ho : Own H 62 3 v n cells) (hfl : cells.all flatV = true) (hn : n < 1000000) :
    ∃ v' H', theCall Try.prog ext 36 [v] H = some (.ret v', H') ∧ Own H' 62 3 v' n cells ∧ Grown H H' ∧ (∀ j, idOf v' = some j → H.next ≤ j) := by
  cases ho with
  | nil =>
    refine ⟨_, H, ?_, .nil, Grown.refl hf, fun j hj => by simp [idOf] at hj⟩
    refine theCall_run (hx _ _ _ (by decide)) Try.func36 (rs := [.tmp 2]) rfl rfl rfl (by simp) fun tm hl hi => ?_
    replace hl : tm.length = 8 := hl
    have i0 := hi 0
    simp only [List.getD_cons_zero] at i0
    simp (config := { decide := true }) only [theCode_seq, theCode_list, theCode_ret, theCode_if, evalList_plain, evalList_nil, nd_move, nd_assign, nd_buildSlice, nd_binOp, ok_tmp, ok_const, cl_slice, opA_move, opA_assign, opA_bin, contA_val, putT_some, aev_tmp, aev_const, rd_same, rd_ne, List.length_set, thenA_normal, thenA_ret, boolOf_bool, leaveR_ret, resA_tmp, resA_nil, pack_one, Option.map_some, Option.isSome_some, ne_eq, ↓reduceIte, Nat.reduceLT, hl, i0, isl51, bin_snil_eql]
  | @row i g n c cs st hg h2 h3 h4 h5 =>
    have ho := Own.row (H := H) (e := 62) (sz := 3) (i := i) (g := g) (n := n) (c := c) (cs := cs) (st := st) hg h2 h3 h4 h5
    obtain ⟨H1, e1⟩ : ∃ X, H.push (.arr [] [] 0 62 false) = X := ⟨_, rfl⟩
    have g1 : Grown H H1 := by rw [← e1]; exact Grown.push hf _
    have he : Own H1 62 3 (.slice (some ⟨H.next, 0, some 0⟩) 0 0) 0 [] := by rw [← e1]; exact Own.empty
    have ho1 := g1.own hf ho
    obtain ⟨v', H', a1, a2, hu⟩ := he.appendN (i := Try.t62) (z := .agg #[.string ⟨#[]⟩, .bool false, .int .i64 0]) g1.fresh rfl (by decide) rfl rfl ho1.elems (by have := ho1.length; omega) hfl (by omega) (by show (0 + n) * 32 ≤ 140737488355328; omega)
    rw [Nat.zero_add, List.nil_append] at a2
    have b0 := fun ρ ty => opA_build00 (P := Try.prog) (H := H) (t := 51) (ρ := ρ) (ty := ty) sli51 (z := .agg #[.string ⟨#[]⟩, .bool false, .int .i64 0]) rfl
    have hnf : ∀ j, sliceFoot (.slice (some ⟨H.next, 0, some 0⟩) 0 0) j → j = H.next := fun j hj => by
      simp only [sliceFoot, idOf, Option.some.injEq] at hj; exact hj.symm
    refine ⟨v', H', ?_, a2, ⟨fun j hj => (hu.frame j (fun e => by have := hnf j e; omega) (Nat.lt_of_lt_of_le hj g1.next)).trans (g1.get j hj), Nat.le_trans g1.next hu.next, hu.fresh⟩, fun j hj => ?_⟩
    rotate_left
    · rcases hu.foot j hj with e | e
      · exact Nat.le_of_eq (hnf j e).symm
      · exact Nat.le_trans g1.next e
    refine theCall_run (hx _ _ _ (by decide)) Try.func36 (rs := [.tmp 2]) rfl rfl rfl (by simp) fun tm hl hi => ?_
    replace hl : tm.length = 8 := hl
    have i0 := hi 0
    simp only [List.getD_cons_zero] at i0
    simp (config := { decide := true }) only [theCode_seq, theCode_list, theCode_skip, theCode_ret, theCode_if, evalList_plain, evalList_nil, nd_move, nd_assign, nd_buildSlice, nd_binOp, nd_call, ok_tmp, ok_const, cl_slice, opA_move, opA_assign, opA_bin, opA_appendS, contA_val, putT_some, aev_tmp, aev_const, rd_same, rd_ne, List.length_set, pairA_some,
    thenA_normal, boolOf_bool, leaveR_ret, resA_tmp, resA_nil, pack_one, Option.map_some, Option.isSome_some, ne_eq, ↓reduceIte, Nat.reduceLT, Option.some.injEq, hl, i0, isl51, bin_slice_eql, b0, e1, sli51, appendS_of sli51, a1]

theorem build55b {H : AHeap} {a : Option Addr} {ln cp : Nat} {n : Nat} : buildS Try.prog H 55 [(3, .int .i64 n), (2, .slice a ln cp)] = some (.val (.agg #[.slice none 0 0, .slice none 0 0, .slice a ln cp, .int .i64 n]) H) := by
  unfold buildS
  have h1 : zeroOf Try.prog 55 = some (.agg #[.slice none 0 0, .slice none 0 0, .slice none 0 0, .int .i64 0]) := by unfold zeroOf; rw [inf55]; rfl
  have h2 : Program.built Try.prog 55 [(3, .int .i64 n), (2, .slice a ln cp)] = some #[.slice none 0 0, .slice none 0 0, .slice a ln cp, .int .i64 n] := by kernel_rfl
  rw [h1, h2]

theorem strKeys_entV (m : Blk) : strKeys (strE (entV m)) = true := by
  simp [strKeys, strE, entV, isStrV]

theorem nodup_entV {m : Blk} (h : (m.map (·.1)).Nodup) : ((strE (entV m)).map (·.1)).Nodup := by
  have e : (strE (entV m)).map (·.1) = (m.map (·.1)).map Value.string := by
    simp [strE, entV, List.map_map, Function.comp_def]
  rw [e, List.Nodup, List.pairwise_map]
  exact h.imp fun {a b} hab hv => hab (by injection hv)


set_option maxHeartbeats 8000000 in
set_option maxRecDepth 100000 in
theorem cp_r3 {ext : CallT} {H Hc : AHeap} (hf : H.Fresh) {b : Nat} {bl tl ts : Value} {ta : Option Addr} {tn tc : Nat} {nx : Nat} (hb : H.get b = some (.box [bl, tl, ts, .int .i64 nx] 55)) (a1 : theCall Try.prog ext 30 [ts] H = some (.ret (.slice ta tn tc), Hc)) (g1 : Grown H Hc)
    {tm : List Value} (hl : tm.length = 60) (i0 : tm.getD 0 undef = .pointer (some ⟨b, 0, none⟩)) {c : Code} (hc : (seqsF Try.f22)[3]? = some c) :
    ∃ tm', theCode Try.prog ext false c ⟨tm, [], H⟩ = some (.normal, ⟨tm', [], Hc.push (.box [.slice none 0 0, .slice none 0 0, (.slice ta tn tc), .int .i64 nx] 55)⟩) ∧ tm'.length = 60 ∧ tm'.getD 0 undef = .pointer (some ⟨b, 0, none⟩) ∧ tm'.getD 3 undef = .pointer (some ⟨Hc.next, 0, none⟩) := by
  have h0 : (seqsF Try.f22)[3]? = some _ := rfl
  rw [h0] at hc
  obtain rfl := Option.some.inj hc
  clear hc h0
  have hbl : b < H.next := get_lt hf hb
  have hb1 : Hc.get b = some (.box [bl, tl, ts, .int .i64 nx] 55) := by rw [g1.get b hbl]; exact hb
  have hb2 : (Hc.push (.box [.slice none 0 0, .slice none 0 0, (.slice ta tn tc), .int .i64 nx] 55)).get b = some (.box [bl, tl, ts, .int .i64 nx] 55) := by
    rw [get_push_old (by have := g1.next; omega)]; exact hb1
  rw [theCode_draw]
  obtain ⟨tmF, htmF⟩ : ∃ t, t = ((((((((((((((((((((((((tm).set 11 (.pointer (some ⟨b, 0, none⟩)))).set 12 (.pointer (some ⟨b, 0, none⟩)))).set 13 (.pointer (some ⟨b, 3, none⟩)))).set 14 (.int .i64 nx))).set 15 (.pointer (some ⟨b, 0, none⟩)))).set 16 (.pointer (some ⟨b, 0, none⟩)))).set 17 (.pointer (some ⟨b, 2, none⟩)))).set 18 (ts))).set 19 (.slice ta tn tc))).set 20 (.agg #[.slice none 0 0, .slice none 0 0, .slice ta tn tc, .int .i64 nx]))).set 21 (.pointer (some ⟨Hc.next, 0, none⟩)))).set 3 (.pointer (some ⟨Hc.next, 0, none⟩))) := ⟨_, rfl⟩
  refine ⟨tmF, drawRun_R (plan := [0, 1, 2, 3, 4, 5, 6, 7, 8, 9, 10, 11]) (by kernel_rfl) ?h, ?q⟩
  case h =>
    rw [htmF]
    refine planR_pure (v := .pointer (some ⟨b, 0, none⟩)) rfl rfl (by simp (config := { decide := true }) only [ok_tmp, opA_move, aev_tmp, i0]) ?_
    refine planR_pure (v := .pointer (some ⟨b, 0, none⟩)) rfl rfl (by simp (config := { decide := true }) only [ok_tmp, opA_nilCheck, putT_some, aev_tmp, rd_same, nilCheckS_ptr, Nat.reduceLT, hl]) ?_
    refine planR_pure (v := .pointer (some ⟨b, 3, none⟩)) rfl rfl (by simp (config := { decide := true }) only [ok_tmp, opA_fieldAddr, putT_some, aev_tmp, rd_same, List.length_set, fieldAddrS_eq, Option.map_some, Nat.reduceLT, Nat.zero_add, hl, off55_3]) ?_
    refine planR_keep (H' := H) (v := .int .i64 nx) rfl (.inl rfl) (by simp (config := { decide := true }) only [ok_tmp, opA_load, putT_some, aev_tmp, rd_same, List.length_set, valA_some, loadS_ptr, List.getElem?_cons_zero, List.getElem?_cons_succ, Nat.reduceLT, hl, agg3, loadV_flat, cell_eq, hb, cellO_box]) ?_
    refine planR_pure (v := .pointer (some ⟨b, 0, none⟩)) rfl rfl (by simp (config := { decide := true }) only [ok_tmp, opA_move, putT_some, aev_tmp, rd_ne, ne_eq, i0]) ?_
    refine planR_pure (v := .pointer (some ⟨b, 0, none⟩)) rfl rfl (by simp (config := { decide := true }) only [ok_tmp, opA_nilCheck, putT_some, aev_tmp, rd_same, List.length_set, nilCheckS_ptr, Nat.reduceLT, hl]) ?_
    refine planR_pure (v := .pointer (some ⟨b, 2, none⟩)) rfl rfl (by simp (config := { decide := true }) only [ok_tmp, opA_fieldAddr, putT_some, aev_tmp, rd_same, List.length_set, fieldAddrS_eq, Option.map_some, Nat.reduceLT, Nat.zero_add, hl, off55_2]) ?_
    refine planR_keep (H' := H) (v := ts) rfl (.inl rfl) (by simp (config := { decide := true }) only [ok_tmp, opA_load, putT_some, aev_tmp, rd_same, List.length_set, valA_some, loadS_ptr, List.getElem?_cons_zero, List.getElem?_cons_succ, Nat.reduceLT, hl, agg32, loadV_flat, cell_eq, hb, cellO_box]) ?_
    refine planR_call (v := .slice ta tn tc) (f := 30) (args := [ts]) (R' := [⟨3, ⟨some 14, .load 3 (.tmp 13), 3, "scope.go:151", #[⟨2, .data⟩], none⟩, ((((((tm).set 11 (.pointer (some ⟨b, 0, none⟩)))).set 12 (.pointer (some ⟨b, 0, none⟩)))).set 13 (.pointer (some ⟨b, 3, none⟩))), H, .int .i64 nx, H, true⟩]) rfl rfl (by simp (config := { decide := true }) only [ok_tmp, ok_func, opA_call, putT_some, aev_tmp, aev_func, rd_same, List.length_set, callS_func, Nat.reduceLT, List.map_cons, List.map_nil, List.all_cons, List.all_nil, Bool.and_true, List.nil_append, List.append_nil, hl, en30]) a1 ?hr ?_
    case hr =>
      intro t ht
      simp only [List.mem_cons, List.not_mem_nil, or_false] at ht
      rcases ht with rfl | rfl
      · refine ⟨same_read rfl ?_, .inl (by kernel_rfl)⟩
        simp (config := { decide := true }) only [ok_tmp, opA_load, putT_some, aev_tmp, rd_same, List.length_set, valA_some, loadS_ptr, List.getElem?_cons_zero, List.getElem?_cons_succ, Nat.reduceLT, hl, agg32, loadV_flat, cell_eq, hb, cellO_box]
      · refine ⟨same_read rfl ?_, .inr (List.mem_cons_self ..)⟩
        simp (config := { decide := true }) only [ok_tmp, opA_load, putT_some, aev_tmp, rd_same, List.length_set, valA_some, loadS_ptr, List.getElem?_cons_zero, List.getElem?_cons_succ, Nat.reduceLT, hl, agg3, loadV_flat, cell_eq, hb, cellO_box]
    refine planR_pure (v := .agg #[.slice none 0 0, .slice none 0 0, .slice ta tn tc, .int .i64 nx]) rfl rfl (by simp (config := { decide := true }) only [ok_tmp, opA_build, putT_some, aev_tmp, rd_same, rd_ne, List.length_set, ne_eq, Nat.reduceLT, List.map_cons, List.map_nil, List.all_cons, List.all_nil, Bool.and_true, hl, zero55, build55b]) ?_
    refine planR_keep (H' := Hc.push (.box [.slice none 0 0, .slice none 0 0, .slice ta tn tc, .int .i64 nx] 55)) (v := .pointer (some ⟨Hc.next, 0, none⟩)) rfl (.inr rfl) (by simp (config := { decide := true }) only [ok_tmp, opA_box, putT_some, aev_tmp, rd_same, List.length_set, Nat.reduceLT, List.all_cons, List.all_nil, Bool.and_true, hl, info55, vc_agg, fl_slice, fl_int]) ?_
    refine planR_pure (v := .pointer (some ⟨Hc.next, 0, none⟩)) rfl rfl (by simp (config := { decide := true }) only [ok_tmp, opA_assign, putT_some, aev_tmp, rd_same, List.length_set, Nat.reduceLT, hl]) ?_
    refine planR_nil ?_
    intro t ht
    simp only [List.mem_cons, List.not_mem_nil, or_false] at ht
    rcases ht with rfl | rfl
    · exact same_alloc rfl rfl
    · refine same_read rfl ?_
      simp (config := { decide := true }) only [ok_tmp, opA_load, aev_tmp, rd_same, List.length_set, valA_some, loadS_ptr, List.getElem?_cons_zero, List.getElem?_cons_succ, Nat.reduceLT, hl, agg3, loadV_flat, cell_eq, hb2, cellO_box]
  case q =>
    rw [htmF]
    refine ⟨?_, ?_, ?_⟩
    · simp only [List.length_set, hl]
    all_goals simp (config := { decide := true }) only [rd_ne, rd_same, List.length_set, hl, ne_eq, i0]


set_option maxHeartbeats 8000000 in
set_option maxRecDepth 100000 in
theorem cp_a {ext : CallT} {H : AHeap} {b : Nat} {tm : List Value} (hl : tm.length = 60) (i0 : tm.getD 0 undef = .pointer (some ⟨b, 0, none⟩)) :
    ∃ tm', theList Try.prog ext false ((seqsF Try.f22).take 3) ⟨tm, [], H⟩ = some (.normal, ⟨tm', [], H⟩) ∧ tm'.length = 60 ∧ tm'.getD 0 undef = .pointer (some ⟨b, 0, none⟩) := by
  have hc : (seqsF Try.f22).take 3 = [_, _, _] := rfl
  rw [hc]
  refine ⟨?tm, ?h, ?q⟩
  case h =>
    simp (config := { decide := true }) only [theList_cons, theList_nil, theCode_list, theCode_skip, theCode_if, evalList_plain, evalList_nil, nd_move, nd_assign, nd_binOp, ok_tmp, ok_const, cl_ptr, opA_move, opA_assign, opA_bin, contA_val, putT_some, aev_tmp, aev_const, rd_same, rd_ne, List.length_set, thenA_normal, boolOf_bool, bin_ptr_eql, Option.isSome_some, ne_eq, ↓reduceIte, Nat.reduceLT, Option.some.injEq, hl, i0, isp23, bin_ptr_eql]
    rfl
  case q =>
    refine ⟨by simp only [List.length_set, hl], ?_⟩
    simp (config := { decide := true }) only [rd_ne, ne_eq, i0]

set_option maxHeartbeats 8000000 in
set_option maxRecDepth 100000 in
theorem cp_b {ext : CallT} {Hb Hd : AHeap} (hfb : Hb.Fresh) {b q : Nat} {bl tl ts tl' ts' : Value} {nx n : Nat} (hb : Hb.get b = some (.box [bl, tl, ts, .int .i64 nx] 55)) (hq : Hb.get q = some (.box [.slice none 0 0, .slice none 0 0, ts', .int .i64 nx] 55)) (hbq : b ≠ q)
    (a1 : theCall Try.prog ext 36 [tl] Hb = some (.ret tl', Hd)) (g1 : Grown Hb Hd) (hfl : flatV tl' = true) (hvc : tl'.cells = #[tl']) (hln : ∀ H2, lenS Try.prog H2 48 bl = some (.val (.int .i64 n) H2))
    {tm : List Value} (hl : tm.length = 60) (i0 : tm.getD 0 undef = .pointer (some ⟨b, 0, none⟩)) (i3 : tm.getD 3 undef = .pointer (some ⟨q, 0, none⟩)) :
    ∃ tm', theList Try.prog ext false (((seqsF Try.f22).drop 4).take 2) ⟨tm, [], Hb⟩ = some (.normal, ⟨tm', [], Hd.set q (.box [.slice none 0 0, tl', ts', .int .i64 nx] 55)⟩) ∧ tm'.length = 60 ∧ tm'.getD 3 undef = .pointer (some ⟨q, 0, none⟩) ∧ tm'.getD 36 undef = bl ∧ tm'.getD 37 undef = .int .i64 n ∧ tm'.getD 38 undef = .int .i64 0 := by
  have hb1 : Hd.get b = some (.box [bl, tl, ts, .int .i64 nx] 55) := by rw [g1.get b (get_lt hfb hb)]; exact hb
  have hq1 : Hd.get q = some (.box [.slice none 0 0, .slice none 0 0, ts', .int .i64 nx] 55) := by rw [g1.get q (get_lt hfb hq)]; exact hq
  have hb2 : (Hd.set q (.box [.slice none 0 0, tl', ts', .int .i64 nx] 55)).get b = some (.box [bl, tl, ts, .int .i64 nx] 55) := by rw [get_set_ne hbq]; exact hb1
  have hc : ((seqsF Try.f22).drop 4).take 2 = [_, _] := rfl
  rw [hc]
  refine ⟨?tm, ?h, ?q⟩
  case h =>
    simp (config := { decide := true }) only [theList_cons, theList_nil, theCode_list, evalList_plain, evalList_nil, nd_move, nd_load, nd_store, nd_nilCheck, nd_fieldAddr, nd_call, ok_tmp, ok_const, ok_func, cl_int, opA_move, opA_load, opA_store, opA_nilCheck, opA_fieldAddr, opA_call, opA_len, contA_val, contA_skip, contA_enter, callA_ret, putT_some, putT_none, aev_tmp, aev_const, aev_func, rd_same, rd_ne, List.length_set, valA_some, skipA_some, thenA_normal, loadS_ptr, storeS_ptr, nilCheckS_ptr, fieldAddrS_eq, callS_func, List.getElem?_cons_zero, List.getElem?_cons_succ, Option.map_some, Option.isSome_some, ne_eq, Nat.reduceLT, Nat.reduceAdd, Nat.add_zero, Nat.zero_add, Option.some.injEq, List.map_cons, List.map_nil, List.all_cons, List.all_nil, Bool.and_true, List.nil_append, List.append_nil, hl, i0, i3, off55_0, off55_1, off53_0, off50_0, agg51, agg48, info51, cells51, loadV_flat, storeV_flat, setCell_eq, setCellO_box, cell_eq, hb, hq1, hb2, cellO_box, en36, a1, hfl, hvc, hln, List.set_cons_zero, List.set_cons_succ, Option.getD_none, List.length_cons, List.length_nil]
    rfl
  case q =>
    refine ⟨by simp only [List.length_set, hl], ?_, ?_, ?_, ?_⟩
    all_goals simp (config := { decide := true }) only [rd_ne, rd_same, List.length_set, hl, ne_eq, i3]

/-- The heap behind the copying of one block's map. -/
noncomputable def cpH (ext : CallT) (q : Nat) (H : AHeap) (es : List (Value × Value)) : AHeap :=
  match theCall Try.prog ext 31 [.pointer (some ⟨q, 0, none⟩), .map (some H.next)] ((H.push (.map [])).set H.next (.map es)) with
  | some (_, H') => H'
  | none => H

noncomputable def cpS (ext : CallT) (q : Nat) (blocks : List Blk) (H : AHeap) : Nat → AHeap
  | 0 => H
  | i + 1 => cpH ext q (cpS ext q blocks H i) (strE (entV (blocks.getD i [])))

/-- A round's facts. -/
structure CpR (ext : CallT) (Hs Hi : AHeap) (q : Nat) (σ : Sc) (tl' ts' : Value) (i : Nat) (bl' : Value) (rs' : List Nat) : Prop where
  at' : SAt Hi q { σ with blocks := σ.blocks.take i } bl' tl' ts' rs'
  grown : ∀ j, j < Hs.next → j ≠ q → Hi.get j = Hs.get j
  next : Hs.next ≤ Hi.next
  fresh : Hi.Fresh
  newb : (∀ j, idOf bl' = some j → Hs.next ≤ j) ∧ ∀ j ∈ rs', Hs.next ≤ j

theorem cp_step {ext : CallT} (hx : ∀ f args H, f ≠ 22 → ext f args H = none) {Hs Hi : AHeap} {q i : Nat} {σ : Sc} {tl' ts' bl' : Value} {rs' : List Nat} (h : CpR ext Hs Hi q σ tl' ts' i bl' rs') (hi : i < σ.blocks.length) (hn : σ.blocks.length < 1000000) :
    ∃ bl2, theCall Try.prog ext 31 [.pointer (some ⟨q, 0, none⟩), .map (some Hi.next)] ((Hi.push (.map [])).set Hi.next (.map (strE (entV (σ.blocks.getD i []))))) = some (.ret (.int .i64 (i + 1 : Nat)), cpH ext q Hi (strE (entV (σ.blocks.getD i [])))) ∧
      CpR ext Hs (cpH ext q Hi (strE (entV (σ.blocks.getD i [])))) q σ tl' ts' (i + 1) bl2 (rs' ++ [Hi.next]) := by
  have e0 : (Hi.push (.map [])).set Hi.next (.map (strE (entV (σ.blocks.getD i [])))) = Hi.push (.map (strE (entV (σ.blocks.getD i [])))) := by
    refine AHeap.ext' (by rfl) fun j => ?_
    by_cases hj : j = Hi.next
    · subst hj; rw [get_set_same, get_push_new]
    · rw [get_set_ne hj]
      rcases Nat.lt_or_ge j Hi.next with h1 | h1
      · rw [get_push_old (by omega), get_push_old (by omega)]
      · have hn1 : Hi.next + 1 ≤ j := by omega
        rw [(Grown.push h.fresh (.map [])).fresh j hn1, (Grown.push h.fresh (.map (strE (entV (σ.blocks.getD i []))))).fresh j hn1]
  have g1 : Grown Hi (Hi.push (.map (strE (entV (σ.blocks.getD i []))))) := Grown.push h.fresh _
  have h0 := h.at'.grown h.fresh g1
  have hlen : (σ.blocks.take i).length = i := by rw [List.length_take]; omega
  obtain ⟨bl2, H', c1, c2, c3, c4, c5, c6⟩ := push31G (ext := ext) hx g1.fresh h0 (by show (σ.blocks.take i).length < _; omega) (r := Hi.next) (m := σ.blocks.getD i []) get_push_new (fun hm => by have := h.at'.lt h.fresh (.inr (.inr (.inr (.inr hm)))); omega)
  have hcp : cpH ext q Hi (strE (entV (σ.blocks.getD i []))) = H' := by unfold cpH; rw [e0, c1]
  rw [hcp, e0]
  refine ⟨bl2, ?_, ?_⟩
  · rw [c1]
    show some (AEnd.ret (.int .i64 (((σ.blocks.take i).length : Int) + 1)), H') = _
    rw [hlen]; rfl
  · have hqn : q < Hi.next := get_lt h.fresh h.at'.box
    refine ⟨?_, fun j hj hjq => ?_, Nat.le_trans h.next (Nat.le_trans g1.next c4), c5, fun j hj => ?_, fun j hj => ?_⟩
    · have e : σ.blocks.take i ++ [σ.blocks.getD i []] = σ.blocks.take (i + 1) := by
        rw [List.take_succ_eq_append_getElem hi, List.getD_eq_getElem?_getD, List.getElem?_eq_getElem hi]; rfl
      rw [← e]; exact c2
    · have hlt := Nat.lt_of_lt_of_le hj h.next
      rw [c3 j (Nat.lt_of_lt_of_le hlt g1.next) hjq (fun e => by have := h.newb.1 j e; omega), g1.get j hlt]
      exact h.grown j hj hjq
    · rcases c6 j hj with e | e
      · exact h.newb.1 j e
      · exact Nat.le_trans h.next (Nat.le_trans g1.next e)
    · rcases List.mem_append.1 hj with e | e
      · exact h.newb.2 j e
      · simp at e; subst e; exact h.next


set_option maxHeartbeats 8000000 in
set_option maxRecDepth 100000 in
theorem cp_round {ext : CallT} (hx : ∀ f args H, f ≠ 22 → ext f args H = none) (hext : CallOK Try.prog ext) (hm : Try.prog.follows .mixedOrders = true) {Hs Hi : AHeap} {b q i : Nat} {σ : Sc} {bl tl ts tl' ts' bl' : Value} {rs rs' : List Nat} (hS : SAt Hs b σ bl tl ts rs) (hlt : ∀ j, SFoot b bl tl ts rs j → j < Hs.next ∧ j ≠ q) (huq : ∀ m ∈ σ.blocks, (m.map (·.1)).Nodup) (hn : σ.blocks.length < 1000000)
    (h : CpR ext Hs Hi q σ tl' ts' i bl' rs') (hi : i < σ.blocks.length) {tm : List Value} (hl : tm.length = 60) (i3 : tm.getD 3 undef = .pointer (some ⟨q, 0, none⟩)) (i36 : tm.getD 36 undef = bl) (i37 : tm.getD 37 undef = .int .i64 σ.blocks.length) (i38 : tm.getD 38 undef = .int .i64 (i : Nat))
    {c : Code} (hc : (loopsF Try.f22)[0]? = some c) :
    AWP Try.prog c ⟨tm, [], Hi⟩ fun x t => x = .normal ∧ ∃ tm', t = ⟨tm', [], cpH ext q Hi (strE (entV (σ.blocks.getD i [])))⟩ ∧ tm'.length = 60 ∧ tm'.getD 3 undef = .pointer (some ⟨q, 0, none⟩) ∧ tm'.getD 36 undef = bl ∧ tm'.getD 37 undef = .int .i64 σ.blocks.length ∧ tm'.getD 38 undef = .int .i64 (i + 1 : Nat) := by
  have h0 : (loopsF Try.f22)[0]? = some _ := rfl
  rw [h0] at hc
  obtain rfl := Option.some.inj hc
  have hil : (i : Int) < (σ.blocks.length : Int) := by omega
  obtain ⟨bl2, hcall, hnext⟩ := cp_step hx h hi hn
  have hSi : SAt Hi b σ bl tl ts rs := hS.keep fun j hj => h.grown j (hlt j hj).1 (hlt j hj).2
  have hix := fun H2 => indexAddrS_own (j := (i : Int)) (k := .i64) hSi.ob (by omega) hil es48 H2
  simp only [Int.toNat_natCast] at hix
  have hv := hSi.valB hi
  obtain ⟨r, hr1, hr2⟩ := hSi.maps i hi
  have hrd : rs.getD i 0 = r := by rw [List.getD_eq_getElem?_getD, hr1]; rfl
  rw [hrd] at hv
  have hrlt : r < Hi.next := get_lt h.fresh hr2
  have hw : IntKind.i64.wrap ((i : Int) + 1) = ((i + 1 : Nat) : Int) := by rw [IntWalk.i64_in _ (by omega)]; omega
  refine AWP.of_list ?_
  show AWPL Try.prog (_ :: _ :: _ :: _ :: []) _ _
  refine AWPL.run (l1 := [_, _]) (l2 := [_, _]) (s1 := ⟨tm.set 39 (.bool true), [], Hi⟩) hext hm ?_ ?_
  rotate_left
  · simp (config := { decide := true }) only [theList_cons, theList_nil, theCode_list, theCode_skip, theCode_if, evalList_plain, evalList_nil, nd_binOp, ok_tmp, opA_bin, contA_val, putT_some, aev_tmp, rd_same, thenA_normal, boolOf_bool, bin_lss, Option.isSome_some, ↓reduceIte, Nat.reduceLT, hl, i37, i38, hil, decide_true]
  refine AWPL.cons (AWP.block (R1 := fun y t => y = .normal ∧ ∃ tm', t = ⟨tm', [], cpH ext q Hi (strE (entV (σ.blocks.getD i [])))⟩ ∧ tm'.length = 60 ∧ tm'.getD 3 undef = .pointer (some ⟨q, 0, none⟩) ∧ tm'.getD 36 undef = bl ∧ tm'.getD 37 undef = .int .i64 σ.blocks.length ∧ tm'.getD 38 undef = .int .i64 (i : Nat)) ?_ (fun s' hs => by cases hs.1) (fun x s' hx hs => ?_))
  · -- the block
    have i3' : (tm.set 39 (.bool true)).getD 3 undef = .pointer (some ⟨q, 0, none⟩) := by simp (config := { decide := true }) only [rd_ne, ne_eq, i3]
    have i36' : (tm.set 39 (.bool true)).getD 36 undef = bl := by simp (config := { decide := true }) only [rd_ne, ne_eq, i36]
    have i37' : (tm.set 39 (.bool true)).getD 37 undef = .int .i64 σ.blocks.length := by simp (config := { decide := true }) only [rd_ne, ne_eq, i37]
    have i38' : (tm.set 39 (.bool true)).getD 38 undef = .int .i64 (i : Nat) := by simp (config := { decide := true }) only [rd_ne, ne_eq, i38]
    have hl' : (tm.set 39 (.bool true)).length = 60 := by rw [List.length_set]; exact hl
    obtain ⟨tmA, htmA⟩ : ∃ t, t = tm.set 39 (.bool true) := ⟨_, rfl⟩
    rw [← htmA] at i3' i36' i37' i38' hl' ⊢
    clear i3 i36 i37 i38 hl htmA
    obtain ⟨tmB, htmB⟩ : ∃ t, t = (((tmA.set 40 (.pointer (some (addA (baseOf bl) (i * 1))))).set 41 (.map (some r))).set 5 (.map (some r))) := ⟨_, rfl⟩
    obtain ⟨tmC, htmC⟩ : ∃ t, t = (tmB.set 42 (.map (some Hi.next))).set 6 (.map (some Hi.next)) := ⟨_, rfl⟩
    refine AWP.seq_run (s1 := ⟨tmB, [], Hi⟩) hext hm ?_ (AWP.seq_run (s1 := ⟨tmC, [], Hi.push (.map [])⟩) hext hm ?_ (AWP.seq (copyMap (m := r) (x := Hi.next) (es := strE (entV (σ.blocks.getD i []))) (und_of Try.underlying56) us9 (by rw [htmC, htmB]; simp only [List.length_set]; omega) ?_ ?_ (by omega) ?_ ?_ (strKeys_entV _) (nodup_entV (huq _ ?_))) (fun s' hs => ?_) (fun x s' hx hs => absurd hs.1 hx)))
    · rw [htmB]
      simp (config := { decide := true }) only [theCode_list, evalList_plain, evalList_nil, nd_assign, nd_load, nd_indexAddr, ok_tmp, opA_assign, opA_load, opA_indexAddr, contA_val, putT_some, aev_tmp, rd_same, List.length_set, valA_some, loadS_ptr, Nat.reduceLT, hl', i36', i38', hix, hv]
    · rw [htmC, htmB]
      simp (config := { decide := true }) only [theCode_list, evalList_plain, evalList_nil, nd_assign, nd_makeMap, ok_tmp, opA_assign, opA_makeMap, contA_val, putT_some, aev_tmp, rd_same, List.length_set, Nat.reduceLT, hl', List.length_set]
    · rw [htmC, htmB]; simp (config := { decide := true }) only [rd_ne, rd_same, List.length_set, hl', ne_eq]
    · rw [htmC, htmB]; simp (config := { decide := true }) only [rd_same, List.length_set, hl']
    · show (Hi.push (.map [])).get r = _
      rw [get_push_old (by omega)]; exact hr2
    · exact get_push_new
    · rw [List.getD_eq_getElem?_getD, List.getElem?_eq_getElem hi]; exact List.getElem_mem _
    · obtain ⟨_, hd, hag, hH⟩ := hs
      obtain ⟨tmD, dfsD, HD⟩ := s'
      dsimp only at hd hag hH
      subst hd; subst hH
      have l2 : tmD.length = 60 := by rw [hag.len, htmC, htmB]; simp only [List.length_set]; exact hl'
      have j3 : tmD.getD 3 undef = .pointer (some ⟨q, 0, none⟩) := by
        rw [hag.at' 3 (by decide), htmC, htmB]; simp (config := { decide := true }) only [rd_ne, ne_eq, i3']
      have j6 : tmD.getD 6 undef = .map (some Hi.next) := by
        rw [hag.at' 6 (by decide), htmC, htmB]; simp (config := { decide := true }) only [rd_same, List.length_set, hl']
      have j36 : tmD.getD 36 undef = bl := by
        rw [hag.at' 36 (by decide), htmC, htmB]; simp (config := { decide := true }) only [rd_ne, ne_eq, i36']
      have j37 : tmD.getD 37 undef = .int .i64 σ.blocks.length := by
        rw [hag.at' 37 (by decide), htmC, htmB]; simp (config := { decide := true }) only [rd_ne, ne_eq, i37']
      have j38 : tmD.getD 38 undef = .int .i64 (i : Nat) := by
        rw [hag.at' 38 (by decide), htmC, htmB]; simp (config := { decide := true }) only [rd_ne, ne_eq, i38']
      obtain ⟨tmE, htmE⟩ : ∃ t, t = ((((tmD.set 53 (.pointer (some ⟨q, 0, none⟩))).set 54 (.pointer (some ⟨q, 0, none⟩))).set 55 (.pointer (some ⟨q, 0, none⟩))).set 56 (.map (some Hi.next))).set 57 (.int .i64 (i + 1 : Nat)) := ⟨_, rfl⟩
      refine AWP.of_code (ext := ext) (x := .normal) (s' := ⟨tmE, [], cpH ext q Hi (strE (entV (σ.blocks.getD i [])))⟩) hext hm ?_ ⟨rfl, tmE, rfl, ?_, ?_, ?_, ?_, ?_⟩
      · rw [htmE]
        simp (config := { decide := true }) only [theCode_list, evalList_plain, evalList_nil, nd_move, nd_nilCheck, nd_fieldAddr, nd_call, ok_tmp, ok_func, opA_move, opA_nilCheck, opA_fieldAddr, opA_call, contA_val, contA_enter, callA_ret, putT_some, aev_tmp, aev_func, rd_same, rd_ne, List.length_set, nilCheckS_ptr, fieldAddrS_eq, callS_func, Option.map_some, ne_eq, Nat.reduceLT, Nat.zero_add, List.map_cons, List.map_nil, List.all_cons, List.all_nil, Bool.and_true, List.nil_append, List.append_nil, l2, j3, j6, off55_0, en31, hcall]
      · rw [htmE]; simp only [List.length_set]; exact l2
      all_goals (rw [htmE]; simp (config := { decide := true }) only [rd_ne, ne_eq, j3, j36, j37, j38])
  · obtain ⟨rfl, tm', rfl, l1, j3, j36, j37, j38⟩ := hs
    refine .inl ⟨rfl, AWPL.run_end (ext := ext) (x := .normal) (s' := ⟨(tm'.set 58 (.int .i64 (i + 1 : Nat))).set 38 (.int .i64 (i + 1 : Nat)), [], cpH ext q Hi (strE (entV (σ.blocks.getD i [])))⟩) hext hm ?_ ⟨rfl, _, rfl, ?_, ?_, ?_, ?_, ?_⟩⟩
    · simp (config := { decide := true }) only [theList_cons, theList_nil, theCode_list, evalList_plain, evalList_nil, nd_move, nd_binOp, ok_tmp, ok_const, cl_int, opA_move, opA_bin, contA_val, putT_some, aev_tmp, aev_const, rd_same, thenA_normal, bin_add, Nat.reduceLT, l1, j38, hw]
    · simp only [List.length_set]; exact l1
    all_goals simp (config := { decide := true }) only [rd_ne, rd_same, List.length_set, l1, ne_eq, j3, j36, j37]


set_option maxHeartbeats 8000000 in
set_option maxRecDepth 100000 in
theorem cp_exit {ext : CallT} {H : AHeap} {n : Nat} {tm : List Value} (hl : tm.length = 60) (i37 : tm.getD 37 undef = .int .i64 n) (i38 : tm.getD 38 undef = .int .i64 n) {c : Code} (hc : (loopsF Try.f22)[0]? = some c) :
    theCode Try.prog ext false c ⟨tm, [], H⟩ = some (.exit 0, ⟨tm.set 39 (.bool false), [], H⟩) := by
  have h0 : (loopsF Try.f22)[0]? = some _ := rfl
  rw [h0] at hc
  obtain rfl := Option.some.inj hc
  have hlt : ¬ (n : Int) < n := by omega
  simp (config := { decide := true }) only [theCode_seq, theCode_list, theCode_exit, theCode_block, theCode_if, evalList_plain, evalList_nil, nd_move, nd_assign, nd_nilCheck, nd_binOp, nd_makeMap, nd_indexAddr, ok_tmp, ok_const, cl_int, opA_move, opA_assign, opA_nilCheck, opA_bin, opA_makeMap, opA_indexAddr, contA_val, putT_some, aev_tmp, aev_const, rd_same, rd_ne, thenA_normal, thenA_exit, boolOf_bool, bin_lss, Option.isSome_some, ne_eq, ↓reduceIte, Nat.reduceLT, Option.some.injEq, hl, i37, i38, hlt, decide_false]

/-- The loop over the blocks. -/
theorem cp_loop {ext : CallT} (hx : ∀ f args H, f ≠ 22 → ext f args H = none) (hext : CallOK Try.prog ext) (hm : Try.prog.follows .mixedOrders = true) {Hs : AHeap} {b q : Nat} {σ : Sc} {bl tl ts tl' ts' : Value} {rs : List Nat} (hS : SAt Hs b σ bl tl ts rs) (hlt : ∀ j, SFoot b bl tl ts rs j → j < Hs.next ∧ j ≠ q) (huq : ∀ m ∈ σ.blocks, (m.map (·.1)).Nodup) (hn : σ.blocks.length < 1000000)
    (hrs : ∀ i, i ≤ σ.blocks.length → ∃ bl' rs', CpR ext Hs (cpS ext q σ.blocks Hs i) q σ tl' ts' i bl' rs')
    {tm : List Value} (hl : tm.length = 60) (i3 : tm.getD 3 undef = .pointer (some ⟨q, 0, none⟩)) (i36 : tm.getD 36 undef = bl) (i37 : tm.getD 37 undef = .int .i64 σ.blocks.length) (i38 : tm.getD 38 undef = .int .i64 (0 : Nat)) {c : Code} (hc : (loopsF Try.f22)[0]? = some c) :
    AWP Try.prog (.block 0 (.loop c)) ⟨tm, [], Hs⟩ fun x t => x = .normal ∧ ∃ tm', t = ⟨tm', [], cpS ext q σ.blocks Hs σ.blocks.length⟩ ∧ tm'.length = 60 ∧ tm'.getD 3 undef = .pointer (some ⟨q, 0, none⟩) := by
  refine AWP.block (R1 := fun x t => x = .exit 0 ∧ ∃ tm', t = ⟨tm', [], cpS ext q σ.blocks Hs σ.blocks.length⟩ ∧ tm'.length = 60 ∧ tm'.getD 3 undef = .pointer (some ⟨q, 0, none⟩)) ?_ (fun s' hs => ⟨rfl, hs.2⟩) (fun x s' hx hs => absurd hs.1 hx)
  refine AWP.loop (fun k s => ∃ i tm, i + k = σ.blocks.length ∧ s = ⟨tm, [], cpS ext q σ.blocks Hs i⟩ ∧ tm.length = 60 ∧ tm.getD 3 undef = .pointer (some ⟨q, 0, none⟩) ∧ tm.getD 36 undef = bl ∧ tm.getD 37 undef = .int .i64 σ.blocks.length ∧ tm.getD 38 undef = .int .i64 (i : Nat)) ?_ σ.blocks.length _ ⟨0, tm, Nat.zero_add _, rfl, hl, i3, i36, i37, i38⟩
  rintro k _ ⟨i, tm, hik, rfl, hl, i3, i36, i37, i38⟩
  cases k with
  | zero =>
    obtain rfl : i = σ.blocks.length := by omega
    exact AWP.of_code (ext := ext) hext hm (cp_exit hl i37 i38 hc) (.inr ⟨by simp, rfl, _, rfl, by rw [List.length_set]; exact hl, by simp (config := { decide := true }) only [rd_ne, ne_eq, i3]⟩)
  | succ k =>
    obtain ⟨bl', rs', h⟩ := hrs i (by omega)
    refine (cp_round hx hext hm hS hlt huq hn h (by omega) hl i3 i36 i37 i38 hc).mono fun x s' hr => ?_
    obtain ⟨rfl, tm', rfl, hf⟩ := hr
    exact .inl ⟨rfl, k, Nat.lt_succ_self _, i + 1, tm', by omega, rfl, hf⟩

theorem cp_rounds {ext : CallT} (hx : ∀ f args H, f ≠ 22 → ext f args H = none) {Hs : AHeap} {q : Nat} {σ : Sc} {tl' ts' : Value} (hf : Hs.Fresh) (hq : SAt Hs q { σ with blocks := [] } (.slice none 0 0) tl' ts' []) (hn : σ.blocks.length < 1000000) :
    ∀ i, i ≤ σ.blocks.length → ∃ bl' rs', CpR ext Hs (cpS ext q σ.blocks Hs i) q σ tl' ts' i bl' rs' := by
  intro i
  induction i with
  | zero => intro _; exact ⟨.slice none 0 0, [], ⟨hq, fun j _ _ => rfl, Nat.le_refl _, hf, ⟨fun j hj => by simp [idOf] at hj, by simp⟩⟩⟩
  | succ i ih =>
    intro hi
    obtain ⟨bl', rs', h⟩ := ih (by omega)
    obtain ⟨bl2, _, h2⟩ := cp_step hx h (by omega) hn
    exact ⟨bl2, _, h2⟩


theorem dropAt {α : Type} {l : List α} {i : Nat} {c : α} (h : l[i]? = some c) : l.drop i = c :: l.drop (i + 1) := by
  obtain ⟨hi, he⟩ := List.getElem?_eq_some_iff.1 h
  rw [List.drop_eq_getElem_cons hi, he]

set_option maxHeartbeats 8000000 in
set_option maxRecDepth 100000 in
theorem cp_end {ext : CallT} {H : AHeap} {q : Nat} {tm : List Value} (hl : tm.length = 60) (i3 : tm.getD 3 undef = .pointer (some ⟨q, 0, none⟩)) :
    theList Try.prog ext false ((seqsF Try.f22).drop 7) ⟨tm, [], H⟩ = some (.ret, ⟨(tm.set 59 (.pointer (some ⟨q, 0, none⟩))).set 2 (.pointer (some ⟨q, 0, none⟩)), [], H⟩) := by
  have hc : (seqsF Try.f22).drop 7 = [_, _] := rfl
  rw [hc]
  simp (config := { decide := true }) only [theList_cons, theCode_list, theCode_ret, evalList_plain, evalList_nil, nd_move, nd_assign, ok_tmp, opA_move, opA_assign, contA_val, putT_some, aev_tmp, rd_same, thenA_normal, thenA_ret, Nat.reduceLT, hl, i3]

theorem copy22 {ext : CallT} (hx : ∀ f args H, f ≠ 22 → ext f args H = none) (hext : CallOK Try.prog ext) (hm : Try.prog.follows .mixedOrders = true) {H : AHeap} (hf : H.Fresh) {b : Nat} {σ : Sc} {F : Nat → Prop} (h : ScopeAt H b σ F) (huq : ∀ m ∈ σ.blocks, (m.map (·.1)).Nodup)
    (hn : σ.blocks.length < 1000000) (ht : σ.turns.length < 1000000) (hy : σ.types.length < 1000000) :
    ∃ H' q F', extOK Try.prog 22 [.pointer (some ⟨b, 0, none⟩)] H (.ret (.pointer (some ⟨q, 0, none⟩)), H') ∧ ScopeAt H' q σ F' ∧ Grown H H' ∧ (∀ j, F' j → H.next ≤ j) := by
  obtain ⟨bl, tl, ts, rs, h, rfl⟩ := h
  obtain ⟨ts', Hc, a1, o1, g1, n1⟩ := clone30 (ext := ext) hx hf h.oy (by rw [List.all_map, List.all_eq_true]; intro t _; simp [tyC, fl_int]) hy
  obtain ⟨ta, tn, tc, rfl⟩ : ∃ a n c, ts' = .slice a n c := own_form o1
  obtain ⟨q, hq⟩ : ∃ q, q = Hc.next := ⟨_, rfl⟩
  obtain ⟨Hb, hHb⟩ : ∃ X, X = Hc.push (.box [.slice none 0 0, .slice none 0 0, (.slice ta tn tc), .int .i64 σ.next] 55) := ⟨_, rfl⟩
  have g2 : Grown Hc Hb := by rw [hHb]; exact Grown.push g1.fresh _
  have g12 := g1.trans g2
  have hbb : Hb.get b = some (.box [bl, tl, ts, .int .i64 σ.next] 55) := (h.grown hf g12).box
  have hqb : Hb.get q = some (.box [.slice none 0 0, .slice none 0 0, (.slice ta tn tc), .int .i64 σ.next] 55) := by rw [hHb, hq]; exact get_push_new
  have hblt : b < H.next := get_lt hf h.box
  have hHq : H.next ≤ q := by rw [hq]; exact g1.next
  have hqlt : q < Hb.next := get_lt g12.fresh hqb
  obtain ⟨tl', Hd, a2, o2, g3, n2⟩ := clone36 (ext := ext) hx g12.fresh (h.grown hf g12).ot (by
    rw [List.all_eq_true]
    intro v hv
    obtain ⟨t, _, hv⟩ := List.mem_flatMap.1 hv
    simp only [trnC, List.mem_cons, List.not_mem_nil, or_false] at hv
    rcases hv with rfl | rfl | rfl <;> rfl) ht
  have hqd : Hd.get q = some (.box [.slice none 0 0, .slice none 0 0, (.slice ta tn tc), .int .i64 σ.next] 55) := by rw [g3.get q hqlt]; exact hqb
  obtain ⟨He, hHe⟩ : ∃ X, X = Hd.set q (.box [.slice none 0 0, tl', (.slice ta tn tc), .int .i64 σ.next] 55) := ⟨_, rfl⟩
  have hee : ∀ j, j ≠ q → He.get j = Hd.get j := fun j hj => by rw [hHe]; exact get_set_ne hj
  have hne : He.next = Hd.next := by rw [hHe]; rfl
  have hfe : He.Fresh := by rw [hHe]; exact (AHeap.le_set hqd).fresh g3.fresh
  have hget : ∀ j, j < H.next → He.get j = H.get j := fun j hj => by
    rw [hee j (by omega), g3.get j (Nat.lt_of_lt_of_le hj g12.next), g12.get j hj]
  have hSe : SAt He b σ bl tl ts rs := h.keep fun j hj => hget j (h.lt hf hj)
  have hSq : SAt He q { σ with blocks := [] } (.slice none 0 0) tl' (.slice ta tn tc) [] := by
    refine ⟨by rw [hHe]; exact get_set_same, .nil, o2.mono fun j hj => hee j (fun e => by have := n2 j hj; omega), ?_, fun i hi => by simp at hi, by simp⟩
    have o1b : Own Hd 3 1 (.slice ta tn tc) σ.types.length (σ.types.map tyC) := (g2.trans g3).own g1.fresh o1
    exact o1b.mono fun j hj => hee j (fun e => by have := o1.id_lt g1.fresh j hj; omega)
  have hlt : ∀ j, SFoot b bl tl ts rs j → j < He.next ∧ j ≠ q := fun j hj => by
    have h1 := h.lt hf hj
    have h2 := g12.next
    have h3 := g3.next
    exact ⟨by omega, by omega⟩
  have hrs := cp_rounds (ext := ext) (σ := σ) hx hfe hSq hn
  obtain ⟨bl', rs', hfin⟩ := hrs σ.blocks.length (Nat.le_refl _)
  obtain ⟨Hn, hHn⟩ : ∃ X, X = cpS ext q σ.blocks He σ.blocks.length := ⟨_, rfl⟩
  rw [← hHn] at hfin
  have hat : SAt Hn q σ bl' tl' (.slice ta tn tc) rs' := by
    have := hfin.at'
    rw [List.take_length] at this
    exact this
  have hHe2 : H.next ≤ He.next := by have := g12.next; have := g3.next; omega
  have hg : Grown H Hn := ⟨fun j hj => by rw [hfin.grown j (by omega) (by omega)]; exact hget j hj, Nat.le_trans hHe2 hfin.next, hfin.fresh⟩
  refine ⟨Hn, q, _, ?_, ⟨bl', tl', .slice ta tn tc, rs', hat, rfl⟩, hg, ?_⟩
  · obtain ⟨c3, p3⟩ : ∃ c, (seqsF Try.f22)[3]? = some c := ⟨_, rfl⟩
    obtain ⟨c0, p6, p0⟩ : ∃ c, (seqsF Try.f22)[6]? = some (.block 0 (.loop c)) ∧ (loopsF Try.f22)[0]? = some c := ⟨_, rfl, rfl⟩
    refine AWP.call (fn := Try.f22) Try.func22 rfl ⟨hg.next, fun _ => hg.fresh⟩ (AWP.of_list ?_)
    show AWPL Try.prog (seqsF Try.f22) _ _
    have e : (seqsF Try.f22).take 3 ++ (c3 :: (((seqsF Try.f22).drop 4).take 2 ++ (.block 0 (.loop c0) :: (seqsF Try.f22).drop 7))) = seqsF Try.f22 := by
      rw [← dropAt p6, show (seqsF Try.f22).drop 6 = ((seqsF Try.f22).drop 4).drop 2 by rw [List.drop_drop], List.take_append_drop, ← dropAt p3, List.take_append_drop]
    obtain ⟨tm0, l0, i0, e0⟩ : ∃ tm : List Value, tm.length = 60 ∧ tm.getD 0 undef = .pointer (some ⟨b, 0, none⟩) ∧ enterA Try.f22 [.pointer (some ⟨b, 0, none⟩)] H = ⟨tm, [], H⟩ := ⟨_, rfl, rfl, rfl⟩
    rw [e0, ← e]
    obtain ⟨tm1, e1, l1, i1⟩ := cp_a (ext := ext) (H := H) l0 i0
    refine AWPL.run hext hm ?_ e1
    obtain ⟨tm2, e2, l2, i2, j2⟩ := cp_r3 (ext := ext) hf h.box a1 g1 l1 i1 p3
    rw [← hHb] at e2
    rw [← hq] at j2
    refine AWPL.cons (AWP.of_code hext hm e2 (.inl ⟨rfl, ?_⟩))
    obtain ⟨tm3, e3, l3, i3, i36, i37, i38⟩ := cp_b (ext := ext) g12.fresh hbb hqb (by omega) a2 g3 o2.flat o2.vcells (fun H2 => h.ob.lenS isl48 H2) l2 i2 j2
    rw [← hHe] at e3
    refine AWPL.run hext hm ?_ e3
    refine AWPL.cons ((cp_loop hx hext hm hSe hlt huq hn hrs l3 i3 i36 i37 i38 p0).mono fun x s' hr => ?_)
    obtain ⟨rfl, tm4, rfl, l4, i4⟩ := hr
    rw [← hHn]
    refine .inl ⟨rfl, AWPL.run_end hext hm (cp_end l4 i4) ⟨.inr rfl, rfl, rfl, [.pointer (some ⟨q, 0, none⟩)], ?_, rfl⟩⟩
    show resultsA Try.prog Hn ((tm4.set 59 (.pointer (some ⟨q, 0, none⟩))).set 2 (.pointer (some ⟨q, 0, none⟩))) [.tmp 2] = _
    simp (config := { decide := true }) only [rd_same, List.length_set, resA_tmp, resA_nil, Option.map_some, Nat.reduceLT, l4]
  · rintro j (rfl | e | e | e | e)
    · exact hHq
    · exact Nat.le_trans hHe2 (hfin.newb.1 j e)
    · have := n2 j e; have := g12.next; omega
    · exact n1 j e
    · exact Nat.le_trans hHe2 (hfin.newb.2 j e)

end Go.Proofs.Ytnjoaffnfjlcaaa
