/-
  A deterministic abstract machine over the model's own operations: values, heap, what relates them to a world. No program in sight.
-/
import Derived.WalkKit
namespace Go.Proofs.Ytnjoaffnfjlcaaa
namespace B
open Go

/-! ### Closed values: no address within -/
mutual
def closedV : Value → Bool
  | .bool _ | .int _ _ | .float _ _ | .complex _ _ _ | .string _ | .pointer none | .map none | .chan none | .nilFunc | .nilIface => true
  | .slice none n c => n == 0 && c == 0
  | .iface _ v => closedV v
  | .agg cs => closedA cs
  | .tuple cs => closedA cs
  | .func (.func _) f c => closedA f && closedA c
  | _ => false
def closedA : Array Value → Bool
  | ⟨l⟩ => closedL l
def closedL : List Value → Bool
  | [] => true
  | v :: vs => closedV v && closedL vs
end

/-- A value that fills one cell. -/
def flatV : Value → Bool
  | .agg _ | .tuple _ => false
  | _ => true

/-! ### Where abstract things lie -/
structure Emb where
  row : Nat → Nat → Option (Nat × Nat)
  map : Nat → Option Nat
  loop : Nat → Option Nat
  bsz : Nat → Nat
  bes : Nat → Nat
  live : Nat → Bool     -- abstract things that a value may name
  nx : Nat

structure Emb.le (β γ : Emb) : Prop where
  row : ∀ i k p, β.row i k = some p → γ.row i k = some p
  map : ∀ i b, β.map i = some b → γ.map i = some b
  loop : ∀ i b, β.loop i = some b → γ.loop i = some b
  bsz : ∀ i k b o, β.row i k = some (b, o) → γ.bsz b = β.bsz b
  bes : ∀ i k b o, β.row i k = some (b, o) → γ.bes b = β.bes b
  live : ∀ i, β.live i = true → γ.live i = true
  new : ∀ i, γ.live i = true → β.live i = true ∨ β.nx ≤ i
  nx : β.nx ≤ γ.nx

theorem Emb.le.refl (β : Emb) : Emb.le β β := ⟨fun _ _ _ h => h, fun _ _ h => h, fun _ _ h => h, fun _ _ _ _ _ => rfl, fun _ _ _ _ _ => rfl, fun _ h => h, fun _ h => .inl h, Nat.le_refl _⟩
theorem Emb.le.trans {α β γ : Emb} (h : Emb.le α β) (g : Emb.le β γ) : Emb.le α γ :=
  ⟨fun i k p e => g.row _ _ _ (h.row _ _ _ e), fun i b e => g.map _ _ (h.map _ _ e), fun i b e => g.loop _ _ (h.loop _ _ e),
   fun i k b o e => (g.bsz _ _ _ _ (h.row _ _ _ e)).trans (h.bsz _ _ _ _ e), fun i k b o e => (g.bes _ _ _ _ (h.row _ _ _ e)).trans (h.bes _ _ _ _ e), fun i e => g.live i (h.live i e),
   fun i e => (g.new i e).elim (fun e' => h.new i e') (fun e' => .inr (Nat.le_trans h.nx e')), Nat.le_trans h.nx g.nx⟩

/-- The same, but that what was kept back may be given a block. -/
structure Emb.leU (β γ : Emb) : Prop where
  row : ∀ i k p, β.row i k = some p → γ.row i k = some p
  map : ∀ i b, β.map i = some b → γ.map i = some b
  loop : ∀ i b, β.loop i = some b → γ.loop i = some b
  bsz : ∀ i k b o, β.row i k = some (b, o) → γ.bsz b = β.bsz b
  bes : ∀ i k b o, β.row i k = some (b, o) → γ.bes b = β.bes b
  live : ∀ i, β.live i = true → γ.live i = true

theorem Emb.le.u {β γ : Emb} (h : Emb.le β γ) : Emb.leU β γ := ⟨h.row, h.map, h.loop, h.bsz, h.bes, h.live⟩
theorem Emb.leU.refl (β : Emb) : Emb.leU β β := (Emb.le.refl β).u
theorem Emb.leU.trans {α β γ : Emb} (h : Emb.leU α β) (g : Emb.leU β γ) : Emb.leU α γ :=
  ⟨fun i k p e => g.row _ _ _ (h.row _ _ _ e), fun i b e => g.map _ _ (h.map _ _ e), fun i b e => g.loop _ _ (h.loop _ _ e),
   fun i k b o e => (g.bsz _ _ _ _ (h.row _ _ _ e)).trans (h.bsz _ _ _ _ e), fun i k b o e => (g.bes _ _ _ _ (h.row _ _ _ e)).trans (h.bes _ _ _ _ e), fun i e => g.live i (h.live i e)⟩

def agen (a : Addr) : Nat := a.spot.getD 0
def addA (a : Addr) (n : Nat) : Addr := ⟨a.block, a.off + n, a.spot⟩

def ARel (β : Emb) (a c : Addr) : Prop := ∃ b o, β.row a.block (agen a) = some (b, o) ∧ c = ⟨b, o + a.off, none⟩

theorem ARel.monoU {β γ : Emb} {a c : Addr} (h : ARel β a c) (g : Emb.leU β γ) : ARel γ a c := by
  obtain ⟨b, o, hr, hc⟩ := h
  exact ⟨b, o, g.row _ _ _ hr, hc⟩

theorem ARel.add {β : Emb} {a c : Addr} (h : ARel β a c) (n : Nat) : ARel β (addA a n) (c.add n) := by
  obtain ⟨b, o, hr, rfl⟩ := h
  refine ⟨b, o, hr, ?_⟩
  unfold Addr.add addA
  by_cases hn : n = 0
  · simp [hn]
  · simp [hn, Nat.add_assoc]

mutual
inductive VRel (β : Emb) : Value → Value → Prop
  | closed {v : Value} (h : closedV v = true) : VRel β v v
  | pointer {a c : Addr} (h : ARel β a c) : VRel β (.pointer (some a)) (.pointer (some c))
  | slice {a c : Addr} {len cap cap' : Nat} (h : ARel β a c) (hl : len ≤ cap) (hc : cap ≤ cap') (hs : 0 < β.bes c.block → c.off + cap' * β.bes c.block ≤ β.bsz c.block) :
      VRel β (.slice (some a) len cap) (.slice (some c) len cap')
  | sliceZ {a c : Addr} (h : β.live a.block = true) : VRel β (.slice (some a) 0 0) (.slice (some c) 0 0)
  | map {r b : Nat} (h : β.map r = some b) : VRel β (.map (some r)) (.map (some b))
  | func {f : FuncId} {x x' y y' : Array Value} (h : VRels β x.toList x'.toList) (g : VRels β y.toList y'.toList) : VRel β (.func (.func f) x y) (.func (.func f) x' y')
  | yield {l l' : Nat} (h : β.loop l = some l') : VRel β (.func (.yield l) #[] #[]) (.func (.yield l') #[] #[])
  | iface {t : TypeId} {v v' : Value} (h : VRel β v v') : VRel β (.iface t v) (.iface t v')
  | agg {x x' : Array Value} (h : VRels β x.toList x'.toList) : VRel β (.agg x) (.agg x')
  | tuple {x x' : Array Value} (h : VRels β x.toList x'.toList) : VRel β (.tuple x) (.tuple x')
inductive VRels (β : Emb) : List Value → List Value → Prop
  | nil : VRels β [] []
  | cons {v v' : Value} {l l' : List Value} (h : VRel β v v') (g : VRels β l l') : VRels β (v :: l) (v' :: l')
end

mutual
theorem VRel.monoU {β γ : Emb} (le : Emb.leU β γ) : ∀ {v w : Value}, VRel β v w → VRel γ v w
  | _, _, .closed h => .closed h
  | _, _, .pointer h => .pointer (h.monoU le)
  | _, _, .slice (c := c) h hl hc hs => by
      have h' := h
      obtain ⟨b, o, hr, rfl⟩ := h'
      exact .slice (h.monoU le) hl hc (by rw [le.bes _ _ _ _ hr, le.bsz _ _ _ _ hr]; exact hs)
  | _, _, .sliceZ h => .sliceZ (le.live _ h)
  | _, _, .map h => .map (le.map _ _ h)
  | _, _, .func h g => .func (VRels.monoU le h) (VRels.monoU le g)
  | _, _, .yield h => .yield (le.loop _ _ h)
  | _, _, .iface h => .iface (VRel.monoU le h)
  | _, _, .agg h => .agg (VRels.monoU le h)
  | _, _, .tuple h => .tuple (VRels.monoU le h)
theorem VRels.monoU {β γ : Emb} (le : Emb.leU β γ) : ∀ {v w : List Value}, VRels β v w → VRels γ v w
  | _, _, .nil => .nil
  | _, _, .cons h g => .cons (VRel.monoU le h) (VRels.monoU le g)
end

theorem ARel.mono {β γ : Emb} {a c : Addr} (h : ARel β a c) (g : Emb.le β γ) : ARel γ a c := h.monoU g.u
theorem VRel.mono {β γ : Emb} (le : Emb.le β γ) {v w : Value} (h : VRel β v w) : VRel γ v w := VRel.monoU le.u h
theorem VRels.mono {β γ : Emb} (le : Emb.le β γ) {v w : List Value} (h : VRels β v w) : VRels γ v w := VRels.monoU le.u h

theorem VRels.closed {β : Emb} : ∀ {l : List Value}, closedL l = true → VRels β l l
  | [], _ => .nil
  | v :: l, h => by
    rw [closedL, Bool.and_eq_true] at h
    exact .cons (.closed h.1) (VRels.closed h.2)

theorem closedA_toList (x : Array Value) : closedA x = closedL x.toList := by cases x; rw [closedA]

mutual
theorem VRel.eq_of_closed {β : Emb} : ∀ {v w : Value}, VRel β v w → closedV v = true → w = v
  | _, _, .closed _, _ => rfl
  | _, _, .pointer _, hc => by simp [closedV] at hc
  | _, _, .slice .., hc => by simp [closedV] at hc
  | _, _, .sliceZ _, hc => by simp [closedV] at hc
  | _, _, .map _, hc => by simp [closedV] at hc
  | _, _, .func (x := x) (x' := x') (y := y) (y' := y') h g, hc => by
      rw [closedV, Bool.and_eq_true, closedA_toList, closedA_toList] at hc
      have h1 := VRels.eq_of_closed h hc.1
      have h2 := VRels.eq_of_closed g hc.2
      rw [Array.toList_inj.1 h1, Array.toList_inj.1 h2]
  | _, _, .yield _, hc => by simp [closedV] at hc
  | _, _, .iface h, hc => by rw [closedV] at hc; rw [VRel.eq_of_closed h hc]
  | _, _, .agg h, hc => by rw [closedV, closedA_toList] at hc; rw [Array.toList_inj.1 (VRels.eq_of_closed h hc)]
  | _, _, .tuple h, hc => by rw [closedV, closedA_toList] at hc; rw [Array.toList_inj.1 (VRels.eq_of_closed h hc)]
theorem VRels.eq_of_closed {β : Emb} : ∀ {v w : List Value}, VRels β v w → closedL v = true → w = v
  | _, _, .nil, _ => rfl
  | _, _, .cons h g, hc => by
      rw [closedL, Bool.and_eq_true] at hc
      rw [VRel.eq_of_closed h hc.1, VRels.eq_of_closed g hc.2]
end

theorem VRels.length {β : Emb} : ∀ {l l' : List Value}, VRels β l l' → l'.length = l.length
  | _, _, .nil => rfl
  | _, _, .cons _ g => by simp [VRels.length g]

theorem VRels.get {β : Emb} : ∀ {l l' : List Value}, VRels β l l' → ∀ {j : Nat} {v : Value}, l[j]? = some v → ∃ v', l'[j]? = some v' ∧ VRel β v v'
  | _, _, .nil, j, v, h => by simp at h
  | _, _, .cons (v' := v') h g, j, v, hj => by
    cases j with
    | zero => simp at hj; subst hj; exact ⟨v', by simp, h⟩
    | succ j => simp only [List.getElem?_cons_succ] at hj ⊢; exact VRels.get g hj

theorem VRels.append {β : Emb} : ∀ {l l' : List Value} {m m' : List Value}, VRels β l l' → VRels β m m' → VRels β (l ++ m) (l' ++ m')
  | _, _, _, _, .nil, h => h
  | _, _, _, _, .cons h g, k => .cons h (VRels.append g k)

theorem VRels.take {β : Emb} (n : Nat) : ∀ {l l' : List Value}, VRels β l l' → VRels β (l.take n) (l'.take n) := by
  induction n with
  | zero => intros; simp; exact .nil
  | succ n ih => intro l l' h; cases h with
    | nil => simp; exact .nil
    | cons h g => simp; exact .cons h (ih g)

theorem VRels.drop {β : Emb} (n : Nat) : ∀ {l l' : List Value}, VRels β l l' → VRels β (l.drop n) (l'.drop n) := by
  induction n with
  | zero => intro l l' h; simpa using h
  | succ n ih => intro l l' h; cases h with
    | nil => simp; exact .nil
    | cons h g => simp; exact ih g

theorem VRels.set {β : Emb} : ∀ {l l' : List Value}, VRels β l l' → ∀ (j : Nat) {v v' : Value}, VRel β v v' → VRels β (l.set j v) (l'.set j v')
  | _, _, .nil, _, _, _, _ => .nil
  | _, _, .cons h g, 0, _, _, k => .cons k g
  | _, _, .cons h g, j + 1, _, _, k => .cons h (VRels.set g j k)

theorem VRels.of_get {β : Emb} : ∀ {l l' : List Value}, l'.length = l.length → (∀ (j : Nat) (v : Value), l[j]? = some v → ∃ v', l'[j]? = some v' ∧ VRel β v v') → VRels β l l'
  | [], [], _, _ => .nil
  | v :: l, v' :: l', hl, h => by
    obtain ⟨u, hu, hv⟩ := h 0 v (by simp)
    simp at hu; subst hu
    exact .cons hv (VRels.of_get (by simpa using hl) fun j x hx => h (j + 1) x (by simpa using hx))
  | [], _ :: _, hl, _ => by simp at hl
  | _ :: _, [], hl, _ => by simp at hl

theorem VRels.replicate {β : Emb} {v v' : Value} (h : VRel β v v') : ∀ n, VRels β (List.replicate n v) (List.replicate n v')
  | 0 => .nil
  | n + 1 => .cons h (VRels.replicate h n)

/-- What a value's head says of the other's. -/
theorem VRel.flat {β : Emb} {v w : Value} (h : VRel β v w) : flatV w = flatV v := by cases h <;> rfl

theorem VRel.cells {β : Emb} {v w : Value} (h : VRel β v w) : VRels β v.cells.toList w.cells.toList := by
  cases h with
  | closed hc =>
    cases v with
    | agg cs => simp only [Value.cells]; rw [closedV, closedA_toList] at hc; exact VRels.closed hc
    | _ => simp only [Value.cells]; exact .cons (.closed hc) .nil
  | agg h => exact h
  | tuple h => exact .cons (.tuple h) .nil
  | pointer h => exact .cons (.pointer h) .nil
  | slice h a b c => exact .cons (.slice h a b c) .nil
  | sliceZ h => exact .cons (.sliceZ h) .nil
  | map h => exact .cons (.map h) .nil
  | func h g => exact .cons (.func h g) .nil
  | yield h => exact .cons (.yield h) .nil
  | iface h => exact .cons (.iface h) .nil

section inv
variable {β : Emb} {w : Value}
theorem VRel.inv_int {k : IntKind} {n : Int} (h : VRel β (.int k n) w) : w = .int k n := VRel.eq_of_closed h rfl
theorem VRel.inv_bool {b : Bool} (h : VRel β (.bool b) w) : w = .bool b := VRel.eq_of_closed h rfl
theorem VRel.inv_string {s : ByteArray} (h : VRel β (.string s) w) : w = .string s := VRel.eq_of_closed h rfl
theorem VRel.inv_nil {a : Option Addr} (h : VRel β (.pointer a) w) : ∃ c, w = .pointer c ∧ c.isNone = a.isNone ∧ ∀ a', a = some a' → ∃ c', c = some c' ∧ ARel β a' c' := by
  cases h with
  | closed hc => cases a with
    | none => exact ⟨none, rfl, rfl, by simp⟩
    | some a => simp [closedV] at hc
  | pointer h => exact ⟨_, rfl, rfl, fun a' e => by cases e; exact ⟨_, rfl, h⟩⟩
theorem VRel.inv_pointer {a : Addr} (h : VRel β (.pointer (some a)) w) : ∃ c, w = .pointer (some c) ∧ ARel β a c := by
  cases h with
  | closed hc => simp [closedV] at hc
  | pointer h => exact ⟨_, rfl, h⟩
theorem VRel.inv_agg {x : Array Value} (h : VRel β (.agg x) w) : ∃ x', w = .agg x' ∧ VRels β x.toList x'.toList := by
  cases h with
  | closed hc => rw [closedV, closedA_toList] at hc; exact ⟨_, rfl, VRels.closed hc⟩
  | agg h => exact ⟨_, rfl, h⟩
theorem VRel.inv_tuple {x : Array Value} (h : VRel β (.tuple x) w) : ∃ x', w = .tuple x' ∧ VRels β x.toList x'.toList := by
  cases h with
  | closed hc => rw [closedV, closedA_toList] at hc; exact ⟨_, rfl, VRels.closed hc⟩
  | tuple h => exact ⟨_, rfl, h⟩
theorem VRel.inv_iface {t : TypeId} {v : Value} (h : VRel β (.iface t v) w) : ∃ v', w = .iface t v' ∧ VRel β v v' := by
  cases h with
  | closed hc => rw [closedV] at hc; exact ⟨_, rfl, .closed hc⟩
  | iface h => exact ⟨_, rfl, h⟩
theorem VRel.inv_func {f : FuncId} {x y : Array Value} (h : VRel β (.func (.func f) x y) w) : ∃ x' y', w = .func (.func f) x' y' ∧ VRels β x.toList x'.toList ∧ VRels β y.toList y'.toList := by
  cases h with
  | closed hc => rw [closedV, Bool.and_eq_true, closedA_toList, closedA_toList] at hc; exact ⟨_, _, rfl, VRels.closed hc.1, VRels.closed hc.2⟩
  | func h g => exact ⟨_, _, rfl, h, g⟩
theorem VRel.inv_map {r : Nat} (h : VRel β (.map (some r)) w) : ∃ b, w = .map (some b) ∧ β.map r = some b := by
  cases h with
  | closed hc => simp [closedV] at hc
  | map h => exact ⟨_, rfl, h⟩
theorem VRel.inv_slice {a : Addr} {n c : Nat} (h : VRel β (.slice (some a) n c) w) : ∃ d c', w = .slice (some d) n c' ∧
    ((ARel β a d ∧ n ≤ c ∧ c ≤ c' ∧ (0 < β.bes d.block → d.off + c' * β.bes d.block ≤ β.bsz d.block)) ∨ (n = 0 ∧ c = 0 ∧ c' = 0 ∧ β.live a.block = true)) := by
  cases h with
  | closed hc => simp [closedV] at hc
  | slice h a b c => exact ⟨_, _, rfl, .inl ⟨h, a, b, c⟩⟩
  | sliceZ h => exact ⟨_, _, rfl, .inr ⟨rfl, rfl, rfl, h⟩⟩
end inv

end B
end Go.Proofs.Ytnjoaffnfjlcaaa
