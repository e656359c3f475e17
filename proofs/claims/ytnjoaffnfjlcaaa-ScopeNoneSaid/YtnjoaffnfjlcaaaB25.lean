/-
  The operations' equations.
-/
import Derived.Test.YtnjoaffnfjlcaaaB24
namespace Go.Proofs.Ytnjoaffnfjlcaaa
namespace B
open Go

def valA (H : AHeap) : Option Value → Option ARes
  | some v => some (.val v H)
  | none => none
def skipA : Option AHeap → Option ARes
  | some H => some (.skip H)
  | none => none
theorem valA_some {H : AHeap} {v : Value} : valA H (some v) = some (.val v H) := rfl
theorem skipA_some {H : AHeap} : skipA (some H) = some (.skip H) := rfl

theorem pureRun_pure {α : Type} {P : Program} {a : α} : pureRun P (pure a : Sem α) = some a := rfl
theorem pureRun_seq {α γ : Type} {P : Program} : ∀ {s : Sem α} {f : α → Sem γ} {a : α}, pureRun P s = some a → pureRun P (s >>= f) = pureRun P (f a)
  | .pure a, f, c, h => by simp only [pureRun, Option.some.injEq] at h; subst h; rfl
  | .program k, f, c, h => pureRun_seq (s := k P) (f := f) h
  | .mark m k, f, c, h => pureRun_seq (s := k) (f := f) h
  | .load .., _, _, h => by simp [pureRun] at h
  | .store .., _, _, h => by simp [pureRun] at h
  | .new .., _, _, h => by simp [pureRun] at h
  | .shape .., _, _, h => by simp [pureRun] at h
  | .freeze .., _, _, h => by simp [pureRun] at h
  | .frozen .., _, _, h => by simp [pureRun] at h
  | .getObj .., _, _, h => by simp [pureRun] at h
  | .setObj .., _, _, h => by simp [pureRun] at h
  | .choose .., _, _, h => by simp [pureRun] at h
  | .sys .., _, _, h => by simp [pureRun] at h
  | .halt _, _, _, h => by simp [pureRun] at h

theorem pureRun_value {P : Program} {s : Sem Value} {v : Value} (h : pureRun P s = some v) : pureRun P (do pure (Next.value (← s)) : Sem Next) = some (.value v) := by
  rw [pureRun_seq h]; rfl

section
variable {P : Program} {H : AHeap} {ρ : Operand → Value} {ty : TypeId}

theorem ev_of {op : Op} (h1 : ∀ c, op ≠ .call c) (h2 : ∀ t m k ok, op ≠ .lookup t m k ok) (h3 : ∀ t m k v, op ≠ .mapUpdate t m k v) (h4 : ∀ t m k v, op ≠ .insert t m k v) :
    opA P H ρ op ty = evalOp P H ρ ⟨none, op, ty, "", #[], none⟩ := by
  unfold opA evalAny
  cases op <;> first | rfl | exact absurd rfl (h1 _) | exact absurd rfl (h2 _ _ _ _) | exact absurd rfl (h3 _ _ _ _) | exact absurd rfl (h4 _ _ _ _)

theorem opA_move {x : Operand} (hx : operandOk x = true) : opA P H ρ (.move x) ty = some (.val (ρ x) H) := by
  rw [ev_of (by simp) (by simp) (by simp) (by simp)]; unfold evalOp; simp [Op.operands, hx]
theorem opA_assign {x : Operand} (hx : operandOk x = true) : opA P H ρ (.assign x) ty = some (.val (ρ x) H) := by
  rw [ev_of (by simp) (by simp) (by simp) (by simp)]; unfold evalOp; simp [Op.operands, hx]
theorem opA_pick {c a b : Operand} (hc : operandOk c = true) (ha : operandOk a = true) (hb : operandOk b = true) (hv : (boolOf (ρ c)).isSome = true) :
    opA P H ρ (.pick c a b) ty = if boolOf (ρ c) = some true then some (.val (ρ a) H) else some (.val (ρ b) H) := by
  rw [ev_of (by simp) (by simp) (by simp) (by simp)]; unfold evalOp; simp only [Op.operands]
  simp [hc, ha, hb]
  cases h : ρ c <;> rw [h] at hv <;> simp_all [boolOf]
  rename_i b2; cases b2 <;> simp

def loadS (P : Program) (H : AHeap) (t : TypeId) : Value → Option ARes
  | .pointer (some a) => valA H (H.loadV P t a)
  | _ => none
theorem opA_load {t : TypeId} {x : Operand} (hx : operandOk x = true) : opA P H ρ (.load t x) ty = loadS P H t (ρ x) := by
  rw [ev_of (by simp) (by simp) (by simp) (by simp)]; unfold evalOp; simp [Op.operands, hx, loadS]
  cases ρ x <;> try rfl
theorem loadS_ptr {t : TypeId} {a : Addr} : loadS P H t (.pointer (some a)) = valA H (H.loadV P t a) := rfl

def storeS (P : Program) (H : AHeap) (t : TypeId) (v : Value) : Value → Option ARes
  | .pointer (some a) => skipA (H.storeV P t a v)
  | _ => none
theorem opA_store {t : TypeId} {x y : Operand} (hx : operandOk x = true) (hy : operandOk y = true) : opA P H ρ (.store t x y) ty = storeS P H t (ρ y) (ρ x) := by
  rw [ev_of (by simp) (by simp) (by simp) (by simp)]; unfold evalOp; simp [Op.operands, hx, hy, storeS]
  cases ρ x <;> try rfl
theorem storeS_ptr {t : TypeId} {a : Addr} {v : Value} : storeS P H t v (.pointer (some a)) = skipA (H.storeV P t a v) := rfl

def nilCheckS (H : AHeap) : Value → Option ARes
  | .pointer (some a) => some (.val (.pointer (some a)) H)
  | .func (.func f) u v => some (.val (.func (.func f) u v) H)
  | _ => none
theorem opA_nilCheck {x : Operand} (hx : operandOk x = true) : opA P H ρ (.nilCheck x) ty = nilCheckS H (ρ x) := by
  rw [ev_of (by simp) (by simp) (by simp) (by simp)]; unfold evalOp; simp [Op.operands, hx, nilCheckS]
  cases ρ x <;> try rfl
theorem nilCheckS_ptr {a : Addr} : nilCheckS H (.pointer (some a)) = some (.val (.pointer (some a)) H) := rfl
theorem nilCheckS_func {f : FuncId} {u v : Array Value} : nilCheckS H (.func (.func f) u v) = some (.val (.func (.func f) u v) H) := rfl

def fieldAddrS (P : Program) (H : AHeap) (s : TypeId) (f : Nat) : Value → Option ARes
  | .pointer (some a) => match P.underlying s with
    | some (.struct fields) => match fields[f]? with
      | some fd => match P.info? fd.type with
        | some i => if i.size = 0 then none else some (.val (.pointer (some (addA a fd.offset))) H)
        | none => none
      | none => none
    | _ => none
  | _ => none
theorem opA_fieldAddr {s : TypeId} {x : Operand} {f : Nat} (hx : operandOk x = true) : opA P H ρ (.fieldAddr s x f) ty = fieldAddrS P H s f (ρ x) := by
  rw [ev_of (by simp) (by simp) (by simp) (by simp)]; unfold evalOp; simp [Op.operands, hx, fieldAddrS]
  cases h : P.underlying s with
  | none => cases ρ x <;> try rfl
            rename_i a; cases a <;> rfl
  | some d => cases d <;> cases ρ x <;> try rfl
              all_goals (rename_i a; cases a <;> rfl)

def extractS (H : AHeap) (ix : Nat) : Value → Option ARes
  | .tuple vs => valA H vs[ix]?
  | _ => none
theorem opA_extract {x : Operand} {ix : Nat} (hx : operandOk x = true) : opA P H ρ (.extract x ix) ty = extractS H ix (ρ x) := by
  rw [ev_of (by simp) (by simp) (by simp) (by simp)]; unfold evalOp; simp [Op.operands, hx, extractS]
  cases ρ x <;> try rfl
theorem extractS_tuple {ix : Nat} {vs : Array Value} : extractS H ix (.tuple vs) = valA H vs[ix]? := rfl

/-! ### Two operands -/
def binC (P : Program) (op : BinOp) (t : TypeId) (x y : Operand) (v w : Value) : Option Value :=
  if closedV v && closedV w then match pureRun P (do eqGuard op t x y v w; binOp op t v w) with
    | some r => if closedV r then some r else none
    | none => none
  else none

def binS (P : Program) (H : AHeap) (op : BinOp) (t : TypeId) (x y : Operand) (v w : Value) : Option ARes :=
  match binC P op t x y v w with
  | some r => some (.val r H)
  | none => match P.underlying t with
    | some d => match nilEq d v w with
      | some b => match op with
        | .eql => some (.val (.bool b) H)
        | .neq => some (.val (.bool (!b)) H)
        | _ => none
      | none => none
    | none => none

theorem pureRun_map {s : Sem Value} : pureRun P (do pure (Next.value (← s)) : Sem Next) = (pureRun P s).map .value := by
  cases h : pureRun P s with
  | some v => rw [pureRun_value h]; rfl
  | none =>
    cases h2 : pureRun P (do pure (Next.value (← s)) : Sem Next) with
    | none => rfl
    | some c =>
      obtain ⟨a, h3, _⟩ := pureRun_bind h2
      rw [h] at h3; simp at h3

theorem closedRun_bin {op : BinOp} {t : TypeId} {x y : Operand} {u : TypeId} : closedRun P ρ ⟨none, .binOp op t x y u, ty, "", #[], none⟩ = binC P op t x y (ρ x) (ρ y) := by
  unfold closedRun binC
  have : execOp ρ ⟨none, .binOp op t x y u, ty, "", #[], none⟩ = (do pure (Next.value (← (do eqGuard op t x y (ρ x) (ρ y); binOp op t (ρ x) (ρ y)))) : Sem Next) := rfl
  rw [this, pureRun_map]
  simp only [Op.operands]
  simp only [List.all_toArray, List.all_cons, List.all_nil, Bool.and_true]
  cases pureRun P (do eqGuard op t x y (ρ x) (ρ y); binOp op t (ρ x) (ρ y)) <;> rfl

theorem opA_bin {op : BinOp} {t : TypeId} {x y : Operand} {u : TypeId} (hx : operandOk x = true) (hy : operandOk y = true) : opA P H ρ (.binOp op t x y u) ty = binS P H op t x y (ρ x) (ρ y) := by
  rw [ev_of (by simp) (by simp) (by simp) (by simp)]; unfold evalOp binS
  simp only [closedRun_bin]
  simp only [Op.operands, List.all_toArray, List.all_cons, List.all_nil, hx, hy, Bool.and_true, if_true]
  rfl

theorem strEq (s u : ByteArray) : (s.toList == u.toList) = decide (s = u) := by
  rw [ByteArray.toList_eq, ByteArray.toList_eq]
  by_cases h : s = u
  · subst h; simp
  · have : s.data.toList ≠ u.data.toList := by
      intro e
      apply h
      cases s; cases u
      simpa using e
    have h2 : ¬ s.data = u.data := fun e => this (by rw [e])
    simp [h, h2]

theorem pureRun_underlying {t : TypeId} {d : TypeDesc} (h : P.underlying t = some d) : pureRun P (underlying t) = some d := by
  unfold underlying
  have e : pureRun P (program : Sem Program) = some P := rfl
  rw [pureRun_seq e]
  rw [h]
  rfl

section
variable {t : TypeId} {x y : Operand} {k : IntKind} {a b : Int}
theorem binS_of {op : BinOp} {v w r : Value} (h : binC P op t x y v w = some r) : binS P H op t x y v w = some (.val r H) := by unfold binS; rw [h]
theorem bin_lss : binS P H .lss t x y (.int k a) (.int k b) = some (.val (.bool (decide (a < b))) H) := binS_of (by simp [binC, closedV, pureRun_pure, go_sem])
theorem bin_leq : binS P H .leq t x y (.int k a) (.int k b) = some (.val (.bool (decide (a ≤ b))) H) := binS_of (by simp [binC, closedV, pureRun_pure, go_sem])
theorem bin_gtr : binS P H .gtr t x y (.int k a) (.int k b) = some (.val (.bool (decide (b < a))) H) := binS_of (by simp [binC, closedV, pureRun_pure, go_sem])
theorem bin_geq : binS P H .geq t x y (.int k a) (.int k b) = some (.val (.bool (decide (b ≤ a))) H) := binS_of (by simp [binC, closedV, pureRun_pure, go_sem])
theorem bin_eql : binS P H .eql t x y (.int k a) (.int k b) = some (.val (.bool (decide (a = b))) H) := binS_of (by
  have : eqGuard .eql t x y (.int k a) (.int k b) = pure () := rfl
  simp [binC, closedV, pureRun_pure, go_sem, this]; rfl)
theorem bin_neq : binS P H .neq t x y (.int k a) (.int k b) = some (.val (.bool (!decide (a = b))) H) := binS_of (by
  have : eqGuard .neq t x y (.int k a) (.int k b) = pure () := rfl
  simp [binC, closedV, pureRun_pure, go_sem, this]; rfl)
theorem bin_add : binS P H .add t x y (.int k a) (.int k b) = some (.val (.int k (k.wrap (a + b))) H) := binS_of (by simp [binC, closedV, pureRun_pure, go_sem])
theorem bin_sub : binS P H .sub t x y (.int k a) (.int k b) = some (.val (.int k (k.wrap (a - b))) H) := binS_of (by simp [binC, closedV, pureRun_pure, go_sem])
theorem bin_mul : binS P H .mul t x y (.int k a) (.int k b) = some (.val (.int k (k.wrap (a * b))) H) := binS_of (by simp [binC, closedV, pureRun_pure, go_sem])
theorem bin_rem (hb : b ≠ 0) : binS P H .rem t x y (.int k a) (.int k b) = some (.val (.int k (a.tmod b)) H) := binS_of (by simp [binC, closedV, pureRun_pure, go_sem, hb])
theorem bin_quo (hb : b ≠ 0) : binS P H .quo t x y (.int k a) (.int k b) = some (.val (.int k (k.wrap (a.tdiv b))) H) := binS_of (by simp [binC, closedV, pureRun_pure, go_sem, hb])
theorem bin_seql {s u : ByteArray} : binS P H .eql t x y (.string s) (.string u) = some (.val (.bool (decide (s = u))) H) := binS_of (by
  have : eqGuard .eql t x y (.string s) (.string u) = pure () := rfl
  simp [binC, closedV, pureRun_pure, go_sem, this, strEq])
theorem bin_sneq {s u : ByteArray} : binS P H .neq t x y (.string s) (.string u) = some (.val (.bool (!decide (s = u))) H) := binS_of (by
  have : eqGuard .neq t x y (.string s) (.string u) = pure () := rfl
  simp [binC, closedV, pureRun_pure, go_sem, this, strEq])
theorem pureRun_eqBool {p q : Bool} (hu : P.underlying t = some .bool) : pureRun P (Op.equal t (.bool p) (.bool q)) = some (p == q) := by
  unfold Op.equal
  show pureRun P (Op.equalIn 10000 t (.bool p) (.bool q)) = _
  unfold Op.equalIn
  rw [pureRun_seq (pureRun_underlying hu)]
  rfl
theorem bin_beql {p q : Bool} (hu : P.underlying t = some .bool) : binS P H .eql t x y (.bool p) (.bool q) = some (.val (.bool (p == q)) H) := binS_of (by
  have h1 : eqGuard .eql t x y (.bool p) (.bool q) = pure () := rfl
  have h2 : binOp .eql t (.bool p) (.bool q) = (do pure (.bool (← Op.equal t (.bool p) (.bool q)))) := rfl
  unfold binC
  rw [h1, pureRun_seq pureRun_pure, h2, pureRun_seq (pureRun_eqBool hu)]
  simp [closedV, pureRun_pure])
theorem bin_bneq {p q : Bool} (hu : P.underlying t = some .bool) : binS P H .neq t x y (.bool p) (.bool q) = some (.val (.bool (!(p == q))) H) := binS_of (by
  have h1 : eqGuard .neq t x y (.bool p) (.bool q) = pure () := rfl
  have h2 : binOp .neq t (.bool p) (.bool q) = (do pure (.bool (!(← Op.equal t (.bool p) (.bool q))))) := rfl
  unfold binC
  rw [h1, pureRun_seq pureRun_pure, h2, pureRun_seq (pureRun_eqBool hu)]
  simp [closedV, pureRun_pure])
/-- A comparison that is nil's. -/
theorem bin_nil {op : BinOp} {v w : Value} {d : TypeDesc} {b : Bool} (hc : binC P op t x y v w = none ∨ closedV v = false ∨ closedV w = false) (hu : P.underlying t = some d) (hn : nilEq d v w = some b) :
    (op = .eql → binS P H op t x y v w = some (.val (.bool b) H)) ∧ (op = .neq → binS P H op t x y v w = some (.val (.bool (!b)) H)) := by
  have : binC P op t x y v w = none := by
    rcases hc with h | h | h
    · exact h
    · unfold binC; rw [h]; rfl
    · unfold binC; rw [h, Bool.and_false]; rfl
  unfold binS
  rw [this, hu]
  dsimp only
  rw [hn]
  constructor <;> (intro h; subst h; rfl)
end

end
end B
end Go.Proofs.Ytnjoaffnfjlcaaa
