/-
  More operations' equations: slicing, indexing, fields, maps, building.
-/
import Derived.Test.YtnjoaffnfjlcaaaB31
namespace Go.Proofs.Ytnjoaffnfjlcaaa
namespace B
open Go

section
variable {P : Program} {H : AHeap} {ρ : Operand → Value} {ty : TypeId}

theorem sliceInfo_inv {t e : TypeId} {i : TypeInfo} (h : sliceInfo P t = some (i, e)) : P.underlying t = some (.slice e) ∧ P.info? e = some i := by
  unfold sliceInfo at h
  split at h
  · rename_i e' hu
    split at h
    · rename_i i' hi
      simp only [Option.some.injEq, Prod.mk.injEq] at h
      obtain ⟨rfl, rfl⟩ := h
      exact ⟨hu, hi⟩
    · simp at h
  · simp at h

def indexAddrS (P : Program) (H : AHeap) (t : TypeId) (v w : Value) : Option ARes := match v, w with
  | .slice (some a) len _, .int _ n => if 0 ≤ n ∧ n < len then some (.val (.pointer (some (addA a (n.toNat * elemSize P t)))) H) else none
  | _, _ => none
theorem opA_indexAddr {t : TypeId} {x y : Operand} (hx : operandOk x = true) (hy : operandOk y = true) (hi : (sliceInfo P t).isSome = true) : opA P H ρ (.indexAddr t x y) ty = indexAddrS P H t (ρ x) (ρ y) := by
  rw [ev_of (by simp) (by simp) (by simp) (by simp)]; unfold evalOp
  simp only [Op.operands, List.all_toArray, List.all_cons, List.all_nil, hx, hy, Bool.and_true, if_true]
  cases hs : sliceInfo P t with
  | none => rw [hs] at hi; simp at hi
  | some q =>
    obtain ⟨i, e⟩ := q
    have hes : elemSize P t = i.size := by unfold elemSize; rw [hs]
    obtain ⟨hu, hi'⟩ : P.underlying t = some (.slice e) ∧ P.info? e = some i := sliceInfo_inv hs
    unfold indexAddrS
    rw [hu, hes]
    cases hρx : ρ x <;> try rfl
    rename_i a len cap
    cases a with
    | none => rfl
    | some a =>
      cases hρy : ρ y <;> try rfl
      dsimp only
      rw [hi']
theorem indexAddrS_of {t : TypeId} {a : Addr} {len cap : Nat} {k : IntKind} {n : Int} (h : 0 ≤ n ∧ n < len) : indexAddrS P H t (.slice (some a) len cap) (.int k n) = some (.val (.pointer (some (addA a (n.toNat * elemSize P t)))) H) := by
  unfold indexAddrS; simp only; rw [if_pos h]

def sliceS (P : Program) (H : AHeap) (t : TypeId) (v : Value) (lo hi : Option Value) : Option ARes := match sliceInfo P t with
  | some (i, e) => valA H (sliceOf H e i.size v lo hi)
  | none => none
theorem opA_slice {t : TypeId} {x : Operand} {lo hi : Option Operand} (hx : operandOk x = true) (hl : (lo.toArray.all operandOk) = true) (hh : (hi.toArray.all operandOk) = true) (hs : (sliceInfo P t).isSome = true) :
    opA P H ρ (.slice t x lo hi none) ty = sliceS P H t (ρ x) (lo.map ρ) (hi.map ρ) := by
  rw [ev_of (by simp) (by simp) (by simp) (by simp)]; unfold evalOp sliceS
  have hok : (Op.slice t x lo hi none).operands.all operandOk = true := by
    simp only [Op.operands, Array.all_append, hl, hh, Bool.and_true]
    simp [hx]
  simp only [hok, if_true]
  cases hs' : sliceInfo P t with
  | none => rw [hs'] at hs; simp at hs
  | some q =>
    obtain ⟨i, e⟩ := q
    obtain ⟨hu, hi'⟩ := sliceInfo_inv hs'
    rw [hu]
    dsimp only
    rw [hi']
    dsimp only
    cases sliceOf H e i.size (ρ x) (lo.map ρ) (hi.map ρ) <;> rfl

def fieldS (P : Program) (H : AHeap) (t : TypeId) (f : Nat) (v : Value) : Option ARes := match P.underlying t, v with
  | some (.struct fields), .agg cs => match fields[f]? with
    | some fd => valA H (partOf P fd.type cs.toList fd.offset)
    | none => none
  | _, _ => none
theorem opA_field {t : TypeId} {x : Operand} {f : Nat} (hx : operandOk x = true) : opA P H ρ (.field t x f) ty = fieldS P H t f (ρ x) := by
  rw [ev_of (by simp) (by simp) (by simp) (by simp)]; unfold evalOp fieldS
  simp only [Op.operands, List.all_toArray, List.all_cons, List.all_nil, hx, Bool.and_true, if_true]
  cases P.underlying t with
  | none => rfl
  | some d =>
    cases d <;> rfl

def lookS (P : Program) (H : AHeap) (t : TypeId) (m k : Value) (ok : Bool) : Option ARes := match H.look P t m k with
  | some (v, b) => some (.val (if ok then .tuple #[v, .bool b] else v) H)
  | none => none
theorem opA_lookup {t : TypeId} {m k : Operand} {ok : Bool} (hm : operandOk m = true) (hk : operandOk k = true) : opA P H ρ (.lookup t m k ok) ty = lookS P H t (ρ m) (ρ k) ok := by
  unfold opA evalAny lookS
  simp only [Op.operands, List.all_toArray, List.all_cons, List.all_nil, hm, hk, Bool.and_true, if_true]
  rfl
theorem opA_mapUpdate {t : TypeId} {m k v : Operand} (hm : operandOk m = true) (hk : operandOk k = true) (hv : operandOk v = true) : opA P H ρ (.mapUpdate t m k v) ty = skipA (H.mapPut P t (ρ m) (ρ k) (ρ v)) := by
  unfold opA evalAny
  simp only [Op.operands, List.all_toArray, List.all_cons, List.all_nil, hm, hk, hv, Bool.and_true, if_true]
  cases H.mapPut P t (ρ m) (ρ k) (ρ v) <;> rfl

def buildS (P : Program) (H : AHeap) (t : TypeId) (ps : List (Nat × Value)) : Option ARes := match zeroOf P t with
  | some _ => match P.built t ps with
    | some cs => some (.val (.agg cs) H)
    | none => none
  | none => none
theorem opA_build {t : TypeId} {ps : List (Nat × Operand)} (hp : (ps.all fun p => operandOk p.2) = true) (hz : (zeroOf P t).isSome = true) : opA P H ρ (.build t ps.toArray) ty = buildS P H t (ps.map fun p => (p.1, ρ p.2)) := by
  rw [ev_of (by simp) (by simp) (by simp) (by simp)]; unfold evalOp buildS
  have hok : (Op.build t ps.toArray).operands.all operandOk = true := by
    simp only [Op.operands, List.all_toArray]
    rw [List.all_map]
    exact hp
  simp only [hok, if_true]
  have key : ∃ i z, P.info? t = some i ∧ i.zero = some z ∧ (closedV z && z.cells.toList.all flatV) = true := by
    unfold zeroOf at hz
    split at hz
    · rename_i i hi
      split at hz
      · rename_i z hzz
        split at hz
        · rename_i hc; exact ⟨i, z, hi, hzz, hc⟩
        · simp at hz
      · simp at hz
    · simp at hz
  obtain ⟨i, z, hi, hzz, hc⟩ := key
  obtain ⟨z0, hz0⟩ := Option.isSome_iff_exists.1 hz
  rw [hz0, hi]
  dsimp only
  rw [hzz]
  dsimp only
  rw [Bool.and_eq_true] at hc
  rw [if_pos (by simp only [hc.1, Bool.true_and]; exact hp)]
  simp only [List.map_toArray]
  rfl

end
end B
end Go.Proofs.Ytnjoaffnfjlcaaa
