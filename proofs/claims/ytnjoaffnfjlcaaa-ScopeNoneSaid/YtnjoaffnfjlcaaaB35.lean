/-
  Slices of one's own: an element's cells read and written; several elements appended. Maps whose keys are strings.
-/
import Derived.Test.YtnjoaffnfjlcaaaB34
namespace Go.Proofs.Ytnjoaffnfjlcaaa
namespace B
open Go

section
variable {P : Program} {H : AHeap}

/-- Where a slice's row begins, and how far it may grow. -/
def baseOf : Value → Addr
  | .slice (some a) _ _ => a
  | _ => ⟨0, 0, none⟩
def capOf : Value → Nat
  | .slice _ _ c => c
  | _ => 0

theorem Own.shape {e sz : Nat} {v : Value} {n : Nat} {cells : List Value} (h : Own H e sz v n cells) (hn : 0 < n) : v = .slice (some (baseOf v)) n (capOf v) ∧ n ≤ capOf v ∧ (baseOf v).off = 0 := by
  cases h with
  | nil => omega
  | row hg h2 h3 h4 h5 => exact ⟨rfl, h2, rfl⟩

theorem indexAddrS_own {e sz t : Nat} {v : Value} {n : Nat} {cells : List Value} {k : IntKind} {j : Int} (h : Own H e sz v n cells) (h0 : 0 ≤ j) (hj : j < n) (hes : elemSize P t = sz) (H2 : AHeap) :
    indexAddrS P H2 t v (.int k j) = some (.val (.pointer (some (addA (baseOf v) (j.toNat * sz)))) H2) := by
  obtain ⟨hv, _⟩ := h.shape (by omega)
  rw [hv, indexAddrS_of ⟨h0, hj⟩, hes]
  rfl

theorem Own.readN {e sz : Nat} {v : Value} {n o m : Nat} {cells : List Value} (h : Own H e sz v n cells) (ho : o + m ≤ n * sz) (hm : 0 < m) : H.readN (addA (baseOf v) o) m = some ((cells.drop o).take m) := by
  cases h with
  | nil => omega
  | @row i g n' c' cs st hg h2 h3 h4 h5 =>
    show H.readN (addA ⟨i, 0, some g⟩ o) m = _
    rw [addA_mk, readN_arr hg m _ (by omega) (fun x _ hx => h5 x (by omega))]
    rw [List.drop_take, List.take_take, Nat.zero_add]
    congr 2
    omega

theorem Own.cell {e sz : Nat} {v : Value} {n o : Nat} {cells : List Value} (h : Own H e sz v n cells) (ho : o < n * sz) : H.cell (addA (baseOf v) o) = cells[o]? := by
  have h1 := h.readN (o := o) (m := 1) (by omega) (by omega)
  have := readN_get h1 (j := 0) (by omega)
  rw [addA_zero] at this
  rw [this]
  rw [List.getElem?_take_of_lt (by omega), List.getElem?_drop]
  simp

theorem Own.get {e sz : Nat} {v : Value} {n : Nat} {cells : List Value} (h : Own H e sz v n cells) (hn : 0 < n) : ∃ i g cs st, v = .slice (some ⟨i, 0, some g⟩) n (capOf v) ∧ H.get i = some (.arr cs st g e false) ∧ n ≤ capOf v ∧ n * sz ≤ cs.length ∧ cs.length = st.length ∧ (∀ j, j < n * sz → st.getD j 0 ≤ g) ∧ cells = cs.take (n * sz) := by
  cases h with
  | nil => omega
  | @row i g n' c' cs st hg h2 h3 h4 h5 => exact ⟨i, g, cs, st, rfl, hg, h2, h3, h4, h5, rfl⟩

theorem Own.set1 {e sz : Nat} {v x : Value} {n o : Nat} {cells : List Value} (h : Own H e sz v n cells) (ho : o < n * sz) (hx : flatV x = true) :
    ∃ H', H.setCell (addA (baseOf v) o) x = some H' ∧ Own H' e sz v n (cells.set o x) ∧ H'.next = H.next ∧ (∀ j, idOf v ≠ some j → H'.get j = H.get j) := by
  have hn : 0 < n := by rcases Nat.eq_zero_or_pos n with e0 | e0; · subst e0; omega
                        · exact e0
  obtain ⟨i, g, cs, st, hv, hg, h2, h3, h4, h5, rfl⟩ := h.get hn
  have hb : baseOf v = ⟨i, 0, some g⟩ := by rw [hv]; rfl
  refine ⟨H.set i (.arr (cs.set o x) (st.set o g) g e false), ?_, ?_, rfl, ?_⟩
  · rw [hb, addA_mk]
    unfold AHeap.setCell
    rw [if_pos hx]
    dsimp only
    rw [hg]
    dsimp only
    rw [if_pos ⟨rfl, by omega, by omega⟩, Nat.zero_add]
  · rw [hv]
    have := Own.row (H := H.set i (.arr (cs.set o x) (st.set o g) g e false)) (e := e) (sz := sz) (i := i) (g := g) (n := n) (c := capOf v) (cs := cs.set o x) (st := st.set o g) get_set_same h2 (by simpa using h3) (by simpa using h4)
      (fun j hj => by
        rw [List.getD_eq_getElem?_getD, List.getElem?_set]
        split
        · split <;> simp
        · have := h5 j hj; rw [List.getD_eq_getElem?_getD] at this; exact this)
    rw [← List.take_set]
    exact this
  · intro j hj
    refine get_set_ne ?_
    rintro rfl
    exact hj (by rw [hv]; rfl)

/-- Cells written one behind the other. -/
def setL : List Value → Nat → List Value → List Value
  | cells, _, [] => cells
  | cells, o, x :: xs => setL (cells.set o x) (o + 1) xs

theorem Own.setN {e sz : Nat} {v : Value} {n : Nat} : ∀ {xs : List Value} {o : Nat} {cells : List Value} {H : AHeap}, Own H e sz v n cells → o + xs.length ≤ n * sz → xs.all flatV = true →
    ∃ H', H.setN (addA (baseOf v) o) xs = some H' ∧ Own H' e sz v n (setL cells o xs) ∧ H'.next = H.next ∧ (∀ j, idOf v ≠ some j → H'.get j = H.get j)
  | [], o, cells, H, h, _, _ => ⟨H, rfl, h, rfl, fun _ _ => rfl⟩
  | x :: xs, o, cells, H, h, ho, hx => by
    simp only [List.all_cons, Bool.and_eq_true] at hx
    simp only [List.length_cons] at ho
    obtain ⟨H1, h1, h2, h3, h4⟩ := h.set1 (o := o) (x := x) (by omega) hx.1
    obtain ⟨H2, g1, g2, g3, g4⟩ := Own.setN (xs := xs) (o := o + 1) h2 (by omega) hx.2
    refine ⟨H2, ?_, g2, g3.trans h3, fun j hj => (g4 j hj).trans (h4 j hj)⟩
    unfold AHeap.setN
    rw [h1]
    dsimp only
    rw [addA_add]; exact g1

theorem setL_take : ∀ (xs cells : List Value) (o m : Nat), m ≤ o → (setL cells o xs).take m = cells.take m
  | [], _, _, _, _ => rfl
  | x :: xs, cells, o, m, h => by
    unfold setL
    rw [setL_take xs _ (o + 1) m (by omega), List.take_set_of_le h]

theorem storeV_agg {t : TypeId} {a : Addr} {v : Value} (h2 : (P.info? t).isSome = true) (hv : v.cells.size = P.cellsOf t) : H.storeV P t a v = H.setN a v.cells.toList := by
  unfold AHeap.storeV
  cases hi : P.info? t with
  | none => rw [hi] at h2; simp at h2
  | some i =>
    have : P.cellsOf t = i.size := by unfold Program.cellsOf; rw [hi]; rfl
    simp only [hv, this, if_true]

/-- The last element wiped, and cut off. -/
theorem Own.cutLast {e sz : Nat} {v : Value} {n : Nat} {cells : List Value} (h : Own H e sz v (n + 1) cells) : Own H e sz (.slice (some (baseOf v)) n (capOf v)) n (cells.take (n * sz)) := by
  obtain ⟨hv, _⟩ := h.shape (by omega)
  rw [hv] at h
  exact h.cut (by omega)

theorem idOf_cut {v : Value} {n c : Nat} {e sz m : Nat} {cells : List Value} (h : Own H e sz v (m + 1) cells) : idOf (.slice (some (baseOf v)) n c) = idOf v := by
  obtain ⟨hv, _⟩ := h.shape (by omega)
  conv => rhs; rw [hv]
  rfl

theorem sliceS_upto {t e sz : Nat} {i : TypeInfo} {v : Value} {n : Nat} {cells : List Value} {k : IntKind} {m : Int} (h : Own H e sz v n cells) (hn : 0 < n) (hi : sliceInfo P t = some (i, e)) (h0 : 0 ≤ m) (hm : m ≤ n) (H2 : AHeap) :
    sliceS P H2 t v none (some (.int k m)) = some (.val (.slice (some (baseOf v)) m.toNat (capOf v)) H2) := by
  obtain ⟨hv, hc, _⟩ := h.shape hn
  unfold sliceS
  rw [hi]
  dsimp only
  obtain ⟨m', rfl⟩ : ∃ m' : Nat, m = m' := ⟨m.toNat, by omega⟩
  conv => lhs; rw [hv]
  rw [sliceOf_upto (by omega)]
  rfl

/-- Several elements more: 'append(v, x...)'. -/
theorem Own.appendN {e sz : Nat} {v x : Value} {n m : Nat} {cells xs : List Value} {i : TypeInfo} {z : Value} (h : Own H e sz v n cells) (hf : H.Fresh) (hsz : i.size = sz) (hz0 : sz ≠ 0) (hz : i.zero = some z) (hzc : z.cells.size = i.size)
    (hx : AHeap.elems H sz x = some (m, xs)) (hl : xs.length = m * sz) (hfl : xs.all flatV = true) (hb1 : n + m ≤ 9223372036854775807) (hb2 : (n + m) * i.bytes ≤ maxBytes) :
    ∃ v' H', H.append i e v x = some (v', H') ∧ Own H' e sz v' (n + m) (cells ++ xs) ∧ Upd H (sliceFoot v) H' (sliceFoot v') := by
  subst hsz
  cases m with
  | zero =>
    have hxs : xs = [] := List.eq_nil_of_length_eq_zero (by simpa using hl)
    subst hxs
    unfold AHeap.append
    rw [if_neg hz0, hz]
    dsimp only
    rw [if_pos hzc, hx]
    dsimp only
    refine ⟨v, H, ?_, by simpa using h, Upd.refl hf⟩
    cases h <;> rfl
  | succ m =>
    unfold AHeap.append
    rw [if_neg hz0, hz]
    dsimp only
    rw [if_pos hzc, hx]
    dsimp only
    rw [if_pos hfl]
    have hrep : ∀ (k g j : Nat), (List.replicate k g).getD j 0 ≤ g := fun k g j => by
      rw [List.getD_eq_getElem?_getD, List.getElem?_replicate]; split <;> simp
    cases h with
    | nil =>
      try dsimp only
      rw [if_pos ⟨by omega, by simpa using hb2⟩]
      refine ⟨_, _, rfl, ?_, fun j hj hlt => get_push_old (by omega), fun j hj => ?_, (AHeap.le_push _ _).fresh hf, Nat.le_succ _⟩
      · have := Own.row (H := H.push (.arr xs (List.replicate xs.length 0) 0 e false)) (e := e) (sz := i.size) (i := H.next) (g := 0) (n := m + 1) (c := m + 1) (cs := xs) (st := List.replicate xs.length 0)
          get_push_new (Nat.le_refl _) (by omega) (by simp) (fun j _ => hrep _ _ j)
        rw [List.take_of_length_le (by omega)] at this
        simpa using this
      · simp only [sliceFoot, idOf, Option.some.injEq] at hj
        exact .inr (by omega)
    | @row i' g n c cs st hg h2 h3 h4 h5 =>
      dsimp only
      rw [hg]
      dsimp only
      rw [if_pos ⟨rfl, rfl, Nat.le_refl _, by omega, by omega, by simpa using hb2⟩]
      rw [readN_arr hg _ 0 (by omega) (fun j _ hj => h5 j (by omega))]
      dsimp only
      refine ⟨_, _, rfl, ?_, fun j hj hlt => ?_, fun j hj => ?_, (AHeap.le_set hg).fresh hf, Nat.le_refl _⟩
      · have hl1 : (cs.take (n * i.size) ++ xs).length = (n + (m + 1)) * i.size := by simp [Nat.add_mul, hl]; omega
        have := Own.row (H := H.set i' (.arr (cs.take (n * i.size) ++ xs) (st.take (n * i.size) ++ List.replicate xs.length (g + 1)) (g + 1) e false)) (e := e) (sz := i.size) (i := i') (g := g + 1) (n := n + (m + 1)) (c := n + (m + 1)) (cs := cs.take (n * i.size) ++ xs) (st := st.take (n * i.size) ++ List.replicate xs.length (g + 1))
          get_set_same (Nat.le_refl _) (by rw [hl1]; exact Nat.le_refl _) (by simp; omega) (fun j hj => by
            rw [List.getD_eq_getElem?_getD]
            rcases Nat.lt_or_ge j (n * i.size) with hlt | hge
            · rw [List.getElem?_append_left (by simp; omega), List.getElem?_take_of_lt hlt]
              have := h5 j hlt
              rw [List.getD_eq_getElem?_getD] at this
              omega
            · rw [List.getElem?_append_right (by simp; omega), List.getElem?_replicate]
              split <;> simp)
        have e2 : ((cs.take (n * i.size) ++ xs).take ((n + (m + 1)) * i.size)) = cs.take (n * i.size) ++ xs := List.take_of_length_le (by rw [hl1]; exact Nat.le_refl _)
        rw [e2] at this
        exact this
      · have : j ≠ i' := fun e => hj (by simp [sliceFoot, idOf, e])
        exact get_set_ne this
      · simp only [sliceFoot, idOf, Option.some.injEq] at hj ⊢
        exact .inl hj

/-- A slice of no elements, made. -/
theorem Own.empty {H : AHeap} {e sz : Nat} : Own (H.push (.arr [] [] 0 e false)) e sz (.slice (some ⟨H.next, 0, some 0⟩) 0 0) 0 [] := by
  have := Own.row (H := H.push (.arr [] [] 0 e false)) (e := e) (sz := sz) (i := H.next) (g := 0) (n := 0) (c := 0) (cs := []) (st := []) get_push_new (Nat.le_refl _) (by simp) rfl (fun j hj => by omega)
  simpa using this

theorem opA_build00 {t e : TypeId} {i : TypeInfo} {z : Value} {ρ : Operand → Value} {ty : TypeId} (hi : sliceInfo P t = some (i, e)) (hz : i.zero = some z) : opA P H ρ (.buildSlice t 0 #[]) ty = some (.val (.slice (some ⟨H.next, 0, some 0⟩) 0 0) (H.push (.arr [] [] 0 e false))) := by
  rw [ev_of (by simp) (by simp) (by simp) (by simp)]
  unfold evalOp
  obtain ⟨hu, hi'⟩ := sliceInfo_inv hi
  have hok : (Op.buildSlice t 0 #[]).operands.all operandOk = true := by simp [Op.operands]
  simp only [hok, if_true]
  rw [hu]; dsimp only
  rw [hi']; dsimp only
  rw [hz]; dsimp only
  rw [if_neg (by simp), if_pos (by simp)]

/-! ### Maps by strings -/
def strE (l : List (ByteArray × Value)) : List (Value × Value) := l.map fun p => (.string p.1, p.2)
def lookB (l : List (ByteArray × Value)) (k : ByteArray) : Option Value := match l with
  | [] => none
  | p :: l => if k = p.1 then some p.2 else lookB l k

theorem beq_bytes {a b : ByteArray} : (a == b) = true ↔ a = b := by
  constructor
  · intro h
    have h2 : (a.data == b.data) = true := h
    exact ByteArray.ext (by simpa using h2)
  · rintro rfl
    show (a.data == a.data) = true
    simp

theorem findNow_str (k : ByteArray) : ∀ (l : List (ByteArray × Value)) (i : Nat), Instr.findNow .string (.string k) (mkEntries (strE l)) i = some (match lookB l k with | some v => some (i + l.findIdx (fun p => k = p.1), v) | none => none)
  | [], i => rfl
  | p :: l, i => by
    have ih := findNow_str k l (i + 1)
    simp only [strE, mkEntries, List.map_cons, Instr.findNow, Instr.sameNow] at ih ⊢
    by_cases hk : k = p.1
    · subst hk
      rw [show (p.1 == p.1) = true from beq_bytes.2 rfl]
      simp [lookB, List.findIdx_cons]
    · have hb : (k == p.1) = false := by
        cases h : k == p.1 with
        | false => rfl
        | true => exact absurd (beq_bytes.1 h) hk
      simp only [hb, lookB, if_neg hk]
      rw [ih]
      cases lookB l k with
      | none => rfl
      | some v => simp [List.findIdx_cons, hk]; omega

theorem checkKey_str {kt : TypeId} {b : Bool} {k : ByteArray} (hu : P.underlying kt = some .string) : pureRun P (Instr.checkKey b 10000 kt (.string k)) = some () := by
  unfold Instr.checkKey
  rw [pureRun_seq (pureRun_underlying hu)]
  rfl

theorem findKey_str {kt : TypeId} {k : ByteArray} {l : List (ByteArray × Value)} (hu : P.underlying kt = some .string) :
    pureRun P (Instr.findKey kt (.string k) (mkEntries (strE l))) = some (match lookB l k with | some v => some (l.findIdx (fun p => k = p.1), v) | none => none) := by
  unfold Instr.findKey
  rw [pureRun_seq (pureRun_underlying hu), findNow_str]
  simp only [Nat.zero_add]
  rfl

/-- What a map of such a type holds of no key. -/
def zeroV (P : Program) (t : TypeId) : Option Value := match P.info? t with
  | some i => match i.zero with
    | some z => if closedV z then some z else none
    | none => none
  | none => none

theorem lookS_str {t kt et : TypeId} {r : Nat} {k : ByteArray} {l : List (ByteArray × Value)} {z : Value} {ok : Bool} (hu : P.underlying t = some (.map kt et)) (hk : P.underlying kt = some .string) (hz : zeroV P et = some z) (hr : H.get r = some (.map (strE l))) :
    lookS P H t (.map (some r)) (.string k) ok = some (.val (if ok then .tuple #[(lookB l k).getD z, .bool (lookB l k).isSome] else (lookB l k).getD z) H) := by
  unfold lookS AHeap.look AHeap.entries
  rw [hu]
  dsimp only
  rw [hr]
  dsimp only
  rw [if_pos cl_string, checkKey_str hk, findKey_str hk]
  cases hl : lookB l k with
  | some v => rfl
  | none =>
    dsimp only
    unfold zeroV at hz
    split at hz
    case h_2 => simp at hz
    rename_i i hi
    split at hz
    case h_2 => simp at hz
    rename_i z' hz'
    split at hz
    case isFalse => simp at hz
    rename_i hc
    simp only [Option.some.injEq] at hz
    subst hz
    rw [hi]; dsimp only; rw [hz']; dsimp only; rw [if_pos hc]
    rfl

theorem lookS_str2 {t kt et : TypeId} {r : Nat} {k : ByteArray} {l : List (ByteArray × Value)} {z : Value} (hu : P.underlying t = some (.map kt et)) (hk : P.underlying kt = some .string) (hz : zeroV P et = some z) (hr : H.get r = some (.map (strE l))) :
    lookS P H t (.map (some r)) (.string k) true = some (.val (.tuple #[(lookB l k).getD z, .bool (lookB l k).isSome]) H) := by rw [lookS_str hu hk hz hr, if_pos rfl]
theorem lookS_str1 {t kt et : TypeId} {r : Nat} {k : ByteArray} {l : List (ByteArray × Value)} {z : Value} (hu : P.underlying t = some (.map kt et)) (hk : P.underlying kt = some .string) (hz : zeroV P et = some z) (hr : H.get r = some (.map (strE l))) :
    lookS P H t (.map (some r)) (.string k) false = some (.val ((lookB l k).getD z) H) := by rw [lookS_str hu hk hz hr, if_neg (by simp)]

theorem mapPut_str {t kt et : TypeId} {r : Nat} {k : ByteArray} {v : Value} {l : List (ByteArray × Value)} (hu : P.underlying t = some (.map kt et)) (hk : P.underlying kt = some .string) (hr : H.get r = some (.map (strE l))) (hn : lookB l k = none) :
    H.mapPut P t (.map (some r)) (.string k) v = some (H.set r (.map (strE (l ++ [(k, v)])))) := by
  unfold AHeap.mapPut
  rw [hu]
  dsimp only
  rw [hr]
  dsimp only
  rw [if_pos cl_string, checkKey_str hk, findKey_str hk, hn]
  simp [strE]

end
end B
end Go.Proofs.Ytnjoaffnfjlcaaa
