/-
  Slices of one's own: reading, appending.
-/
import Derived.Test.YtnjoaffnfjlcaaaB28
namespace Go.Proofs.Ytnjoaffnfjlcaaa
namespace B
open Go

section
variable {P : Program} {H : AHeap}

theorem readN_arr {b : Nat} {g : Nat} {cs : List Value} {st : List Nat} {g0 : Nat} {e : TypeId} {ro : Bool} (h : H.get b = some (.arr cs st g0 e ro)) : ∀ (n o : Nat), o + n ≤ cs.length → (∀ j, o ≤ j → j < o + n → st.getD j 0 ≤ g) →
    H.readN ⟨b, o, some g⟩ n = some ((cs.drop o).take n)
  | 0, o, _, _ => by simp [AHeap.readN]
  | n + 1, o, hle, hst => by
    unfold AHeap.readN
    rw [cell_eq, h, cellO_arr]
    rw [if_pos (show st.getD o 0 ≤ (some g).getD 0 from hst o (Nat.le_refl _) (by omega)), List.getElem?_eq_getElem (by omega)]
    dsimp only
    rw [addA_mk, readN_arr h n (o + 1) (by omega) (fun j h1 h2 => hst j (by omega) (by omega))]
    dsimp only
    rw [List.drop_eq_getElem_cons (by omega : o < cs.length)]
    rfl

/-- A slice that the program itself has made, with its elements' cells. -/
inductive Own (H : AHeap) (e sz : Nat) : Value → Nat → List Value → Prop
  | nil : Own H e sz (.slice none 0 0) 0 []
  | row {i g n c : Nat} {cs : List Value} {st : List Nat} (hg : H.get i = some (.arr cs st g e false)) (h2 : n ≤ c) (h3 : n * sz ≤ cs.length) (h4 : cs.length = st.length) (h5 : ∀ j, j < n * sz → st.getD j 0 ≤ g) :
      Own H e sz (.slice (some ⟨i, 0, some g⟩) n c) n (cs.take (n * sz))

def idOf : Value → Option Nat
  | .slice (some a) _ _ => some a.block
  | _ => none

theorem Own.length {e sz : Nat} {v : Value} {n : Nat} {cells : List Value} (h : Own H e sz v n cells) : cells.length = n * sz := by
  cases h with
  | nil => simp
  | row hg h2 h3 h4 h5 => simp; omega

theorem Own.elems {e sz : Nat} {v : Value} {n : Nat} {cells : List Value} (h : Own H e sz v n cells) : AHeap.elems H sz v = some (n, cells) := by
  cases h with
  | nil => rfl
  | row hg h2 h3 h4 h5 =>
    unfold AHeap.elems
    dsimp only
    rw [readN_arr hg _ 0 (by omega) (fun j _ hj => h5 j (by omega))]
    simp

/-- It stays while its row stays. -/
theorem Own.mono {H2 : AHeap} {e sz : Nat} {v : Value} {n : Nat} {cells : List Value} (h : Own H e sz v n cells) (hm : ∀ i, idOf v = some i → H2.get i = H.get i) : Own H2 e sz v n cells := by
  cases h with
  | nil => exact .nil
  | row hg h2 h3 h4 h5 => exact .row (by rw [hm _ rfl]; exact hg) h2 h3 h4 h5

theorem Own.id_lt {e sz : Nat} {v : Value} {n : Nat} {cells : List Value} (h : Own H e sz v n cells) (hf : H.Fresh) : ∀ i, idOf v = some i → i < H.next := by
  intro i hi
  cases h with
  | nil => simp [idOf] at hi
  | row hg h2 h3 h4 h5 =>
    simp only [idOf, Option.some.injEq] at hi
    subst hi
    rcases Nat.lt_or_ge _ H.next with h | h
    · exact h
    · rw [hf _ h] at hg; simp at hg

/-- One element more: 'append(v, x)' as the code has it: the element in a row of its own first. -/
theorem Own.append1 {e sz : Nat} {v : Value} {n : Nat} {cells xs : List Value} {i : TypeInfo} {z : Value} (h : Own H e sz v n cells) (hf : H.Fresh) (hsz : i.size = sz) (hz0 : sz ≠ 0) (hz : i.zero = some z) (hzc : z.cells.size = i.size)
    (hx : xs.length = sz) (hfl : xs.all flatV = true) (hb1 : n + 1 ≤ 9223372036854775807) (hb2 : (n + 1) * i.bytes ≤ maxBytes) :
    ∃ v' H', (H.push (.arr xs (List.replicate xs.length 0) 0 e false)).append i e v (.slice (some ⟨H.next, 0, some 0⟩) 1 1) = some (v', H') ∧ Own H' e sz v' (n + 1) (cells ++ xs) ∧ H'.Fresh ∧ H.next ≤ H'.next ∧
      (∀ j, j < H.next → idOf v ≠ some j → H'.get j = H.get j) ∧ (∀ j, idOf v' = some j → H.next ≤ j ∨ idOf v = some j) := by
  subst hsz
  have hget : (H.push (.arr xs (List.replicate xs.length 0) 0 e false)).get H.next = some (.arr xs (List.replicate xs.length 0) 0 e false) := get_push_new
  have hrep : ∀ j, (List.replicate xs.length 0).getD j 0 ≤ 0 := fun j => by
    rw [List.getD_eq_getElem?_getD, List.getElem?_replicate]; split <;> simp
  have hel : AHeap.elems (H.push (.arr xs (List.replicate xs.length 0) 0 e false)) i.size (.slice (some ⟨H.next, 0, some 0⟩) 1 1) = some (1, xs) := by
    unfold AHeap.elems
    dsimp only
    rw [readN_arr hget _ 0 (by omega) (fun j _ _ => hrep j)]
    simp [← hx]
  have hf1 := (AHeap.le_push H (.arr xs (List.replicate xs.length 0) 0 e false)).fresh hf
  unfold AHeap.append
  rw [if_neg hz0, hz]
  dsimp only
  rw [if_pos hzc, hel]
  dsimp only
  rw [if_pos hfl]
  cases h with
  | nil =>
    try dsimp only
    rw [if_pos ⟨by omega, by simpa using hb2⟩]
    refine ⟨_, _, rfl, ?_, (AHeap.le_push _ _).fresh hf1, ?_, ?_, ?_⟩
    · have := Own.row (H := ((H.push (.arr xs (List.replicate xs.length 0) 0 e false)).push (.arr xs (List.replicate xs.length 0) 0 e false))) (e := e) (sz := i.size) (i := H.next + 1) (g := 0) (n := 1) (c := 1) (cs := xs) (st := List.replicate xs.length 0)
        get_push_new (Nat.le_refl _) (by omega) (by simp) (fun j _ => hrep j)
      simpa [← hx, next_push] using this
    · show H.next ≤ H.next + 1 + 1; omega
    · intro j hj _
      rw [get_push_old (by show j ≠ H.next + 1; omega), get_push_old (by omega)]
    · intro j hj
      simp only [idOf, Option.some.injEq] at hj
      have : j = H.next + 1 := hj.symm
      exact .inl (by omega)
  | @row i' g n c cs st hg h2 h3 h4 h5 =>
    have h1 : g ≤ g := Nat.le_refl _
    have hi' : i' < H.next := by
      rcases Nat.lt_or_ge i' H.next with h | h
      · exact h
      · rw [hf _ h] at hg; simp at hg
    have hg2 : (H.push (.arr xs (List.replicate xs.length 0) 0 e false)).get i' = some (.arr cs st g e false) := by rw [get_push_old (by omega)]; exact hg
    dsimp only
    rw [hg2]
    dsimp only
    rw [if_pos ⟨rfl, rfl, h1, by omega, by omega, by simpa using hb2⟩]
    rw [readN_arr hg2 _ 0 (by omega) (fun j _ hj => h5 j (by omega))]
    dsimp only
    refine ⟨_, _, rfl, ?_, (AHeap.le_set hg2).fresh hf1, ?_, ?_, ?_⟩
    · have hl1 : (cs.take (n * i.size) ++ xs).length = (n + 1) * i.size := by simp [Nat.add_mul]; omega
      have := Own.row (H := (H.push (.arr xs (List.replicate xs.length 0) 0 e false)).set i' (.arr (cs.take (n * i.size) ++ xs) (st.take (n * i.size) ++ List.replicate xs.length (g + 1)) (g + 1) e false)) (e := e) (sz := i.size) (i := i') (g := g + 1) (n := n + 1) (c := n + 1)
        get_set_same (Nat.le_refl _) (by rw [hl1]; exact Nat.le_refl _) (by simp; omega) (fun j hj => by
          rw [List.getD_eq_getElem?_getD]
          rcases Nat.lt_or_ge j (n * i.size) with hlt | hge
          · rw [List.getElem?_append_left (by simp; omega), List.getElem?_take_of_lt hlt]
            have := h5 j hlt
            rw [List.getD_eq_getElem?_getD] at this
            omega
          · rw [List.getElem?_append_right (by simp; omega), List.getElem?_replicate]
            split <;> simp)
      have e2 : ((cs.take (n * i.size) ++ xs).take ((n + 1) * i.size)) = cs.take (n * i.size) ++ xs := List.take_of_length_le (by rw [hl1]; exact Nat.le_refl _)
      rw [e2] at this
      exact this
    · exact Nat.le_succ _
    · intro j hj hne
      have : j ≠ i' := fun e => hne (by simp [idOf, e])
      rw [get_set_ne this, get_push_old (by omega)]
    · intro j hj
      simp only [idOf, Option.some.injEq] at hj ⊢
      exact .inr hj

end
end B
end Go.Proofs.Ytnjoaffnfjlcaaa
