/-
  What a call may turn: a footprint.
-/
import Derived.Test.YtnjoaffnfjlcaaaB30
namespace Go.Proofs.Ytnjoaffnfjlcaaa
namespace B
open Go

/-- From H to H': only what stood in F, and what is new, has turned; what it holds now stands in F'. -/
structure Upd (H : AHeap) (F : Nat → Prop) (H' : AHeap) (F' : Nat → Prop) : Prop where
  frame : ∀ j, ¬ F j → j < H.next → H'.get j = H.get j
  foot : ∀ j, F' j → F j ∨ H.next ≤ j
  fresh : H'.Fresh
  next : H.next ≤ H'.next

theorem Upd.refl {H : AHeap} {F : Nat → Prop} (hf : H.Fresh) : Upd H F H F := ⟨fun _ _ _ => rfl, fun _ h => .inl h, hf, Nat.le_refl _⟩

theorem Upd.trans {H H1 H2 : AHeap} {F F1 F2 : Nat → Prop} (h : Upd H F H1 F1) (g : Upd H1 F1 H2 F2) : Upd H F H2 F2 :=
  ⟨fun j hj hlt => by
    rw [g.frame j (fun h1 => (h.foot j h1).elim hj (fun h2 => absurd h2 (by omega))) (Nat.lt_of_lt_of_le hlt h.next)]
    exact h.frame j hj hlt,
   fun j hj => (g.foot j hj).elim (fun h1 => h.foot j h1) (fun h1 => .inr (Nat.le_trans h.next h1)), g.fresh, Nat.le_trans h.next g.next⟩

theorem Upd.mono {H H1 : AHeap} {F F1 G G1 : Nat → Prop} (h : Upd H F H1 F1) (hF : ∀ j, F j → G j) (hG : ∀ j, G1 j → F1 j ∨ G j) : Upd H G H1 G1 :=
  ⟨fun j hj => h.frame j (fun h1 => hj (hF j h1)), fun j hj => (hG j hj).elim (fun h1 => (h.foot j h1).imp (hF j) id) .inl, h.fresh, h.next⟩

theorem Upd.push {H : AHeap} {F : Nat → Prop} (hf : H.Fresh) (o : AObj) : Upd H F (H.push o) (fun j => F j ∨ j = H.next) :=
  ⟨fun j _ hlt => get_push_old (by omega), fun j hj => hj.imp id (fun e => by omega), (AHeap.le_push H o).fresh hf, Nat.le_succ _⟩

theorem Upd.set {H : AHeap} {F : Nat → Prop} (hf : H.Fresh) {i : Nat} {x : AObj} (o : AObj) (hg : H.get i = some x) (hF : F i) : Upd H F (H.set i o) F :=
  ⟨fun j hj _ => get_set_ne (fun e => hj (by rw [e]; exact hF)), fun _ h => .inl h, (AHeap.le_set hg).fresh hf, Nat.le_refl _⟩

/-- The ids of a slice. -/
def sliceFoot (v : Value) : Nat → Prop := fun j => idOf v = some j

theorem Own.append1U {H : AHeap} {e sz : Nat} {v : Value} {n : Nat} {cells xs : List Value} {i : TypeInfo} {z : Value} (h : Own H e sz v n cells) (hf : H.Fresh) (hsz : i.size = sz) (hz0 : sz ≠ 0) (hz : i.zero = some z) (hzc : z.cells.size = i.size)
    (hx : xs.length = sz) (hfl : xs.all flatV = true) (hb1 : n + 1 ≤ 9223372036854775807) (hb2 : (n + 1) * i.bytes ≤ maxBytes) :
    ∃ v' H', (H.push (.arr xs (List.replicate xs.length 0) 0 e false)).append i e v (.slice (some ⟨H.next, 0, some 0⟩) 1 1) = some (v', H') ∧ Own H' e sz v' (n + 1) (cells ++ xs) ∧ Upd H (sliceFoot v) H' (sliceFoot v') := by
  obtain ⟨v', H', h1, h2, h3, h4, h5, h6⟩ := h.append1 hf hsz hz0 hz hzc hx hfl hb1 hb2
  exact ⟨v', H', h1, h2, fun j hj hlt => h5 j hlt hj, fun j hj => (h6 j hj).symm, h3, h4⟩

/-- An element's cells read through its address. -/
theorem Own.elemN {H : AHeap} {e sz : Nat} {a : Addr} {n c : Nat} {cells : List Value} (h : Own H e sz (.slice (some a) n c) n cells) {j k m : Nat} (hj : j < n) (hkm : k + m ≤ sz) : H.readN (addA a (j * sz + k)) m = some ((cells.drop (j * sz + k)).take m) := by
  generalize hv : Value.slice (some a) n c = v at h
  cases h with
  | nil => cases hv
  | @row i g n' c' cs st hg h2 h3 h4 h5 =>
    simp only [Value.slice.injEq, Option.some.injEq] at hv
    obtain ⟨rfl, _, rfl⟩ := hv
    have hle : j * sz + sz ≤ n * sz := by rw [← Nat.succ_mul]; exact Nat.mul_le_mul_right _ hj
    rw [addA_mk, readN_arr hg m _ (by omega) (fun x _ hx => h5 x (by omega))]
    rw [List.drop_take, List.take_take]
    congr 2
    · omega
    · rw [Nat.zero_add]

end B
end Go.Proofs.Ytnjoaffnfjlcaaa
