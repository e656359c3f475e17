/-
  Slices of one's own: cutting, writing an element.
-/
import Derived.Test.YtnjoaffnfjlcaaaB33
namespace Go.Proofs.Ytnjoaffnfjlcaaa
namespace B
open Go

section
variable {P : Program} {H : AHeap}

theorem Own.cut {e sz : Nat} {a : Addr} {n c m : Nat} {cells : List Value} (h : Own H e sz (.slice (some a) n c) n cells) (hm : m ≤ n) : Own H e sz (.slice (some a) m c) m (cells.take (m * sz)) := by
  generalize hv : Value.slice (some a) n c = v at h
  cases h with
  | nil => cases hv
  | @row i g n' c' cs st hg h2 h3 h4 h5 =>
    simp only [Value.slice.injEq, Option.some.injEq] at hv
    obtain ⟨rfl, _, rfl⟩ := hv
    have hle : m * sz ≤ n * sz := Nat.mul_le_mul_right _ hm
    have := Own.row (sz := sz) (c := c) (n := m) hg (by omega) (by omega) h4 (fun j hj => h5 j (by omega))
    rw [List.take_take, Nat.min_eq_left hle]
    exact this

theorem sliceOf_upto {e sz : Nat} {a : Addr} {n c m : Nat} {k : IntKind} (hm : m ≤ c) : sliceOf H e sz (.slice (some a) n c) none (some (.int k m)) = some (.slice (some a) m c) := by
  unfold sliceOf boundOf
  have h0 : addA a 0 = a := by cases a; rfl
  simp [hm, h0]

end
end B
end Go.Proofs.Ytnjoaffnfjlcaaa
