/-
  Functions; the limit of ever deeper runs, with its equations.
-/
import Derived.Test.YtnjoaffnfjlcaaaB19
namespace Go.Proofs.Ytnjoaffnfjlcaaa
namespace B
open Go

/-! ### More calls answered, more runs ended -/
def CallT.le (c c' : CallT) : Prop := ∀ f args H r, c f args H = some r → c' f args H = some r

theorem CallT.le_refl (c : CallT) : CallT.le c c := fun _ _ _ _ h => h

section
variable {P : Program}

theorem evalIdx_mono {call call' : CallT} (hle : CallT.le call call') {rnd : Bool} {ops : List Oper} {r : AExit × St} : ∀ (is : List Nat) (s : St), evalIdx P call rnd ops is s = some r → evalIdx P call' rnd ops is s = some r
  | [], s, h => h
  | i :: rest, s, h => by
    unfold evalIdx at h ⊢
    cases ho : ops[i]? with
    | none => rw [ho] at h; exact evalIdx_mono hle rest s h
    | some o =>
      rw [ho] at h
      dsimp only at h ⊢
      split at h
      · rename_i hw
        rw [if_pos hw]
        split at h
        · rename_i c hop
          split at h
          case isFalse => simp at h
          rename_i hc
          rw [if_pos hc]
          split at h
          case h_2 => simp at h
          rename_i d hd
          exact evalIdx_mono hle rest _ h
        · rename_i hnd
          split at h
          · exact evalIdx_mono hle rest _ h
          · exact evalIdx_mono hle rest _ h
          · split at h
            · rename_i hc
              rw [hle _ _ _ _ hc]
              exact evalIdx_mono hle rest _ h
            · rename_i hc
              rw [hle _ _ _ _ hc]
              exact h
            · simp at h
          · exact h
          · simp at h
      · rename_i hw
        rw [if_neg hw]
        exact evalIdx_mono hle rest _ h

theorem consT_mono {t : Tr} {x y : Option (List Tr × AHeap × AExit × St)} (h : ∀ r, x = some r → y = some r) {r : List Tr × AHeap × AExit × St} (e : consT t x = some r) : consT t y = some r := by
  cases x with
  | none => simp [consT] at e
  | some q => rw [h q rfl]; exact e

theorem runPlan_mono {call call' : CallT} (hle : CallT.le call call') {ops : List Oper} {dfs : List ADef} {r : List Tr × AHeap × AExit × St} : ∀ (plan : List Nat) (tm : List Value) (H : AHeap),
    runPlan P call ops dfs plan tm H = some r → runPlan P call' ops dfs plan tm H = some r := by
  intro plan
  induction plan generalizing r with
  | nil => intro tm H h; exact h
  | cons j rest ih =>
    intro tm H h
    unfold runPlan at h ⊢
    cases ho : ops[j]? with
    | none => rw [ho] at h; simp at h
    | some o =>
      rw [ho] at h
      dsimp only at h ⊢
      split at h
      · rename_i hw
        rw [if_pos hw]
        split at h
        · exact consT_mono (fun r hr => ih _ _ hr) h
        · exact consT_mono (fun r hr => ih _ _ hr) h
        · split at h
          · rename_i hc
            rw [hle _ _ _ _ hc]
            exact consT_mono (fun r hr => ih _ _ hr) h
          · rename_i hc
            rw [hle _ _ _ _ hc]
            exact h
          · simp at h
        · exact h
        · simp at h
      · rename_i hw
        rw [if_neg hw]
        exact consT_mono (fun r hr => ih _ _ hr) h

theorem drawRun_mono {call call' : CallT} (hle : CallT.le call call') {ops : List Oper} {s : St} {r : AExit × St} (h : drawRun P call ops s = some r) : drawRun P call' ops s = some r := by
  unfold drawRun at h ⊢
  split at h
  case h_2 => simp at h
  rename_i T He x s' hr
  rw [runPlan_mono hle _ _ _ hr]
  exact h

theorem evalCode_mono {rnd : Bool} : ∀ (k : Nat) (c : Code) (call call' : CallT) (s : St) (r : AExit × St) (k' : Nat), CallT.le call call' → k ≤ k' → evalCode P call rnd k c s = some r → evalCode P call' rnd k' c s = some r := by
  intro k
  induction k using Nat.strongRecOn with
  | _ k ihk =>
    intro c
    induction c with
    | seq c1 c2 ih1 ih2 =>
      intro call call' s r k' hle hk h
      rw [evalCode] at h ⊢
      split at h
      · rename_i s1 h1
        rw [ih1 _ _ _ _ _ hle hk h1]
        exact ih2 _ _ _ _ _ hle hk h
      · rename_i hne
        rw [ih1 _ _ _ _ _ hle hk h]
        split
        · rename_i s1 h1; rw [h1] at h; exact absurd h (hne _)
        · rfl
    | cond c c1 c2 ih1 ih2 =>
      intro call call' s r k' hle hk h
      rw [evalCode] at h ⊢
      split at h
      case isFalse => simp at h
      rename_i hok
      rw [if_pos hok]
      split at h
      · exact ih1 _ _ _ _ _ hle hk h
      · exact ih2 _ _ _ _ _ hle hk h
      · simp at h
    | block id c1 ih1 =>
      intro call call' s r k' hle hk h
      rw [evalCode] at h ⊢
      split at h
      · rename_i i s1 h1
        rw [ih1 _ _ _ _ _ hle hk h1]
        exact h
      · rename_i hne
        rw [ih1 _ _ _ _ _ hle hk h]
        split
        · rename_i i s1 h1; rw [h1] at h; exact absurd h (hne _ _)
        · rfl
    | loop c1 ih1 =>
      intro call call' s r k' hle hk h
      cases k with
      | zero => rw [evalCode] at h; simp at h
      | succ k =>
        obtain ⟨j, rfl⟩ : ∃ j, k' = j + 1 := ⟨k' - 1, by omega⟩
        rw [evalCode] at h ⊢
        split at h
        · rename_i s1 h1
          rw [ihk k (by omega) _ _ _ _ _ _ hle (by omega) h1]
          exact ihk k (by omega) _ _ _ _ _ _ hle (by omega) h
        · rename_i hne
          rw [ihk k (by omega) _ _ _ _ _ _ hle (by omega) h]
          split
          · rename_i s1 h1; rw [h1] at h; exact absurd h (hne _)
          · rfl
    | region id ops draw =>
      intro call call' s r k' hle hk h
      rw [evalCode] at h ⊢
      split at h
      · rename_i hd; rw [if_pos hd]; exact drawRun_mono hle h
      · rename_i hd; rw [if_neg hd]; exact evalIdx_mono hle _ _ h
    | skip => intro call call' s r k' hle hk h; rw [evalCode] at h ⊢; exact h
    | rangeFunc f ps as b _ _ =>
      intro call call' s r k' hle hk h
      rw [evalCode] at h ⊢
      split at h
      case isTrue => simp at h
      rename_i hr
      rw [if_neg hr]
      split at h
      case h_2 => simp at h
      rename_i f0 args H1 hrc
      cases hc : call f0 args H1 with
      | none => rw [hc] at h; simp [rangeEnd] at h
      | some q => rw [hc] at h; rw [hle _ _ _ _ hc]; exact h
    | exit id => intro call call' s r k' hle hk h; rw [evalCode] at h ⊢; exact h
    | scope b _ => intro call call' s r k' hle hk h; rw [evalCode] at h; simp at h
    | label l => intro call call' s r k' hle hk h; rw [evalCode] at h ⊢; exact h
    | goto l => intro call call' s r k' hle hk h; rw [evalCode] at h; simp at h
    | ret => intro call call' s r k' hle hk h; rw [evalCode] at h ⊢; exact h
    | refuse why => intro call call' s r k' hle hk h; rw [evalCode] at h; simp at h

end

/-! ### The limit of a row -/
open Classical in
noncomputable def lim {α : Type} (g : Nat → Option α) : Option α := if h : ∃ r, ∃ k, g k = some r then some h.choose else none

def Rising {α : Type} (g : Nat → Option α) : Prop := ∀ k k' r, k ≤ k' → g k = some r → g k' = some r

theorem lim_some {α : Type} {g : Nat → Option α} (hg : Rising g) {r : α} : lim g = some r ↔ ∃ k, g k = some r := by
  unfold lim
  constructor
  · intro h
    split at h
    · rename_i hh
      obtain ⟨k, hk⟩ := hh.choose_spec
      simp only [Option.some.injEq] at h
      rw [h] at hk
      exact ⟨k, hk⟩
    · simp at h
  · rintro ⟨k, hk⟩
    have hh : ∃ r, ∃ k, g k = some r := ⟨r, k, hk⟩
    rw [dif_pos hh]
    obtain ⟨k', hk'⟩ := hh.choose_spec
    have h1 := hg k (max k k') r (by omega) hk
    have h2 := hg k' (max k k') _ (by omega) hk'
    rw [h1] at h2
    exact h2.symm

theorem opt_ext {α : Type} {x y : Option α} (h : ∀ r, x = some r ↔ y = some r) : x = y := by
  cases x with
  | some a => exact ((h a).1 rfl).symm
  | none =>
    cases y with
    | none => rfl
    | some b => have := (h b).2 rfl; simp at this

end B
end Go.Proofs.Ytnjoaffnfjlcaaa
