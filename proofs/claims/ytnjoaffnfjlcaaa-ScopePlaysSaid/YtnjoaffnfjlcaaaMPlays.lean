/-
  'Every call of every row of calls, on a scope and its copies, answers what the document says': for every row of calls the law returns true, and its argument reads behind the call as it read before.
-/
import Derived.Test.YtnjoaffnfjlcaaaM6
import Derived.Test.YtnjoaffnfjlcaaaM7
namespace Go.Proofs.Ytnjoaffnfjlcaaa
open Go Go.Proofs B Go.ChangeShapes Go.WideShapes Go.ChangeAt Go.RowKit Go.ChangeMaps

/-- A copy's answer, of those that every world keeps to. -/
def CopyAns (args : List Value) (H : AHeap) (r : AEnd × AHeap) : Prop := extOK Try.prog 22 args H r ∧
  ∃ b σ F q F', args = [.pointer (some ⟨b, 0, none⟩)] ∧ ScopeAt H b σ F ∧ r.1 = .ret (.pointer (some ⟨q, 0, none⟩)) ∧ ScopeAt r.2 q σ F' ∧ Grown H r.2 ∧ ∀ j, F' j → H.next ≤ j

open Classical in
noncomputable def copyT (args : List Value) (H : AHeap) : Option (AEnd × AHeap) := if h : ∃ r, CopyAns args H r then some h.choose else none
noncomputable def ext1 : CallT := fun f args H => if f = 22 then copyT args H else none

theorem copyT_ans {args : List Value} {H : AHeap} {r : AEnd × AHeap} (h : copyT args H = some r) : CopyAns args H r := by
  unfold copyT at h
  split at h
  · rename_i h1
    have := h1.choose_spec
    simp only [Option.some.injEq] at h
    rw [h] at this
    exact this
  · cases h

theorem ext1_ok : CallOK Try.prog ext1 := ext_ok fun _ _ _ h => (copyT_ans h).1
theorem ext1_none : ∀ f args H, f ≠ 22 → ext1 f args H = none := fun f args H h => by unfold ext1; rw [if_neg h]

theorem copyOK1 : CopyOK ext1 := by
  intro H b σ F n hf hS hw hn huq
  have w1 := hw.bl
  have w2 := hw.tl
  have w3 := hw.yl
  obtain ⟨H', q, F', h1, h2, h3, h4⟩ := copy22 (ext := fun _ _ _ => none) (fun _ _ _ _ => rfl) ext0_ok Try.mixed hf hS huq (by omega) (by omega) (by omega)
  have hex : ∃ r, CopyAns [.pointer (some ⟨b, 0, none⟩)] H r := ⟨_, h1, b, σ, F, q, F', rfl, hS, rfl, h2, h3, h4⟩
  obtain ⟨r, hr⟩ : ∃ r, copyT [.pointer (some ⟨b, 0, none⟩)] H = some r := by unfold copyT; rw [dif_pos hex]; exact ⟨_, rfl⟩
  obtain ⟨_, b2, σ2, F2, q2, F2', e1, e2, e3, e4, e5, e6⟩ := copyT_ans hr
  have hb : b = b2 := by simpa using e1
  subst hb
  have hσ := hS.uniq e2
  subst hσ
  obtain ⟨r1, r2⟩ := r
  dsimp only at e3 e4 e5
  subst e3
  exact ⟨r2, q2, F2', by unfold ext1; rw [if_pos rfl]; exact hr, e4, e5, e6⟩

set_option maxRecDepth 100000 in
theorem plays_lifted (os : Os) (started : os.Started) (H : Type) (enc : TypeId × Value → H) :
    ReturnsInHanded {} Try.checked os 5 .any (Rows.scopePlaysSpec.pre6 enc Try.prog Try.f5 Rows.scopePlaysRow.domain false) (Rows.scopePlaysSpec.post enc Try.prog Try.f5 false true false false) := by
  refine returnsInHanded_of_change (C := Try.checked) Try.own started (by kernel_rfl) Try.func5
    (ChangeSpec.witness6 (enc := enc) (C := Try.checked) false ⟨#[], #[.slice none 0 0], []⟩ 8 (by kernel_rfl) (by kernel_rfl) (by kernel_rfl) (by kernel_rfl)) ?_
  intro W base args ds gs before hval0 hW hcnd _
  have hval : ∀ (j : Nat) t v, Try.f5.params[j]? = some t → args[j]? = some v → Value.okWide Try.prog W .any base t v := hval0
  have hW' := hW
  obtain ⟨p, q, hA0, hV, rfl, hfz, hnd⟩ := hW
  have hA : DataW.TrodAll enc Try.prog W 0 (fun _ => true) true Try.f5.params.toList args.toList ds p := hA0
  rw [Try.params5] at hA hval
  obtain ⟨v0, d0, rfl, rfl, h0⟩ := trodAll_one hA
  obtain ⟨rfl, rfl⟩ := trodVars_none hV
  obtain ⟨v', l, hrel, hscr⟩ := script_in (okWide_slice (und_of Try.underlying22) (hval 0 22 v0 rfl rfl)) (fun _ => rfl) h0
  obtain ⟨H', hcall⟩ := scopePlays5 ext1_none copyOK1 (heapOf_rel Try.prog W).fresh hscr
  refine (entry ext1_ok Try.mixed Try.func5 hcall rfl (.cons hrel .nil)).mono fun e W' ⟨he, hw⟩ => ?_
  subst he
  exact ⟨_, rfl, post_true Try.kids Try.full hW' (by rw [Try.params5]; intro t ht; simp at ht; subst ht; show _ < Try.prog.types.size; rw [Try.types_size]; decide) rfl rfl (und_of Try.underlying4) rfl rfl rfl hw⟩

theorem scopePlays_holds : Rows.ScopePlaysSaid :=
  OpenClaim.holds_of_wide 5 Try.f5 rfl rfl rfl rfl rfl rfl rfl ⟨rfl, rfl, rfl, rfl, rfl⟩ rfl rfl rfl rfl rfl (by kernel_rfl) Try.func5 (by kernel_rfl)
    (of_decide_eq_true (by kernel_rfl)) (by unfold Func.isWrapper; rw [if_neg (of_decide_eq_false (by kernel_rfl))]; exact ⟨rfl, rfl⟩)
    (fun os started H enc _ => plays_lifted os started H enc)

end Go.Proofs.Ytnjoaffnfjlcaaa
