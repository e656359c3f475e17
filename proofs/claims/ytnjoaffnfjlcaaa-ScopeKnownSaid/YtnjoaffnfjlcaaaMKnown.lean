/-
  'The examples hold, and at the limit the document's answer is told': the law, which has no input, returns true.
-/
import Derived.Test.YtnjoaffnfjlcaaaM8
namespace Go.Proofs.Ytnjoaffnfjlcaaa
open Go Go.Proofs B Go.ChangeShapes Go.WideShapes Go.ChangeAt Go.RowKit Go.ChangeMaps

theorem ext1_nil : ∀ H, ext1 22 [.pointer none] H = none := by
  intro H
  unfold ext1
  rw [if_pos rfl]
  unfold copyT
  rw [dif_neg]
  rintro ⟨r, _, b, σ, F, q, F', e, _⟩
  simp at e

theorem trodAll_zero {H : Type} {enc : TypeId × Value → H} {W : World} {base : Nat} {spare : Nat → Bool} {held : Bool} {vs : List Value} {ds : List (DataW H)} {ps : List MemPlace} (h : DataW.TrodAll enc Try.prog W base spare held [] vs ds ps) : vs = [] ∧ ds = [] := by
  cases vs <;> cases ds <;> simp_all [DataW.TrodAll]

set_option maxRecDepth 100000 in
theorem known_lifted (os : Os) (started : os.Started) (H : Type) (enc : TypeId × Value → H) :
    ReturnsInHanded {} Try.checked os 7 .any (Rows.scopeKnownSpec.pre6 enc Try.prog Try.f7 Rows.scopeKnownRow.domain false) (Rows.scopeKnownSpec.post enc Try.prog Try.f7 false true false false) := by
  refine returnsInHanded_of_change (C := Try.checked) Try.own started (by kernel_rfl) Try.func7
    (ChangeSpec.witness6 (enc := enc) (C := Try.checked) false ⟨#[], #[], []⟩ 8 (by kernel_rfl) (by kernel_rfl) (by kernel_rfl) (by kernel_rfl)) ?_
  intro W base args ds gs before hval0 hW hcnd _
  have hval : ∀ (j : Nat) t v, Try.f7.params[j]? = some t → args[j]? = some v → Value.okWide Try.prog W .any base t v := hval0
  have hW' := hW
  obtain ⟨p, q, hA0, hV, rfl, hfz, hnd⟩ := hW
  have hA : DataW.TrodAll enc Try.prog W 0 (fun _ => true) true Try.f7.params.toList args.toList ds p := hA0
  rw [Try.params7] at hA hval
  obtain ⟨hargs, rfl⟩ : args.toList = [] ∧ ds = [] := trodAll_zero hA
  have hargs' : args = #[] := Array.toList_inj.1 hargs
  subst hargs'
  obtain ⟨rfl, rfl⟩ := trodVars_none hV
  obtain ⟨H', hcall⟩ := known7 ext1_none copyOK1 ext1_nil (heapOf_rel Try.prog W).fresh
  refine (entry ext1_ok Try.mixed Try.func7 hcall rfl .nil).mono fun e W' ⟨he, hw⟩ => ?_
  subst he
  exact ⟨_, rfl, post_true Try.kids Try.full hW' (by rw [Try.params7]; intro t ht; simp at ht) rfl rfl (und_of Try.underlying4) rfl rfl rfl hw⟩

theorem scopeKnown_holds : Rows.ScopeKnownSaid :=
  OpenClaim.holds_of_wide 7 Try.f7 rfl rfl rfl rfl rfl rfl rfl ⟨rfl, rfl, rfl, rfl, rfl⟩ rfl rfl rfl rfl rfl (by kernel_rfl) Try.func7 (by kernel_rfl)
    (of_decide_eq_true (by kernel_rfl)) (by unfold Func.isWrapper; rw [if_neg (of_decide_eq_false (by kernel_rfl))]; exact ⟨rfl, rfl⟩)
    (fun os started H enc _ => known_lifted os started H enc)

end Go.Proofs.Ytnjoaffnfjlcaaa
