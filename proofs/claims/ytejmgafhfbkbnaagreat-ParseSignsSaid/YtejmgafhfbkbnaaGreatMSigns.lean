/-
  'Which sign binds more': for every two numbers the law returns true, and its arguments read behind the call as they read before. No conditions.
-/
import Derived.Test.YtejmgafhfbkbnaaGreatRows
import Derived.Test.YtejmgafhfbkbnaaGreatPSR0
import Derived.Test.YtejmgafhfbkbnaaGreatPSR1
import Derived.Test.YtejmgafhfbkbnaaGreatPSR2
import Derived.Test.YtejmgafhfbkbnaaGreatPSR3
import Derived.Test.YtejmgafhfbkbnaaGreatPSR4
import Derived.Test.YtejmgafhfbkbnaaGreatPSR5
import Derived.Test.YtejmgafhfbkbnaaGreatPSR6
import Derived.Test.YtejmgafhfbkbnaaGreatPSR7
import Derived.Test.YtejmgafhfbkbnaaGreatPSR8
import Derived.Test.YtejmgafhfbkbnaaGreatPSR9
import Derived.Test.YtejmgafhfbkbnaaGreatPSR10
import Derived.Test.YtejmgafhfbkbnaaGreatPSR11
import Derived.Test.YtejmgafhfbkbnaaGreatPSR12
import Derived.Test.YtejmgafhfbkbnaaGreatPSR13
import Derived.Test.YtejmgafhfbkbnaaGreatPSR14
import Derived.Test.YtejmgafhfbkbnaaGreatPSR15
import Derived.Test.YtejmgafhfbkbnaaGreatPSR16
import Derived.Test.YtejmgafhfbkbnaaGreatPSR17
import Derived.ProofKit
import Derived.ChangeMaps5
namespace Go.Proofs.YtejmgafhfbkbnaaGreat
namespace G
open Go B Go.Proofs
theorem chk_all (i k : Int) (a b : Nat) (ha : a < 18) (hb : b < 18) : chk i k a b = true := by
  have hc : a = 0 ∨ a = 1 ∨ a = 2 ∨ a = 3 ∨ a = 4 ∨ a = 5 ∨ a = 6 ∨ a = 7 ∨ a = 8 ∨ a = 9 ∨ a = 10 ∨ a = 11 ∨ a = 12 ∨ a = 13 ∨ a = 14 ∨ a = 15 ∨ a = 16 ∨ a = 17 := by omega
  rcases hc with rfl | rfl | rfl | rfl | rfl | rfl | rfl | rfl | rfl | rfl | rfl | rfl | rfl | rfl | rfl | rfl | rfl | rfl
  · exact chk0 i k b hb
  · exact chk1 i k b hb
  · exact chk2 i k b hb
  · exact chk3 i k b hb
  · exact chk4 i k b hb
  · exact chk5 i k b hb
  · exact chk6 i k b hb
  · exact chk7 i k b hb
  · exact chk8 i k b hb
  · exact chk9 i k b hb
  · exact chk10 i k b hb
  · exact chk11 i k b hb
  · exact chk12 i k b hb
  · exact chk13 i k b hb
  · exact chk14 i k b hb
  · exact chk15 i k b hb
  · exact chk16 i k b hb
  · exact chk17 i k b hb
end G
end Go.Proofs.YtejmgafhfbkbnaaGreat
namespace Go.Proofs.YtejmgafhfbkbnaaGreat
open Go Go.Proofs B G Go.ChangeShapes Go.WideShapes Go.ChangeAt Go.RowKit Go.ChangeMaps

theorem Tryz.own : ownKnob Tryz.prog.godebug = none := by kernel_rfl
theorem Tryz.laidOut : laidOutB Tryz.prog = true := by kernel_rfl
theorem Tryz.mapsRow : mapsRowed Tryz.prog = true := by kernel_rfl
theorem Tryz.kids : Kids Tryz.prog (· < Tryz.prog.types.size) := kids_rows Tryz.laidOut Tryz.mapsRow
theorem Tryz.full : ∀ t e, t < Tryz.prog.types.size → Tryz.prog.underlying t = some (.slice e) → 0 < Tryz.prog.cellsOf e := slices_full_of Tryz.prog (by kernel_rfl)
theorem Tryz.mixed : Tryz.prog.follows .mixedOrders = true := Tryz.checked.mixed
theorem Tryz.typesSize : Tryz.prog.types.size = 136 := by kernel_rfl

set_option maxRecDepth 100000 in
theorem signs_lifted (hall : ∀ (i k : Int) (a b : Nat), a < 18 → b < 18 → chk i k a b = true) (os : Os) (started : os.Started) (H : Type) (enc : TypeId × Value → H) :
    ReturnsInHanded {} Tryz.checked os 4 .any (Rows.parseSignsSpec.pre6 enc Tryz.prog Tryz.f4 Rows.parseSignsRow.domain false) (Rows.parseSignsSpec.post enc Tryz.prog Tryz.f4 false true false false) := by
  refine returnsInHanded_of_change (C := Tryz.checked) Tryz.own started (by kernel_rfl) Tryz.func4
    (ChangeSpec.witness6 (enc := enc) (C := Tryz.checked) false ⟨#[], #[.int .i64 0, .int .i64 0], []⟩ 8 (by kernel_rfl) (by kernel_rfl) (by kernel_rfl) (by kernel_rfl)) ?_
  intro W base args ds gs before hval0 hW hcnd _
  have hval : ∀ (j : Nat) t v, Tryz.f4.params[j]? = some t → args[j]? = some v → Value.okWide Tryz.prog W .any base t v := hval0
  have hW' := hW
  obtain ⟨p, q, hA0, hV, rfl, hfz, hnd⟩ := hW
  have hA : DataW.TrodAll enc Tryz.prog W 0 (fun _ => true) true Tryz.f4.params.toList args.toList ds p := hA0
  have hps : Tryz.f4.params = #[3, 3] := by kernel_rfl
  rw [hps] at hA hval
  obtain ⟨v0, v1, d0, d1, p0, p1, rfl, rfl, rfl, h0, h1⟩ := trodAll_two hA
  obtain ⟨rfl, rfl⟩ := trodVars_none hV
  obtain ⟨a, rfl, rfl, rfl, wa⟩ := open_int Tryz.underlying3 (hval 0 3 v0 rfl rfl) h0
  obtain ⟨b, rfl, rfl, rfl, wb⟩ := open_int Tryz.underlying3 (hval 1 3 v1 rfl rfl) h1
  obtain ⟨H', hc⟩ := signs_any hall a b
  have hext := extC_ok (extT_ok Tryz.mixed tblX_ok) Tryz.mixed Tryz.func4 rfl hc rfl
  refine (entry hext Tryz.mixed Tryz.func4 (extC_call (H := heapOf W)) rfl (.cons (.closed rfl) (.cons (.closed rfl) .nil))).mono fun e W' ⟨he, hw⟩ => ?_
  subst he
  exact ⟨_, rfl, post_true Tryz.kids Tryz.full hW' (by rw [hps]; intro t ht; simp at ht; rw [ht]; show 3 < Tryz.prog.types.size; rw [Tryz.typesSize]; decide) rfl rfl (und_of Tryz.underlying4) rfl rfl rfl hw⟩

theorem signs_holds (hall : ∀ (i k : Int) (a b : Nat), a < 18 → b < 18 → chk i k a b = true) : Rows.ParseSignsSaid :=
  OpenClaim.holds_of_wide 4 Tryz.f4 rfl rfl rfl rfl rfl rfl rfl ⟨rfl, rfl, rfl, rfl, rfl⟩ rfl rfl rfl rfl rfl (by kernel_rfl) Tryz.func4 (by kernel_rfl)
    (of_decide_eq_true (by kernel_rfl)) (by unfold Func.isWrapper; rw [if_neg (of_decide_eq_false (by kernel_rfl))]; exact ⟨rfl, rfl⟩)
    (fun os started H enc _ => signs_lifted hall os started H enc)
theorem parseSigns_holds : Rows.ParseSignsSaid := signs_holds chk_all
end Go.Proofs.YtejmgafhfbkbnaaGreat
