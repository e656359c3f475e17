/-
  No cell of these rows narrows 'for every input' (looked for: loops, veiled, ifaces, maps, wideKeys, modest, calm, conditions, laid).
  DERIVED. THE GIVEN ROWS OF THIS SEAT. 5 by the template 'for every input the law returns true; each argument reads behind the call as it read before'; 0 by the template 'total and deterministic' (their statements: YtnjoaffnfjlcaaaTotals.lean).
  GIVEN WITH THE SEED: the statements are not yours to turn. If you find one false, say at which input.
  Laid BY PROGRAM, IN A SANDBOX (cutbox-rows.mjs): the forced cells as the released guide's own fill.sh prints them over the translation 2f85fba33948d250… (all of the seat's roots in one cut). By AI agents, Wed Nov 11 2026. No macro, syntax, notation, axiom, sorry.
-/
import Derived.Test.YtnjoaffnfjlcaaaChecked
import GoSem.Claim
import GoSem.ClaimJoined
import GoSem.ClaimMapViews
import Derived.JoinedTies
import Derived.KernelRfl
namespace Go.Proofs.Ytnjoaffnfjlcaaa
/- THE CELL 'sum', in the pinned program and in every row, IS THE sha256 OF THE DUMP (.gsa) THAT YtnjoaffnfjlcaaaProg.lean LOADS. Nothing in Lean hashes anything: it is a label: what it is worth is what the hold of that sum in a sandbox is worth. -/
noncomputable def Try.pinned : Pinned := { name := "ytnjoaffnfjlcaaa", sum := "2f85fba33948d250d493c87b3c1f32a1174a539e8f9e4ef367bf0ee960a1a280", checked := Try.checked }
namespace Rows
def none {H : Type} : Left H := { results := [], args := [] }

/-- 'trammellaw07.ScopeBlocks': WHATEVER THE INPUT: true; the input reads as it did. -/
def scopeBlocksSpec : ChangeSpec := { name := "scopeBlocks", fn := fun _ => fun
  | [d1, d2, d3, d4] => { results := [.lit (.bool true)], args := [d1, d2, d3, d4] }
  | _ => none }
def scopeBlocksRow : OpenClaim := { program := "ytnjoaffnfjlcaaa", sum := "2f85fba33948d250d493c87b3c1f32a1174a539e8f9e4ef367bf0ee960a1a280", func := "trammel/trammellaw07.ScopeBlocks", spec := "scopeBlocks", unfollowed := true, recurses := true, apart := false }
def ScopeBlocksSaid : Prop := scopeBlocksRow.holds Try.pinned (OpenSpec.ofChange scopeBlocksSpec)

/-- ITS FALSE NEIGHBOUR: 'it returns false'. Refute it at one input. -/
def scopeBlocksWrong : ChangeSpec := { name := "scopeBlocks", fn := fun _ => fun
  | [d1, d2, d3, d4] => { results := [.lit (.bool false)], args := [d1, d2, d3, d4] }
  | _ => none }
def ScopeBlocksWrongFalsely : Prop := scopeBlocksRow.holds Try.pinned (OpenSpec.ofChange scopeBlocksWrong)

/-- 'trammellaw07.ScopeRises': WHATEVER THE INPUT: true; the input reads as it did. -/
def scopeRisesSpec : ChangeSpec := { name := "scopeRises", fn := fun _ => fun
  | [d] => { results := [.lit (.bool true)], args := [d] }
  | _ => none }
def scopeRisesRow : OpenClaim := { program := "ytnjoaffnfjlcaaa", sum := "2f85fba33948d250d493c87b3c1f32a1174a539e8f9e4ef367bf0ee960a1a280", func := "trammel/trammellaw07.ScopeRises", spec := "scopeRises", unfollowed := true, recurses := true, apart := false }
def ScopeRisesSaid : Prop := scopeRisesRow.holds Try.pinned (OpenSpec.ofChange scopeRisesSpec)

/-- ITS FALSE NEIGHBOUR: 'it returns false'. Refute it at one input. -/
def scopeRisesWrong : ChangeSpec := { name := "scopeRises", fn := fun _ => fun
  | [d] => { results := [.lit (.bool false)], args := [d] }
  | _ => none }
def ScopeRisesWrongFalsely : Prop := scopeRisesRow.holds Try.pinned (OpenSpec.ofChange scopeRisesWrong)

/-- 'trammellaw07.ScopePlays': WHATEVER THE INPUT: true; the input reads as it did. -/
def scopePlaysSpec : ChangeSpec := { name := "scopePlays", fn := fun _ => fun
  | [d] => { results := [.lit (.bool true)], args := [d] }
  | _ => none }
def scopePlaysRow : OpenClaim := { program := "ytnjoaffnfjlcaaa", sum := "2f85fba33948d250d493c87b3c1f32a1174a539e8f9e4ef367bf0ee960a1a280", func := "trammel/trammellaw07.ScopePlays", spec := "scopePlays", unfollowed := true, recurses := true, apart := false }
def ScopePlaysSaid : Prop := scopePlaysRow.holds Try.pinned (OpenSpec.ofChange scopePlaysSpec)

/-- ITS FALSE NEIGHBOUR: 'it returns false'. Refute it at one input. -/
def scopePlaysWrong : ChangeSpec := { name := "scopePlays", fn := fun _ => fun
  | [d] => { results := [.lit (.bool false)], args := [d] }
  | _ => none }
def ScopePlaysWrongFalsely : Prop := scopePlaysRow.holds Try.pinned (OpenSpec.ofChange scopePlaysWrong)

/-- 'trammellaw07.ScopeNone': WHATEVER THE INPUT: true; the input reads as it did. -/
def scopeNoneSpec : ChangeSpec := { name := "scopeNone", fn := fun _ => fun
  | [d1, d2, d3] => { results := [.lit (.bool true)], args := [d1, d2, d3] }
  | _ => none }
def scopeNoneRow : OpenClaim := { program := "ytnjoaffnfjlcaaa", sum := "2f85fba33948d250d493c87b3c1f32a1174a539e8f9e4ef367bf0ee960a1a280", func := "trammel/trammellaw07.ScopeNone", spec := "scopeNone", unfollowed := true, recurses := true, apart := false }
def ScopeNoneSaid : Prop := scopeNoneRow.holds Try.pinned (OpenSpec.ofChange scopeNoneSpec)

/-- ITS FALSE NEIGHBOUR: 'it returns false'. Refute it at one input. -/
def scopeNoneWrong : ChangeSpec := { name := "scopeNone", fn := fun _ => fun
  | [d1, d2, d3] => { results := [.lit (.bool false)], args := [d1, d2, d3] }
  | _ => none }
def ScopeNoneWrongFalsely : Prop := scopeNoneRow.holds Try.pinned (OpenSpec.ofChange scopeNoneWrong)

/-- 'trammellaw07.ScopeKnown': WHATEVER THE INPUT: true; the input reads as it did. -/
def scopeKnownSpec : ChangeSpec := { name := "scopeKnown", fn := fun _ => fun
  | [] => { results := [.lit (.bool true)], args := [] }
  | _ => none }
def scopeKnownRow : OpenClaim := { program := "ytnjoaffnfjlcaaa", sum := "2f85fba33948d250d493c87b3c1f32a1174a539e8f9e4ef367bf0ee960a1a280", func := "trammel/trammellaw07.ScopeKnown", spec := "scopeKnown", unfollowed := true, recurses := true, apart := false }
def ScopeKnownSaid : Prop := scopeKnownRow.holds Try.pinned (OpenSpec.ofChange scopeKnownSpec)

/-- ITS FALSE NEIGHBOUR: 'it returns false'. Refute it at one input. -/
def scopeKnownWrong : ChangeSpec := { name := "scopeKnown", fn := fun _ => fun
  | [] => { results := [.lit (.bool false)], args := [] }
  | _ => none }
def ScopeKnownWrongFalsely : Prop := scopeKnownRow.holds Try.pinned (OpenSpec.ofChange scopeKnownWrong)

/- THE SECOND FORM. 'bulk': how many values and letters a reading holds, each counted each time it is reached (what is shared counts as often as it is met; a slice's spare places count too). A statement '..UptoSaid' is the law's where the arguments, and the package variables that the reading takes, are together of bulk at most 1048576: NARROWER than '..Said'. Prove '..Said' where nothing that the law and all that it calls make is longer than what came in: it says more and counts as full. Else prove '..UptoSaid'. A law counts once. -/
mutual
def uptoBulk {H : Type} : DataW H → Nat
  | .lit (.string bytes) => bytes.length + 1
  | .lit _ => 1
  | .nil => 1
  | .ptr d => uptoBulk d + 1
  | .slice elems spare => uptoBulkAll elems + uptoBulkAll spare + 1
  | .agg parts => uptoBulkAll parts + 1
  | .iface _ d => uptoBulk d + 1
  | .map entries => uptoBulkEntries entries + 1
  | .held _ => 1
def uptoBulkAll {H : Type} : List (DataW H) → Nat
  | [] => 0
  | d :: r => uptoBulk d + uptoBulkAll r
def uptoBulkEntries {H : Type} : List (Lit × DataW H) → Nat
  | [] => 0
  | x :: r => uptoBulkEntry x + uptoBulkEntries r
def uptoBulkEntry {H : Type} : Lit × DataW H → Nat
  | (.string bytes, d) => bytes.length + uptoBulk d + 1
  | (_, d) => uptoBulk d + 1
 end
def uptoSmall : (H : Type) → List (DataW H) → Bool := fun _ ds => decide (uptoBulkAll ds ≤ 1048576)
def OpenSpec.upto (s : _root_.Go.ChangeSpec) : _root_.Go.OpenSpec := { _root_.Go.OpenSpec.ofChange s with cond := some uptoSmall }

/-- 'trammellaw07.ScopeBlocks', WHERE WHAT IT READS IS OF BULK AT MOST 1048576: true; the input reads as it did. -/
def scopeBlocksUptoRow : OpenClaim := { program := "ytnjoaffnfjlcaaa", sum := "2f85fba33948d250d493c87b3c1f32a1174a539e8f9e4ef367bf0ee960a1a280", func := "trammel/trammellaw07.ScopeBlocks", spec := "scopeBlocks", unfollowed := true, recurses := true, apart := false, narrowed := true }
def ScopeBlocksUptoSaid : Prop := scopeBlocksUptoRow.holds Try.pinned (OpenSpec.upto scopeBlocksSpec)

/-- 'trammellaw07.ScopeRises', WHERE WHAT IT READS IS OF BULK AT MOST 1048576: true; the input reads as it did. -/
def scopeRisesUptoRow : OpenClaim := { program := "ytnjoaffnfjlcaaa", sum := "2f85fba33948d250d493c87b3c1f32a1174a539e8f9e4ef367bf0ee960a1a280", func := "trammel/trammellaw07.ScopeRises", spec := "scopeRises", unfollowed := true, recurses := true, apart := false, narrowed := true }
def ScopeRisesUptoSaid : Prop := scopeRisesUptoRow.holds Try.pinned (OpenSpec.upto scopeRisesSpec)

/-- 'trammellaw07.ScopePlays', WHERE WHAT IT READS IS OF BULK AT MOST 1048576: true; the input reads as it did. -/
def scopePlaysUptoRow : OpenClaim := { program := "ytnjoaffnfjlcaaa", sum := "2f85fba33948d250d493c87b3c1f32a1174a539e8f9e4ef367bf0ee960a1a280", func := "trammel/trammellaw07.ScopePlays", spec := "scopePlays", unfollowed := true, recurses := true, apart := false, narrowed := true }
def ScopePlaysUptoSaid : Prop := scopePlaysUptoRow.holds Try.pinned (OpenSpec.upto scopePlaysSpec)

/-- 'trammellaw07.ScopeNone', WHERE WHAT IT READS IS OF BULK AT MOST 1048576: true; the input reads as it did. -/
def scopeNoneUptoRow : OpenClaim := { program := "ytnjoaffnfjlcaaa", sum := "2f85fba33948d250d493c87b3c1f32a1174a539e8f9e4ef367bf0ee960a1a280", func := "trammel/trammellaw07.ScopeNone", spec := "scopeNone", unfollowed := true, recurses := true, apart := false, narrowed := true }
def ScopeNoneUptoSaid : Prop := scopeNoneUptoRow.holds Try.pinned (OpenSpec.upto scopeNoneSpec)

/-- 'trammellaw07.ScopeKnown', WHERE WHAT IT READS IS OF BULK AT MOST 1048576: true; the input reads as it did. -/
def scopeKnownUptoRow : OpenClaim := { program := "ytnjoaffnfjlcaaa", sum := "2f85fba33948d250d493c87b3c1f32a1174a539e8f9e4ef367bf0ee960a1a280", func := "trammel/trammellaw07.ScopeKnown", spec := "scopeKnown", unfollowed := true, recurses := true, apart := false, narrowed := true }
def ScopeKnownUptoSaid : Prop := scopeKnownUptoRow.holds Try.pinned (OpenSpec.upto scopeKnownSpec)

end Rows
end Go.Proofs.Ytnjoaffnfjlcaaa
