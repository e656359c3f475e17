/-
  Joined by program out of B21, B22a, B22, B23, B24, B25, B26, B27, B28, B29, B30, B31, B32, B33, B34, B35, B36.
-/
import Derived.Test.YtmjmpaceopipbaaGreatM2
import Derived.RangeFuncLeaves
import Derived.RecoverIn
import Derived.ProofKit
import Derived.ReadAgain
namespace Go.Proofs.YtmjmpaceopipbaaGreat
namespace B
open Go
def RisingC (c : Nat → CallT) : Prop := ∀ k k', k ≤ k' → CallT.le (c k) (c k')
theorem RisingC.at {c : Nat → CallT} (h : RisingC c) (f : FuncId) (args : List Value) (H : AHeap) : Rising fun k => c k f args H := fun k k' r hk hr => h k k' hk f args H r hr
noncomputable def limC (c : Nat → CallT) : CallT := fun f args H => lim fun k => c k f args H
theorem limC_some {c : Nat → CallT} (h : RisingC c) {f : FuncId} {args : List Value} {H : AHeap} {r : AEnd × AHeap} : limC c f args H = some r ↔ ∃ k, c k f args H = some r := lim_some (h.at f args H)
theorem le_limC {c : Nat → CallT} (h : RisingC c) (k : Nat) : CallT.le (c k) (limC c) := fun _ _ _ _ hr => (limC_some h).2 ⟨k, hr⟩
section
variable {P : Program} {c : Nat → CallT}
theorem evalIdx_cont (hc : RisingC c) {rnd : Bool} {ops : List Oper} {r : AExit × St} : ∀ (is : List Nat) (s : St), evalIdx P (limC c) rnd ops is s = some r → ∃ k, evalIdx P (c k) rnd ops is s = some r
 | [], s, h => ⟨0, h⟩
 | i :: rest, s, h => by
  unfold evalIdx at h
  unfold evalIdx
  cases ho : ops[i]? with
  | none => rw [ho] at h; exact evalIdx_cont hc rest s h
  | some o =>
   rw [ho] at h
   dsimp only at h ⊢
   split at h
   · rename_i hw
     simp only [if_pos hw]
     split at h
     · rename_i cc hop
       split at h
       case isFalse => simp at h
       rename_i hcc
       simp only [if_pos hcc]
       split at h
       case h_2 => simp at h
       rename_i d hd
       exact evalIdx_cont hc rest _ h
     · rename_i hnd
       split at h
       · exact evalIdx_cont hc rest _ h
       · exact evalIdx_cont hc rest _ h
       · rename_i f args H hev
         split at h
         · rename_i v H' hcall
           obtain ⟨k1, h1⟩ := (limC_some hc).1 hcall
           obtain ⟨k2, h2⟩ := evalIdx_cont hc rest _ h
           refine ⟨max k1 k2, ?_⟩
           rw [hc k1 _ (by omega) _ _ _ _ h1]
           exact evalIdx_mono (hc k2 _ (by omega)) _ _ h2
         · rename_i v H' hcall
           obtain ⟨k1, h1⟩ := (limC_some hc).1 hcall
           exact ⟨k1, by rw [h1]; exact h⟩
         · simp at h
       · exact ⟨0, h⟩
       · simp at h
   · rename_i hw
     simp only [if_neg hw]
     exact evalIdx_cont hc rest _ h
theorem consT_some {t : Tr} {x : Option (List Tr × AHeap × AExit × St)} {r : List Tr × AHeap × AExit × St} (h : consT t x = some r) : ∃ q, x = some q ∧ consT t (some q) = some r := by
 cases x with
 | none => simp [consT] at h
 | some q => exact ⟨q, rfl, h⟩
theorem runPlan_cont (hc : RisingC c) {ops : List Oper} {dfs : List ADef} : ∀ (plan : List Nat) (tm : List Value) (H : AHeap) (r : List Tr × AHeap × AExit × St),
    runPlan P (limC c) ops dfs plan tm H = some r → ∃ k, runPlan P (c k) ops dfs plan tm H = some r := by
 intro plan
 induction plan with
 | nil => intro tm H r h; exact ⟨0, h⟩
 | cons j rest ih =>
  intro tm H r h
  unfold runPlan at h
  unfold runPlan
  cases ho : ops[j]? with
  | none => rw [ho] at h; simp at h
  | some o =>
   rw [ho] at h
   dsimp only at h ⊢
   split at h
   · rename_i hw
     simp only [if_pos hw]
     split at h
     · obtain ⟨q, h1, h2⟩ := consT_some h
       obtain ⟨k, hk⟩ := ih _ _ _ h1
       exact ⟨k, by rw [hk]; exact h2⟩
     · obtain ⟨q, h1, h2⟩ := consT_some h
       obtain ⟨k, hk⟩ := ih _ _ _ h1
       exact ⟨k, by rw [hk]; exact h2⟩
     · split at h
       · rename_i v H' hcall
         obtain ⟨k1, h1⟩ := (limC_some hc).1 hcall
         obtain ⟨q, h3, h4⟩ := consT_some h
         obtain ⟨k2, h2⟩ := ih _ _ _ h3
         refine ⟨max k1 k2, ?_⟩
         rw [hc k1 _ (by omega) _ _ _ _ h1]
         dsimp only
         rw [runPlan_mono (hc k2 (max k1 k2) (by omega)) _ _ _ h2]
         exact h4
       · rename_i v H' hcall
         obtain ⟨k1, h1⟩ := (limC_some hc).1 hcall
         exact ⟨k1, by rw [h1]; exact h⟩
       · simp at h
     · exact ⟨0, h⟩
     · simp at h
   · rename_i hw
     simp only [if_neg hw]
     obtain ⟨q, h1, h2⟩ := consT_some h
     obtain ⟨k, hk⟩ := ih _ _ _ h1
     exact ⟨k, by rw [hk]; exact h2⟩
theorem drawRun_cont (hc : RisingC c) {ops : List Oper} {s : St} {r : AExit × St} (h : drawRun P (limC c) ops s = some r) : ∃ k, drawRun P (c k) ops s = some r := by
 unfold drawRun at h ⊢
 split at h
 · unfold drawRun0 at h ⊢
   split at h
   case h_2 => simp at h
   rename_i T He x s' hr
   obtain ⟨k, hk⟩ := runPlan_cont hc _ _ _ _ hr
   refine ⟨k, ?_⟩
   rw [hk]
   exact h
 · unfold drawSwap at h ⊢
   split at h
   case h_2 => simp at h
   rename_i T He x s' hr
   obtain ⟨k, hk⟩ := runPlan_cont hc _ _ _ _ hr
   refine ⟨k, ?_⟩
   rw [hk]
   exact h
end
def resultA (P : Program) (H : AHeap) (tmps : List Value) : ResultVar → Option Value
 | .tmp t => some (tmps.getD t undef)
 | .cell a t => match tmps.getD a undef with
  | .pointer (some ad) => H.loadV P t ad
  | _ => none
def resultsA (P : Program) (H : AHeap) (tmps : List Value) : List ResultVar → Option (List Value)
 | [] => some []
 | r :: rs => match resultA P H tmps r with
  | some v => match resultsA P H tmps rs with
   | some vs => some (v :: vs)
   | none => none
  | none => none
def packA : List Value → Value
 | [v] => v
 | vs => .tuple vs.toArray
def enterA (fn : Func) (args : List Value) (H : AHeap) : St := ⟨args ++ List.replicate (fn.ntmps - args.length) undef, [], H⟩
abbrev Mode := Option (Value × Bool)
def isRecover (o : Oper) : Bool :=
 match o.op with
 | .call c => match c.callee with
  | .builtin .recover => true
  | _ => false
 | _ => false
def recoverA : Mode → Value × Mode
 | some (v, false) => (v, some (v, true))
 | m => (.nilIface, m)
def settleA : Mode → Mode
 | some (_, true) => none
 | m => m
def evalIdxS (P : Program) (ops : List Oper) : List Nat → Mode → St → Option (AExit × Mode × St)
 | [], m, s => some (.normal, m, s)
 | i :: rest, m, s => match ops[i]? with
  | none => evalIdxS P ops rest m s
  | some o =>
   if wantedA ops s.tmps o then
    if isRecover o then if o.op.operands.all operandOk then evalIdxS P ops rest (recoverA m).2 { s with tmps := putT o.dst (recoverA m).1 s.tmps } else none
    else match evalAny P s.H (aev s.tmps) o with
     | some (.val v H) => evalIdxS P ops rest m { s with tmps := putT o.dst v s.tmps, H := H }
     | some (.skip H) => evalIdxS P ops rest m { s with tmps := putT o.dst undef s.tmps, H := H }
     | some (.panic v H) => some (.panic v, m, { s with H := H })
     | _ => none
   else evalIdxS P ops rest m { s with tmps := putT o.dst undef s.tmps }
def keepS (m : Mode) : Option (AExit × St) → Option (AExit × Mode × St)
 | some (x, s) => some (x, m, s)
 | none => none
def evalS (P : Program) (code : Code → St → Option (AExit × St)) : Code → Mode → St → Option (AExit × Mode × St)
 | .seq a b, m, s => match evalS P code a m s with
  | some (.normal, m1, s1) => evalS P code b m1 s1
  | r => r
 | .cond c a b, m, s => if operandOk c then match boolOf (aev s.tmps c) with
     | some true => evalS P code a m s
     | some false => evalS P code b m s
     | none => none
  else none
 | .region id ops draw, m, s => if draw = false ∧ ops.toList.any isRecover = true then evalIdxS P ops.toList (List.range ops.size) m s else keepS m (code (.region id ops draw) s)
 | c, m, s => keepS m (code c s)
def leaveS (P : Program) (fn : Func) : Option (AExit × Mode × St) → Option (Mode × AHeap)
 | some (.normal, m, ⟨tmps, [], H⟩) => match resultsA P H tmps fn.results.toList with
  | some _ => some (settleA m, H)
  | none => none
 | some (.ret, m, ⟨tmps, [], H⟩) => match resultsA P H tmps fn.results.toList with
  | some _ => some (settleA m, H)
  | none => none
 | _ => none
def deferredA (P : Program) (code : Code → St → Option (AExit × St)) (d : ADef) (m : Mode) (H : AHeap) : Option (Mode × AHeap) :=
 match P.funcs[d.f]? with
 | some fn => match fn.body with
  | some c => leaveS P fn (evalS P code c m (enterA fn d.args H))
  | none => none
 | none => none
def unwindA (P : Program) (code : Code → St → Option (AExit × St)) : List ADef → Mode → AHeap → Option (Mode × AHeap)
 | [], m, H => some (m, H)
 | d :: ds, m, H => match deferredA P code d m H with
  | some (m1, H1) => unwindA P code ds m1 H1
  | none => none
def endA (P : Program) (rs : List ResultVar) (tmps : List Value) : Option (Mode × AHeap) → Option (AEnd × AHeap)
 | some (none, H) => match resultsA P H tmps rs with
  | some vs => some (.ret (packA vs), H)
  | none => none
 | some (some (v, false), H) => some (.panic v, H)
 | _ => none
def stillA : Option (Mode × AHeap) → Option (AEnd × AHeap)
 | some (some (v, false), H) => some (.panic v, H)
 | _ => none
theorem stillA_some {y : Option (Mode × AHeap)} {r : AEnd × AHeap} (h : stillA y = some r) : ∃ v H, y = some (some (v, false), H) ∧ r = (.panic v, H) := by
 unfold stillA at h
 split at h
 · simp only [Option.some.injEq] at h; exact ⟨_, _, rfl, h.symm⟩
 · cases h
def leaveR (P : Program) (code : Code → St → Option (AExit × St)) (rs : List ResultVar) : Option (AExit × St) → Option (AEnd × AHeap)
 | some (.normal, ⟨tmps, [], H⟩) => match resultsA P H tmps rs with
  | some vs => some (.ret (packA vs), H)
  | none => none
 | some (.ret, ⟨tmps, [], H⟩) => match resultsA P H tmps rs with
  | some vs => some (.ret (packA vs), H)
  | none => none
 | some (.panic v, ⟨_, [], H⟩) => some (.panic v, H)
 | some (.normal, ⟨tmps, d :: ds, H⟩) => endA P rs tmps (unwindA P code (d :: ds) none H)
 | some (.ret, ⟨tmps, d :: ds, H⟩) => endA P rs tmps (unwindA P code (d :: ds) none H)
 | some (.panic v, ⟨t :: tmps, d :: ds, H⟩) => endA P rs (t :: tmps) (unwindA P code (d :: ds) (some (v, false)) H)
 | some (.panic v, ⟨[], d :: ds, H⟩) => stillA (unwindA P code (d :: ds) (some (v, false)) H)
 | _ => none
def CodeLe (a b : Code → St → Option (AExit × St)) : Prop := ∀ c s r, a c s = some r → b c s = some r
theorem evalS_mono {P : Program} {a b : Code → St → Option (AExit × St)} (h : CodeLe a b) : ∀ (c : Code) (m : Mode) (s : St) (r : AExit × Mode × St), evalS P a c m s = some r → evalS P b c m s = some r := by
 have keep : ∀ (c : Code) (m : Mode) (s : St) (r : AExit × Mode × St), keepS m (a c s) = some r → keepS m (b c s) = some r := by
  intro c m s r hr
  cases he : a c s with
  | none => rw [he] at hr; simp [keepS] at hr
  | some q => rw [h c s q he]; rw [he] at hr; exact hr
 intro c
 induction c with
 | seq c1 c2 ih1 ih2 =>
  intro m s r hr
  rw [evalS] at hr ⊢
  split at hr
  · rename_i m1 s1 h1
    rw [ih1 _ _ _ h1]
    exact ih2 _ _ _ hr
  · rename_i hne
    cases he : evalS P a c1 m s with
    | none => rw [he] at hr; simp at hr
    | some q =>
     rw [he] at hr
     rw [ih1 _ _ _ he]
     obtain rfl : q = r := by simpa using hr
     split
     · rename_i m1 s1 h1; exact absurd (he.trans h1) (hne _ _)
     · rfl
 | cond x c1 c2 ih1 ih2 =>
  intro m s r hr
  rw [evalS] at hr ⊢
  split at hr
  case isFalse => simp at hr
  rename_i hok
  rw [if_pos hok]
  split at hr
  · exact ih1 _ _ _ hr
  · exact ih2 _ _ _ hr
  · simp at hr
 | region id ops draw =>
  intro m s r hr
  rw [evalS] at hr ⊢
  split at hr
  · rename_i hc; rw [if_pos hc]; exact hr
  · rename_i hc; rw [if_neg hc]; exact keep _ _ _ _ hr
 | skip => intro m s r hr; exact keep _ _ _ _ hr
 | block _ _ _ => intro m s r hr; exact keep _ _ _ _ hr
 | loop _ _ => intro m s r hr; exact keep _ _ _ _ hr
 | exit _ => intro m s r hr; exact keep _ _ _ _ hr
 | ret => intro m s r hr; exact keep _ _ _ _ hr
 | label _ => intro m s r hr; exact keep _ _ _ _ hr
 | rangeFunc _ _ _ _ _ _ => intro m s r hr; exact keep _ _ _ _ hr
 | scope _ _ => intro m s r hr; exact keep _ _ _ _ hr
 | goto _ => intro m s r hr; exact keep _ _ _ _ hr
 | refuse _ => intro m s r hr; exact keep _ _ _ _ hr
theorem deferredA_mono {P : Program} {a b : Code → St → Option (AExit × St)} (h : CodeLe a b) {d : ADef} {m : Mode} {H : AHeap} {r : Mode × AHeap} (hr : deferredA P a d m H = some r) : deferredA P b d m H = some r := by
 unfold deferredA at hr ⊢
 split at hr
 case h_2 => simp at hr
 rename_i fn hf
 try rw [hf]
 try dsimp only
 split at hr
 case h_2 => simp at hr
 rename_i c hc
 try rw [hc]
 try dsimp only
 cases he : evalS P a c m (enterA fn d.args H) with
 | none => rw [he] at hr; simp [leaveS] at hr
 | some q => rw [evalS_mono h _ _ _ _ he]; rw [he] at hr; exact hr
theorem unwindA_mono {P : Program} {a b : Code → St → Option (AExit × St)} (h : CodeLe a b) : ∀ (ds : List ADef) (m : Mode) (H : AHeap) (r : Mode × AHeap), unwindA P a ds m H = some r → unwindA P b ds m H = some r
 | [], _, _, _, hr => hr
 | d :: ds, m, H, r, hr => by
  unfold unwindA at hr ⊢
  split at hr
  · rename_i m1 H1 h1
    rw [deferredA_mono h h1]
    exact unwindA_mono h ds _ _ _ hr
  · simp at hr
theorem endA_mono {P : Program} {rs : List ResultVar} {tm : List Value} {x y : Option (Mode × AHeap)} (h : ∀ q, x = some q → y = some q) {r : AEnd × AHeap} (hr : endA P rs tm x = some r) : endA P rs tm y = some r := by
 cases x with
 | none => simp [endA] at hr
 | some q => rw [h q rfl]; exact hr
theorem leaveR_mono {P : Program} {a b : Code → St → Option (AExit × St)} (h : CodeLe a b) {rs : List ResultVar} {x : Option (AExit × St)} {r : AEnd × AHeap} (hr : leaveR P a rs x = some r) : leaveR P b rs x = some r := by
 unfold leaveR at hr ⊢
 split at hr
 · exact hr
 · exact hr
 · exact hr
 · exact endA_mono (unwindA_mono h _ _ _) hr
 · exact endA_mono (unwindA_mono h _ _ _) hr
 · exact endA_mono (unwindA_mono h _ _ _) hr
 · obtain ⟨v, H, h1, rfl⟩ := stillA_some hr
   show stillA (unwindA P b _ _ _) = _
   rw [unwindA_mono h _ _ _ _ h1]; rfl
 · simp at hr
structure CodeLim (row : Nat → Code → St → Option (AExit × St)) (top : Code → St → Option (AExit × St)) : Prop where
 up : ∀ k k', k ≤ k' → CodeLe (row k) (row k')
 ex : ∀ c s r, top c s = some r → ∃ k, row k c s = some r
theorem evalS_cont {P : Program} {row : Nat → Code → St → Option (AExit × St)} {top : Code → St → Option (AExit × St)} (h : CodeLim row top) : ∀ (c : Code) (m : Mode) (s : St) (r : AExit × Mode × St), evalS P top c m s = some r → ∃ k, evalS P (row k) c m s = some r := by
 have keep : ∀ (c : Code) (m : Mode) (s : St) (r : AExit × Mode × St), keepS m (top c s) = some r → ∃ k, keepS m (row k c s) = some r := by
  intro c m s r hr
  cases he : top c s with
  | none => rw [he] at hr; simp [keepS] at hr
  | some q => obtain ⟨k, hk⟩ := h.ex c s q he; exact ⟨k, by rw [hk]; rw [he] at hr; exact hr⟩
 intro c
 induction c with
 | seq c1 c2 ih1 ih2 =>
  intro m s r hr
  rw [evalS] at hr
  split at hr
  · rename_i m1 s1 h1
    obtain ⟨k1, h1⟩ := ih1 _ _ _ h1
    obtain ⟨k2, h2⟩ := ih2 _ _ _ hr
    refine ⟨max k1 k2, ?_⟩
    rw [evalS, evalS_mono (h.up k1 (max k1 k2) (by omega)) _ _ _ _ h1]
    exact evalS_mono (h.up k2 (max k1 k2) (by omega)) _ _ _ _ h2
  · rename_i hne
    cases he : evalS P top c1 m s with
    | none => rw [he] at hr; simp at hr
    | some q =>
     obtain ⟨k, hk⟩ := ih1 _ _ _ he
     refine ⟨k, ?_⟩
     rw [evalS, hk]
     rw [he] at hr
     obtain rfl : q = r := by simpa using hr
     split
     · rename_i m1 s1 h1; exact absurd (he.trans h1) (hne _ _)
     · rfl
 | cond x c1 c2 ih1 ih2 =>
  intro m s r hr
  rw [evalS] at hr
  split at hr
  case isFalse => simp at hr
  rename_i hok
  split at hr
  · rename_i hb
    obtain ⟨k, hk⟩ := ih1 _ _ _ hr
    exact ⟨k, by rw [evalS, if_pos hok, hb]; exact hk⟩
  · rename_i hb
    obtain ⟨k, hk⟩ := ih2 _ _ _ hr
    exact ⟨k, by rw [evalS, if_pos hok, hb]; exact hk⟩
  · simp at hr
 | region id ops draw =>
  intro m s r hr
  rw [evalS] at hr
  split at hr
  · rename_i hc; exact ⟨0, by rw [evalS, if_pos hc]; exact hr⟩
  · rename_i hc
    obtain ⟨k, hk⟩ := keep _ _ _ _ hr
    exact ⟨k, by rw [evalS, if_neg hc]; exact hk⟩
 | skip => intro m s r hr; exact keep _ _ _ _ hr
 | block _ _ _ => intro m s r hr; exact keep _ _ _ _ hr
 | loop _ _ => intro m s r hr; exact keep _ _ _ _ hr
 | exit _ => intro m s r hr; exact keep _ _ _ _ hr
 | ret => intro m s r hr; exact keep _ _ _ _ hr
 | label _ => intro m s r hr; exact keep _ _ _ _ hr
 | rangeFunc _ _ _ _ _ _ => intro m s r hr; exact keep _ _ _ _ hr
 | scope _ _ => intro m s r hr; exact keep _ _ _ _ hr
 | goto _ => intro m s r hr; exact keep _ _ _ _ hr
 | refuse _ => intro m s r hr; exact keep _ _ _ _ hr
theorem unwindA_cont {P : Program} {row : Nat → Code → St → Option (AExit × St)} {top : Code → St → Option (AExit × St)} (h : CodeLim row top) : ∀ (ds : List ADef) (m : Mode) (H : AHeap) (r : Mode × AHeap), unwindA P top ds m H = some r → ∃ k, unwindA P (row k) ds m H = some r
 | [], _, _, _, hr => ⟨0, hr⟩
 | d :: ds, m, H, r, hr => by
  unfold unwindA at hr
  split at hr
  case h_2 => simp at hr
  rename_i m1 H1 h1
  obtain ⟨k2, h2⟩ := unwindA_cont h ds _ _ _ hr
  have key : ∃ k1, deferredA P (row k1) d m H = some (m1, H1) := by
   unfold deferredA at h1
   split at h1
   case h_2 => simp at h1
   rename_i fn hf
   split at h1
   case h_2 => simp at h1
   rename_i c hc
   cases he : evalS P top c m (enterA fn d.args H) with
   | none => rw [he] at h1; simp [leaveS] at h1
   | some q =>
    obtain ⟨k, hk⟩ := evalS_cont h _ _ _ _ he
    refine ⟨k, ?_⟩
    unfold deferredA
    rw [hf]; dsimp only
    rw [hc]; dsimp only
    rw [hk]; rw [he] at h1; exact h1
  obtain ⟨k1, h1⟩ := key
  refine ⟨max k1 k2, ?_⟩
  unfold unwindA
  rw [deferredA_mono (h.up k1 (max k1 k2) (by omega)) h1]
  exact unwindA_mono (h.up k2 (max k1 k2) (by omega)) _ _ _ _ h2
theorem leaveR_cont {P : Program} {row : Nat → Code → St → Option (AExit × St)} {top : Code → St → Option (AExit × St)} (h : CodeLim row top) {rs : List ResultVar} {x : Option (AExit × St)} {r : AEnd × AHeap} (hr : leaveR P top rs x = some r) : ∃ k, leaveR P (row k) rs x = some r := by
 have key : ∀ (tm : List Value) (ds : List ADef) (m : Mode) (H : AHeap), endA P rs tm (unwindA P top ds m H) = some r → ∃ k, endA P rs tm (unwindA P (row k) ds m H) = some r := by
  intro tm ds m H he
  cases hu : unwindA P top ds m H with
  | none => rw [hu] at he; simp [endA] at he
  | some q =>
   obtain ⟨k, hk⟩ := unwindA_cont h _ _ _ _ hu
   exact ⟨k, by rw [hk]; rw [hu] at he; exact he⟩
 unfold leaveR at hr
 split at hr
 · exact ⟨0, hr⟩
 · exact ⟨0, hr⟩
 · exact ⟨0, hr⟩
 · obtain ⟨k, hk⟩ := key _ _ _ _ hr; exact ⟨k, hk⟩
 · obtain ⟨k, hk⟩ := key _ _ _ _ hr; exact ⟨k, hk⟩
 · obtain ⟨k, hk⟩ := key _ _ _ _ hr; exact ⟨k, hk⟩
 · obtain ⟨v, H, h1, rfl⟩ := stillA_some hr
   obtain ⟨k, hk⟩ := unwindA_cont h _ _ _ _ h1
   refine ⟨k, ?_⟩
   show stillA (unwindA P (row k) _ _ _) = _
   rw [hk]; rfl
 · simp at hr
def setAll (ps : List Tmp) (args tmps : List Value) : List Value := (ps.zip args).foldl (fun tmps p => tmps.set p.1 p.2) tmps
def roundB (K : Nat) : Option (AExit × St) → Option (AEnd × AHeap)
 | some (x, s2) => match jumpOf x with
  | some j => match s2.H.get K with
   | some (.loop r2) => some (.ret (.bool j.isNone), s2.H.set K (.loop { r2 with state := if j.isNone then .ready else .done, pending := j }))
   | _ => none
  | none => none
 | none => none
def roundA (K : Nat) (x : Option (AExit × St)) (k : St → Option (AExit × St)) : Option (AEnd × AHeap) :=
 match x with
 | some (.normal, s1) => match s1.H.get K with
  | some (.loop r1) => if r1.state = .ready then roundB K (k ⟨s1.tmps, s1.dfs, s1.H.set K (.loop { r1 with state := .busy })⟩) else none
  | _ => none
 | _ => none
noncomputable def evalRound (P : Program) (call : CallT) (k : Nat) (K : Nat) (args : List Value) (H : AHeap) : Option (AEnd × AHeap) :=
 match H.get K with
 | some (.loop r) => roundA K (evalCode P call true k r.assign ⟨setAll r.params.toList args r.tmps, [], H⟩) (fun s => evalCode P call true k r.body s)
 | _ => none
noncomputable def evalBody (P : Program) (call : CallT) (k : Nat) (f : FuncId) (args : List Value) (H : AHeap) : Option (AEnd × AHeap) :=
 match P.funcs[f]? with
 | some fn => match fn.body with
  | some c => leaveR P (fun c s => evalCode P call false k c s) fn.results.toList (evalCode P call false k c (enterA fn args H))
  | none => none
 | none => evalRound P call k (f - P.funcs.size) args H
noncomputable def evalFn (P : Program) (ext : CallT) : Nat → CallT
 | 0 => ext
 | k + 1 => fun f args H => match ext f args H with
  | some r => some r
  | none => evalBody P (evalFn P ext k) k f args H
noncomputable def theCall (P : Program) (ext : CallT) : CallT := limC (evalFn P ext)
noncomputable def theCode (P : Program) (ext : CallT) (rnd : Bool) (c : Code) (s : St) : Option (AExit × St) := lim fun k => evalCode P (evalFn P ext k) rnd k c s
section
variable {P : Program} {ext : CallT}
theorem roundA_mono {K : Nat} {x x' : Option (AExit × St)} {k k' : St → Option (AExit × St)} {r : AEnd × AHeap} (hx : ∀ q, x = some q → x' = some q) (hk : ∀ s q, k s = some q → k' s = some q) (h : roundA K x k = some r) : roundA K x' k' = some r := by
 unfold roundA at h ⊢
 split at h
 case h_2 => simp at h
 rename_i s1
 rw [hx _ rfl]
 dsimp only
 split at h
 case h_2 => simp at h
 rename_i r1 hr1
 split at h
 case isFalse => simp at h
 rename_i hst
 try rw [hr1]
 try dsimp only
 rw [if_pos hst]
 generalize (⟨s1.tmps, s1.dfs, s1.H.set K (.loop { r1 with state := .busy })⟩ : St) = s at h
 cases he : k s with
 | none => rw [he] at h; simp [roundB] at h
 | some q => rw [hk _ _ he]; rw [he] at h; exact h
theorem evalRound_mono {call call' : CallT} {k k' : Nat} (hle : CallT.le call call') (hk : k ≤ k') {K : Nat} {args : List Value} {H : AHeap} {r : AEnd × AHeap} (h : evalRound P call k K args H = some r) : evalRound P call' k' K args H = some r := by
 unfold evalRound at h ⊢
 split at h
 case h_2 => simp at h
 exact roundA_mono (fun q hq => evalCode_mono _ _ _ _ _ _ _ hle hk hq) (fun s q hq => evalCode_mono _ _ _ _ _ _ _ hle hk hq) h
theorem evalBody_mono {call call' : CallT} {k k' : Nat} (hle : CallT.le call call') (hk : k ≤ k') {f : FuncId} {args : List Value} {H : AHeap} {r : AEnd × AHeap} (h : evalBody P call k f args H = some r) : evalBody P call' k' f args H = some r := by
 unfold evalBody at h ⊢
 split at h
 case h_2 => exact evalRound_mono hle hk h
 rename_i fn hf
 split at h
 case h_2 => simp at h
 rename_i c hb
 try rw [hf]
 try dsimp only
 try rw [hb]
 try dsimp only
 cases he : evalCode P call false k c (enterA fn args H) with
 | none => rw [he] at h; simp [leaveR] at h
 | some q => rw [he] at h; rw [evalCode_mono _ _ _ _ _ _ _ hle hk he]; exact leaveR_mono (fun _ _ _ h => evalCode_mono _ _ _ _ _ _ _ hle hk h) h
theorem evalFn_rising : RisingC (evalFn P ext) := by
 have step : ∀ k, CallT.le (evalFn P ext k) (evalFn P ext (k + 1)) := by
  intro k
  induction k with
  | zero => intro f args H r h; unfold evalFn; rw [show ext f args H = some r from h]
  | succ k ih =>
   intro f args H r h
   rw [evalFn] at h ⊢
   dsimp only at h ⊢
   split at h
   · exact h
   · exact evalBody_mono ih (Nat.le_succ _) h
 intro k k' hk
 induction k' with
 | zero => obtain rfl : k = 0 := by omega
           exact CallT.le_refl _
 | succ k' ih =>
  rcases Nat.lt_or_ge k (k' + 1) with h | h
  · exact fun f args H r hr => step k' _ _ _ _ (ih (by omega) _ _ _ _ hr)
  · obtain rfl : k = k' + 1 := by omega
    exact CallT.le_refl _
theorem theCode_rising {rnd : Bool} {c : Code} {s : St} : Rising fun k => evalCode P (evalFn P ext k) rnd k c s := fun k k' r hk h => evalCode_mono _ _ _ _ _ _ _ (evalFn_rising k k' hk) hk h
theorem theCall_some {f : FuncId} {args : List Value} {H : AHeap} {r : AEnd × AHeap} : theCall P ext f args H = some r ↔ ∃ k, evalFn P ext k f args H = some r := limC_some evalFn_rising
theorem theCode_some {rnd : Bool} {c : Code} {s : St} {r : AExit × St} : theCode P ext rnd c s = some r ↔ ∃ k, evalCode P (evalFn P ext k) rnd k c s = some r := lim_some theCode_rising
theorem theCode_skip {rnd : Bool} {s : St} : theCode P ext rnd .skip s = some (.normal, s) := theCode_some.2 ⟨0, by rw [evalCode]⟩
theorem theCode_exit {rnd : Bool} {id : Nat} {s : St} : theCode P ext rnd (.exit id) s = some (.exit id, s) := theCode_some.2 ⟨0, by rw [evalCode]⟩
theorem theCode_ret {rnd : Bool} {s : St} : theCode P ext rnd .ret s = some (.ret, s) := theCode_some.2 ⟨0, by rw [evalCode]⟩
theorem theCode_label {rnd : Bool} {l : Nat} {s : St} : theCode P ext rnd (.label l) s = some (.normal, s) := theCode_some.2 ⟨0, by rw [evalCode]⟩
theorem theCode_region {rnd : Bool} {id : Nat} {ops : Array Oper} {s : St} : theCode P ext rnd (.region id ops false) s = evalIdx P (theCall P ext) rnd ops.toList (List.range ops.size) s := by
 refine opt_ext fun r => ?_
 rw [theCode_some]
 constructor
 · rintro ⟨k, hk⟩
   rw [evalCode] at hk
   exact evalIdx_mono (le_limC evalFn_rising k) _ _ (by simpa using hk)
 · intro h
   obtain ⟨k, hk⟩ := evalIdx_cont evalFn_rising _ _ h
   exact ⟨k, by rw [evalCode]; simpa using hk⟩
theorem theCode_draw {rnd : Bool} {id : Nat} {ops : Array Oper} {s : St} : theCode P ext rnd (.region id ops true) s = drawRun P (theCall P ext) ops.toList s := by
 refine opt_ext fun r => ?_
 rw [theCode_some]
 constructor
 · rintro ⟨k, hk⟩
   rw [evalCode] at hk
   exact drawRun_mono (le_limC evalFn_rising k) (by simpa using hk)
 · intro h
   obtain ⟨k, hk⟩ := drawRun_cont evalFn_rising h
   exact ⟨k, by rw [evalCode]; simpa using hk⟩
def thenA (x : Option (AExit × St)) (k : St → Option (AExit × St)) : Option (AExit × St) :=
 match x with
 | some (.normal, s1) => k s1
 | r => r
def inBlockA (id : Nat) (x : Option (AExit × St)) : Option (AExit × St) :=
 match x with
 | some (.exit i, s1) => if i = id then some (.normal, s1) else some (.exit i, s1)
 | r => r
theorem thenA_some {x : Option (AExit × St)} {k : St → Option (AExit × St)} {r : AExit × St} : thenA x k = some r ↔ (∃ s1, x = some (.normal, s1) ∧ k s1 = some r) ∨ (x = some r ∧ r.1 ≠ .normal) := by
 unfold thenA
 split
 · rename_i s1
   constructor
   · intro h; exact .inl ⟨s1, rfl, h⟩
   · rintro (⟨s2, h1, h2⟩ | ⟨h1, h2⟩)
     · simp at h1; subst h1; exact h2
     · simp at h1; subst h1; exact absurd rfl h2
 · rename_i hne
   constructor
   · intro h
     refine .inr ⟨h, ?_⟩
     intro hr
     obtain ⟨r1, r2⟩ := r
     simp only at hr
     subst hr
     exact hne _ h
   · rintro (⟨s2, h1, h2⟩ | ⟨h1, h2⟩)
     · exact absurd h1 (hne _)
     · exact h1
theorem evalCode_seq {call : CallT} {rnd : Bool} {k : Nat} {a b : Code} {s : St} : evalCode P call rnd k (.seq a b) s = thenA (evalCode P call rnd k a s) fun s1 => evalCode P call rnd k b s1 := by
 rw [evalCode]; unfold thenA; rfl
theorem theCode_seq {rnd : Bool} {a b : Code} {s : St} : theCode P ext rnd (.seq a b) s = thenA (theCode P ext rnd a s) fun s1 => theCode P ext rnd b s1 := by
 refine opt_ext fun r => ?_
 rw [theCode_some, thenA_some]
 constructor
 · rintro ⟨k, hk⟩
   rw [evalCode_seq, thenA_some] at hk
   rcases hk with ⟨s1, h1, h2⟩ | ⟨h1, h2⟩
   · exact .inl ⟨s1, theCode_some.2 ⟨k, h1⟩, theCode_some.2 ⟨k, h2⟩⟩
   · exact .inr ⟨theCode_some.2 ⟨k, h1⟩, h2⟩
 · rintro (⟨s1, h1, h2⟩ | ⟨h1, h2⟩)
   · obtain ⟨k1, h1⟩ := theCode_some.1 h1
     obtain ⟨k2, h2⟩ := theCode_some.1 h2
     refine ⟨max k1 k2, ?_⟩
     rw [evalCode_seq, thenA_some]
     exact .inl ⟨s1, theCode_rising _ _ _ (by omega) h1, theCode_rising _ _ _ (by omega) h2⟩
   · obtain ⟨k1, h1⟩ := theCode_some.1 h1
     refine ⟨k1, ?_⟩
     rw [evalCode_seq, thenA_some]
     exact .inr ⟨h1, h2⟩
theorem theCode_cond {rnd : Bool} {c : Operand} {a b : Code} {s : St} {t : Bool} (hok : operandOk c = true) (hc : aev s.tmps c = .bool t) : theCode P ext rnd (.cond c a b) s = if t then theCode P ext rnd a s else theCode P ext rnd b s := by
 refine opt_ext fun r => ?_
 have h : ∀ k, evalCode P (evalFn P ext k) rnd k (.cond c a b) s = if t then evalCode P (evalFn P ext k) rnd k a s else evalCode P (evalFn P ext k) rnd k b s := by
  intro k; rw [evalCode, hok, hc]; cases t <;> rfl
 rw [theCode_some]
 simp only [h]
 cases t
 · simp only [Bool.false_eq_true, if_false]; exact theCode_some.symm
 · simp only [if_true]; exact theCode_some.symm
theorem theCode_block {rnd : Bool} {id : Nat} {a : Code} {s : St} : theCode P ext rnd (.block id a) s = inBlockA id (theCode P ext rnd a s) := by
 refine opt_ext fun r => ?_
 have h : ∀ k, evalCode P (evalFn P ext k) rnd k (.block id a) s = inBlockA id (evalCode P (evalFn P ext k) rnd k a s) := by
  intro k; rw [evalCode]; rfl
 rw [theCode_some]
 simp only [h]
 constructor
 · rintro ⟨k, hk⟩
   cases he : evalCode P (evalFn P ext k) rnd k a s with
   | none => rw [he] at hk; simp [inBlockA] at hk
   | some q => rw [theCode_some.2 ⟨k, he⟩]; rw [he] at hk; exact hk
 · intro hh
   cases he : theCode P ext rnd a s with
   | none => rw [he] at hh; simp [inBlockA] at hh
   | some q =>
    obtain ⟨k, hk⟩ := theCode_some.1 he
    exact ⟨k, by rw [hk]; rw [he] at hh; exact hh⟩
theorem evalCode_loop {call : CallT} {rnd : Bool} {k : Nat} {a : Code} {s : St} : evalCode P call rnd (k + 1) (.loop a) s = thenA (evalCode P call rnd k a s) fun s1 => evalCode P call rnd k (.loop a) s1 := by
 rw [evalCode]; unfold thenA; rfl
theorem theCode_loop {rnd : Bool} {a : Code} {s : St} : theCode P ext rnd (.loop a) s = thenA (theCode P ext rnd a s) fun s1 => theCode P ext rnd (.loop a) s1 := by
 refine opt_ext fun r => ?_
 rw [theCode_some, thenA_some]
 constructor
 · rintro ⟨k, hk⟩
   cases k with
   | zero => rw [evalCode] at hk; simp at hk
   | succ k =>
    rw [evalCode_loop, thenA_some] at hk
    have up : ∀ c s r, evalCode P (evalFn P ext (k + 1)) rnd k c s = some r → theCode P ext rnd c s = some r := fun c s r h => theCode_some.2 ⟨k + 1, evalCode_mono _ _ _ _ _ _ _ (CallT.le_refl _) (Nat.le_succ _) h⟩
    rcases hk with ⟨s1, h1, h2⟩ | ⟨h1, h2⟩
    · exact .inl ⟨s1, up _ _ _ h1, up _ _ _ h2⟩
    · exact .inr ⟨up _ _ _ h1, h2⟩
 · rintro (⟨s1, h1, h2⟩ | ⟨h1, h2⟩)
   · obtain ⟨k1, h1⟩ := theCode_some.1 h1
     obtain ⟨k2, h2⟩ := theCode_some.1 h2
     refine ⟨max k1 k2 + 1, ?_⟩
     rw [evalCode_loop, thenA_some]
     exact .inl ⟨s1, evalCode_mono _ _ _ _ _ _ _ (evalFn_rising _ _ (by omega)) (by omega) h1, evalCode_mono _ _ _ _ _ _ _ (evalFn_rising _ _ (by omega)) (by omega) h2⟩
   · obtain ⟨k1, h1⟩ := theCode_some.1 h1
     refine ⟨k1 + 1, ?_⟩
     rw [evalCode_loop, thenA_some]
     exact .inr ⟨evalCode_mono _ _ _ _ _ _ _ (evalFn_rising _ _ (by omega)) (by omega) h1, h2⟩
theorem theCode_range {g : Operand} {ps : Array Tmp} {as body : Code} {s : St} : theCode P ext false (.rangeFunc g ps as body) s =
    match rangeCallA P s g ps as body with
    | some (f, args, H1) => rangeEnd s.H.next s (theCall P ext f args H1)
    | none => none := by
 refine opt_ext fun r => ?_
 rw [theCode_some]
 cases hrc : rangeCallA P s g ps as body with
 | none =>
  constructor
  · rintro ⟨k, hk⟩; rw [evalCode] at hk; simp [hrc] at hk
  · intro h; simp at h
 | some q =>
  obtain ⟨f, args, H1⟩ := q
  constructor
  · rintro ⟨k, hk⟩
    rw [evalCode] at hk
    simp only [Bool.false_eq_true, if_false, hrc] at hk
    dsimp only
    cases hc : evalFn P ext k f args H1 with
    | none => rw [hc] at hk; simp [rangeEnd] at hk
    | some q => rw [theCall_some.2 ⟨k, hc⟩]; rw [hc] at hk; exact hk
  · intro h
    dsimp only at h
    cases hc : theCall P ext f args H1 with
    | none => rw [hc] at h; simp [rangeEnd] at h
    | some q =>
     obtain ⟨k, hk⟩ := theCall_some.1 hc
     refine ⟨k, ?_⟩
     rw [evalCode]
     simp only [Bool.false_eq_true, if_false, hrc]
     rw [hk]; rw [hc] at h; exact h
theorem theCall_ext {f : FuncId} {args : List Value} {H : AHeap} {r : AEnd × AHeap} (h : ext f args H = some r) : theCall P ext f args H = some r := theCall_some.2 ⟨0, h⟩
theorem theCode_lim : CodeLim (fun k c s => evalCode P (evalFn P ext k) false k c s) (theCode P ext false) :=
 ⟨fun k k' hk _ _ _ h => evalCode_mono _ _ _ _ _ _ _ (evalFn_rising k k' hk) hk h, fun _ _ _ h => theCode_some.1 h⟩
theorem theCall_body {f : FuncId} {fn : Func} {c : Code} {args : List Value} {H : AHeap} (hx : ext f args H = none) (hf : P.funcs[f]? = some fn) (hb : fn.body = some c) :
    theCall P ext f args H = leaveR P (theCode P ext false) fn.results.toList (theCode P ext false c (enterA fn args H)) := by
 refine opt_ext fun r => ?_
 rw [theCall_some]
 have hbody : ∀ call k, evalBody P call k f args H = leaveR P (fun c s => evalCode P call false k c s) fn.results.toList (evalCode P call false k c (enterA fn args H)) := by
  intro call k; unfold evalBody; rw [hf]; dsimp only; rw [hb]
 constructor
 · rintro ⟨k, hk⟩
   cases k with
   | zero => rw [evalFn, hx] at hk; simp at hk
   | succ k =>
    rw [evalFn] at hk
    simp only [hx] at hk
    rw [hbody] at hk
    cases he : evalCode P (evalFn P ext k) false k c (enterA fn args H) with
    | none => rw [he] at hk; simp [leaveR] at hk
    | some q => rw [theCode_some.2 ⟨k, he⟩]; rw [he] at hk; exact leaveR_mono (fun _ _ _ h => theCode_some.2 ⟨k, h⟩) hk
 · intro hh
   cases he : theCode P ext false c (enterA fn args H) with
   | none => rw [he] at hh; simp [leaveR] at hh
   | some q =>
    obtain ⟨k, hk⟩ := theCode_some.1 he
    rw [he] at hh
    obtain ⟨k2, hk2⟩ := leaveR_cont (theCode_lim (P := P) (ext := ext)) hh
    refine ⟨max k k2 + 1, ?_⟩
    rw [evalFn]
    simp only [hx]
    have hk' : evalCode P (evalFn P ext (max k k2)) false (max k k2) c (enterA fn args H) = some q := theCode_rising k (max k k2) _ (by omega) hk
    rw [hbody, hk']
    exact leaveR_mono (theCode_lim.up k2 (max k k2) (by omega)) hk2
theorem theCall_round {K : Nat} {r : ALoop} {args : List Value} {H : AHeap} (hx : ext (P.funcs.size + K) args H = none) (hr : H.get K = some (.loop r)) :
    theCall P ext (P.funcs.size + K) args H = roundA K (theCode P ext true r.assign ⟨setAll r.params.toList args r.tmps, [], H⟩) (fun s => theCode P ext true r.body s) := by
 refine opt_ext fun q => ?_
 rw [theCall_some]
 have hf : P.funcs[P.funcs.size + K]? = none := Array.getElem?_eq_none (by omega)
 have hbody : ∀ call k, evalBody P call k (P.funcs.size + K) args H = roundA K (evalCode P call true k r.assign ⟨setAll r.params.toList args r.tmps, [], H⟩) (fun s => evalCode P call true k r.body s) := by
  intro call k; unfold evalBody; rw [hf]; dsimp only; rw [Nat.add_sub_cancel_left]; unfold evalRound; rw [hr]
 constructor
 · rintro ⟨k, hk⟩
   cases k with
   | zero => rw [evalFn, hx] at hk; simp at hk
   | succ k =>
    rw [evalFn] at hk
    simp only [hx] at hk
    rw [hbody] at hk
    exact roundA_mono (fun _ h => theCode_some.2 ⟨k, h⟩) (fun _ _ h => theCode_some.2 ⟨k, h⟩) hk
 · intro hh
   have key : ∃ k, roundA K (evalCode P (evalFn P ext k) true k r.assign ⟨setAll r.params.toList args r.tmps, [], H⟩) (fun s => evalCode P (evalFn P ext k) true k r.body s) = some q := by
    unfold roundA at hh
    split at hh
    case h_2 => simp at hh
    rename_i s1 h1
    obtain ⟨k1, h1⟩ := theCode_some.1 h1
    split at hh
    case h_2 => simp at hh
    rename_i r1 hr1
    split at hh
    case isFalse => simp at hh
    rename_i hst
    dsimp only at hh
    cases h2 : theCode P ext true r.body ⟨s1.tmps, s1.dfs, s1.H.set K (.loop { r1 with state := .busy })⟩ with
    | none => rw [h2] at hh; simp [roundB] at hh
    | some p =>
     obtain ⟨k2, h3⟩ := theCode_some.1 h2
     refine ⟨max k1 k2, ?_⟩
     unfold roundA
     rw [evalCode_mono _ _ _ _ _ _ _ (evalFn_rising k1 (max k1 k2) (by omega)) (Nat.le_max_left k1 k2) h1]
     try dsimp only
     try rw [hr1]
     try dsimp only
     rw [if_pos hst, evalCode_mono _ _ _ _ _ _ _ (evalFn_rising k2 (max k1 k2) (by omega)) (Nat.le_max_right k1 k2) h3]
     rw [h2] at hh; exact hh
   obtain ⟨k, hk⟩ := key
   refine ⟨k + 1, ?_⟩
   rw [evalFn]
   simp only [hx]
   rw [hbody]; exact hk
end
end B
end Go.Proofs.YtmjmpaceopipbaaGreat
namespace Go.Proofs.YtmjmpaceopipbaaGreat
namespace B
open Go
def ModeRel (γ : Emb) : Mode → FrameMode → Prop
 | none, .returning => True
 | some (v, r), .panicking chain => ∃ v', chain = [{ v := v', recovered := r }] ∧ VRel γ v v'
 | _, _ => False
theorem ModeRel.mono {β γ : Emb} (le : Emb.le β γ) {m : Mode} {u : FrameMode} (h : ModeRel β m u) : ModeRel γ m u := by
 unfold ModeRel at h ⊢
 split at h
 · trivial
 · obtain ⟨v', h1, h2⟩ := h; exact ⟨v', h1, h2.mono le⟩
 · exact h.elim
theorem ModeRel.not_run {γ : Emb} {m : Mode} {u : FrameMode} (h : ModeRel γ m u) : u ≠ .run := by
 intro hu; subst hu
 cases m with
 | none => exact h
 | some q => exact h
theorem ModeRel.some_of {γ : Emb} {v v' : Value} {r : Bool} (h : VRel γ v v') : ModeRel γ (some (v, r)) (.panicking [{ v := v', recovered := r }]) := ⟨v', rfl, h⟩
theorem recover_rel {γ : Emb} {m : Mode} {u : FrameMode} (h : ModeRel γ m u) (c : Frame) (cs : List Frame) :
    ∃ u' v', ModeRel γ (recoverA m).2 u' ∧ VRel γ (recoverA m).1 v' ∧
     ((recoverD ({ c with mode := u } :: cs) = some (v', { c with mode := u' } :: cs)) ∨ (recoverD ({ c with mode := u } :: cs) = none ∧ u' = u ∧ v' = .nilIface)) := by
 cases m with
 | none =>
  cases u with
  | returning => exact ⟨.returning, .nilIface, trivial, .closed rfl, .inr ⟨rfl, rfl, rfl⟩⟩
  | run => exact h.elim
  | panicking chain => exact h.elim
 | some q =>
  obtain ⟨v, r⟩ := q
  cases u with
  | returning => exact h.elim
  | run => exact h.elim
  | panicking chain =>
   obtain ⟨v', h1, h2⟩ := h
   subst h1
   cases r with
   | false => exact ⟨.panicking [{ v := v', recovered := true }], v', ModeRel.some_of h2, h2, .inl rfl⟩
   | true => exact ⟨.panicking [{ v := v', recovered := true }], .nilIface, ModeRel.some_of h2, .closed rfl, .inr ⟨rfl, rfl, rfl⟩⟩
theorem settle_rel {γ : Emb} {m : Mode} {u : FrameMode} (h : ModeRel γ m u) : ModeRel γ (settleA m) (settle u) := by
 cases m with
 | none =>
  cases u with
  | returning => trivial
  | run => exact h.elim
  | panicking chain => exact h.elim
 | some q =>
  obtain ⟨v, r⟩ := q
  cases u with
  | returning => exact h.elim
  | run => exact h.elim
  | panicking chain =>
   obtain ⟨v', h1, h2⟩ := h
   subst h1
   cases r with
   | false => exact ⟨v', rfl, h2⟩
   | true => trivial
section
variable {P : Program} {N0 : Fz} {call : CallT}
def OutS (P : Program) (N0 : Fz) (β : Emb) (w : World) (c : Frame) (cs : List Frame) (x : AExit) (m : Mode) (s : St) : Exit → Act → List Frame → World → Prop :=
 fun e a' cs' w' => ∃ N1 γ u', N1.b = N0.b ∧ (∀ b, N0.low b → N1.low b) ∧ Emb.le β γ ∧ SRelX P N1 γ x s a' w' ∧ Fr N0 w w' ∧ XRel γ x e ∧ cs' = { c with mode := u' } :: cs ∧ ModeRel γ m u'
theorem OutS.trans {N1 : Fz} {β γ : Emb} {w w1 : World} {c : Frame} {cs : List Frame} {x : AExit} {m : Mode} {s : St} (hb : N1.b = N0.b) (hl : ∀ b, N0.low b → N1.low b) (le : Emb.le β γ) (hf : Fr N0 w w1) {e : Exit} {a : Act} {cs' : List Frame} {w' : World}
    (h : OutS P N1 γ w1 c cs x m s e a cs' w') : OutS P N0 β w c cs x m s e a cs' w' := by
 obtain ⟨N2, δ, u', a1, a2, h1, h2, h3, h4, h5, h6⟩ := h
 exact ⟨N2, δ, u', a1.trans hb, fun b h => a2 b (hl b h), le.trans h1, h2, hf.trans (h3.weaken hl), h4, h5, h6⟩
theorem run_recover {ρ : Operand → Value} {o : Oper} (h : isRecover o = true) (w : World) : (execOp ρ o).run P w = .ok .recover w := by
 unfold isRecover at h
 split at h
 case h_2 => simp at h
 rename_i c hop
 split at h
 case h_2 => simp at h
 rename_i hc
 unfold execOp; rw [hop]
 simp only [resolve, hc, Sem.run_bind, Sem.run_pure, Result.andThen_ok, invoke, builtin]
theorem evalIdxS_sound {n : Nat} {ops : Array Oper} {c : Frame} {cs : List Frame} {x : AExit} {m' : Mode} {s' : St} : ∀ (is : List Nat) (m : Mode) (s : St) (β : Emb) (a : Act) (w : World) (u : FrameMode),
    evalIdxS P ops.toList is m s = some (x, m', s') → SRel P N0 β s a w → ModeRel β m u → ∀ Q : Exit → Act → List Frame → World → Prop, (∀ e a' cs' w', OutS P N0 β w c cs x m' s' e a' cs' w' → Q e a' cs' w') →
     wpOpsSIn (WF none) n P ops Q is a ({ c with mode := u } :: cs) w := by
 intro is
 induction is with
 | nil =>
  intro m s β a w u he hs hm Q hQ
  simp only [evalIdxS, Option.some.injEq, Prod.mk.injEq] at he
  obtain ⟨rfl, rfl, rfl⟩ := he
  exact hQ _ _ _ _ ⟨N0, β, u, rfl, fun _ h => h, Emb.le.refl _, hs.x _, Fr.refl _ _, trivial, rfl, hm⟩
 | cons i rest ih =>
  intro m s β a w u he hs hm Q hQ
  unfold evalIdxS at he
  rw [Array.getElem?_toList] at he
  unfold wpOpsSIn
  cases ho : ops[i]? with
  | none => rw [ho] at he; exact ih m s β a w u he hs hm Q hQ
  | some o =>
   rw [ho] at he
   dsimp only at he ⊢
   rw [wantedA_rel hs.tmps]
   refine ⟨fun _ _ => trivial, ?_⟩
   split at he
   · rename_i hw
     rw [if_pos hw]
     have hρ : ∀ x, operandOk x = true → VRel β (aev s.tmps x) (a.eval x) := fun x hx => aev_rel hs.tmps hx
     split at he
     · rename_i hrec
       split at he
       case isFalse => simp at he
       rw [run_recover hrec]
       dsimp only
       obtain ⟨u', v', h1, h2, h3⟩ := recover_rel hm c cs
       have hs' : SRel P N0 β { s with tmps := putT o.dst (recoverA m).1 s.tmps } (a.put o.dst v') w := ⟨putT_rel hs.tmps o.dst h2, by rw [put_defers]; exact hs.dfs, hs.heap⟩
       rcases h3 with h3 | ⟨h3, h4, h5⟩
       · rw [h3]; exact ih _ _ β _ w u' he hs' h1 Q hQ
       · rw [h3]; subst h4; subst h5; exact ih _ _ β _ w u' he hs' h1 Q hQ
     · split at he
       · rename_i v H hev
         obtain ⟨v', w', γ, hR, le, hh, hv, hf⟩ := (evalAny_sim hs.heap hρ hev).inv_val
         rw [hR]
         exact ih _ _ γ _ w' u he ⟨putT_rel (hs.tmps.mono le) o.dst hv, by rw [put_defers]; exact hs.dfs.mono le hf, hh⟩ (hm.mono le) Q fun e' a' cs' w'' ho' => hQ _ _ _ _ (ho'.trans rfl (fun _ h => h) le hf)
       · rename_i H hev
         obtain ⟨w', γ, hR, le, hh, hf⟩ := (evalAny_sim hs.heap hρ hev).inv_skip
         rw [hR]
         exact ih _ _ γ _ w' u he ⟨putT_rel (hs.tmps.mono le) o.dst (.closed rfl), by rw [put_defers]; exact hs.dfs.mono le hf, hh⟩ (hm.mono le) Q fun e' a' cs' w'' ho' => hQ _ _ _ _ (ho'.trans rfl (fun _ h => h) le hf)
       · rename_i v H hev
         obtain ⟨v', w', γ, hR, le, hh, hv, hf⟩ := (evalAny_sim hs.heap hρ hev).inv_panic
         rw [hR]
         simp only [Option.some.injEq, Prod.mk.injEq] at he
         obtain ⟨rfl, rfl, rfl⟩ := he
         exact hQ _ _ _ _ ⟨N0, γ, u, rfl, fun _ h => h, le, ⟨.inl (hs.tmps.mono le), hs.dfs.mono le hf, hh⟩, hf, ⟨v', rfl, hv⟩, rfl, hm.mono le⟩
       · simp at he
   · rename_i hw
     rw [if_neg hw]
     exact ih _ _ β _ w u he ⟨putT_rel hs.tmps o.dst (.closed rfl), by rw [put_defers]; exact hs.dfs, hs.heap⟩ hm Q hQ
theorem OutS.normal {β : Emb} {w : World} {c : Frame} {cs : List Frame} {m : Mode} {s : St} {e : Exit} {a' : Act} {cs' : List Frame} {w' : World} (h : OutS P N0 β w c cs .normal m s e a' cs' w') (hb : N0.b ≤ w.heap.size) :
    e = .normal ∧ ∃ N1 γ u', N1.b = N0.b ∧ (∀ b, N0.low b → N1.low b) ∧ Emb.le β γ ∧ SRel P N1 γ s a' w' ∧ Fr N0 w w' ∧ N1.b ≤ w'.heap.size ∧ cs' = { c with mode := u' } :: cs ∧ ModeRel γ m u' := by
 obtain ⟨N1, γ, u', h1, h2, le, hs, hf, hx, hc, hm⟩ := h
 cases e <;> first | exact hx.elim | skip
 refine ⟨rfl, N1, γ, u', h1, h2, le, ⟨?_, hs.dfs, hs.heap⟩, hf, by rw [h1]; exact Nat.le_trans hb hf.size, hc, hm⟩
 rcases hs.tmps with h | ⟨_, v, hv⟩
 · exact h
 · cases hv
theorem evalS_sound (hcall : CallOK P call) (hmo : P.follows .mixedOrders = true) (k : Nat) : ∀ (b : Code) (n : Nat) (m : Mode) (s : St) (x : AExit) (m' : Mode) (s' : St) (N0 : Fz) (β : Emb) (a : Act) (c : Frame) (cs : List Frame) (w : World) (u : FrameMode),
    evalS P (fun c s => evalCode P call false k c s) b m s = some (x, m', s') → SRel P N0 β s a w → N0.b ≤ w.heap.size → ModeRel β m u → ∀ Q : Exit → Act → List Frame → World → Prop, (∀ e a' cs' w', OutS P N0 β w c cs x m' s' e a' cs' w' → Q e a' cs' w') →
     b.wpSIn (WF none) n P Q a ({ c with mode := u } :: cs) w := by
 have keep : ∀ (b : Code) (n : Nat) (m : Mode) (s : St) (x : AExit) (m' : Mode) (s' : St) (N0 : Fz) (β : Emb) (a : Act) (c : Frame) (cs : List Frame) (w : World) (u : FrameMode),
  keepS m (evalCode P call false k b s) = some (x, m', s') → SRel P N0 β s a w → N0.b ≤ w.heap.size → ModeRel β m u → ∀ Q : Exit → Act → List Frame → World → Prop, (∀ e a' cs' w', OutS P N0 β w c cs x m' s' e a' cs' w' → Q e a' cs' w') →
   b.wpSIn (WF none) n P Q a ({ c with mode := u } :: cs) w := by
  intro b n m s x m' s' N0 β a c cs w u he hs hb hm Q hQ
  cases hc : evalCode P call false k b s with
  | none => rw [hc] at he; simp [keepS] at he
  | some q =>
   obtain ⟨x1, s1⟩ := q
   rw [hc] at he
   simp only [keepS, Option.some.injEq, Prod.mk.injEq] at he
   obtain ⟨rfl, rfl, rfl⟩ := he
   refine wpSIn_of_wpIn rfl ((code_sound hcall hmo k).1 b none n s _ _ N0 β a w hc hs hb _ fun e a' w' ho => ?_)
   obtain ⟨N1, γ, g1, g2, le, hs1, hf, hx⟩ := ho
   exact hQ _ _ _ _ ⟨N1, γ, u, g1, g2, le, hs1, hf, hx, rfl, hm.mono le⟩
 intro b
 induction b with
 | seq c1 c2 ih1 ih2 =>
  intro n m s x m' s' N0 β a c cs w u he hs hb hm Q hQ
  rw [evalS] at he
  refine wpSIn_seq ?_
  split at he
  · rename_i m1 s1 h1
    refine ih1 n m s _ _ _ N0 β a c cs w u h1 hs hb hm _ fun e a' cs' w' ho => ?_
    obtain ⟨rfl, N1, γ, u', g1, g2, le, hs1, hf, hb1, hc, hm1⟩ := ho.normal hb
    subst hc
    exact ih2 n m1 s1 _ _ _ N1 γ a' c cs w' u' he hs1 hb1 hm1 _ fun e2 a2 cs2 w2 ho2 => hQ _ _ _ _ (ho2.trans g1 g2 le hf)
  · rename_i hne
    cases hr : evalS P (fun c s => evalCode P call false k c s) c1 m s with
    | none => rw [hr] at he; simp at he
    | some q =>
     obtain ⟨x1, m1, s1⟩ := q
     rw [hr] at he
     obtain ⟨rfl, rfl, rfl⟩ := (by simpa using he : x1 = x ∧ m1 = m' ∧ s1 = s')
     refine ih1 n m s _ _ _ N0 β a c cs w u hr hs hb hm _ fun e a' cs' w' ho => ?_
     have hq := hQ _ _ _ _ ho
     obtain ⟨N1, γ, u', g1, g2, le, hs1, hf, hx, hc, hm1⟩ := ho
     cases e <;> first | exact hq | skip
     cases x1 <;> first | exact hx.elim | skip
     exact absurd hr (hne _ _)
 | cond q c1 c2 ih1 ih2 =>
  intro n m s x m' s' N0 β a c cs w u he hs hb0 hm Q hQ
  rw [evalS] at he
  split at he
  case isFalse => simp at he
  rename_i hok
  have hv := aev_rel hs.tmps hok
  have hb := boolOf_rel hv
  split at he
  · rename_i ht
    rw [ht] at hb
    have hbv : a.eval q = .bool true := by
     cases hc : a.eval q <;> rw [hc] at hb <;> simp_all [boolOf]
    exact wpSIn_cond hbv (ih1 n m s _ _ _ N0 β a c cs w u he hs hb0 hm _ hQ)
  · rename_i ht
    rw [ht] at hb
    have hbv : a.eval q = .bool false := by
     cases hc : a.eval q <;> rw [hc] at hb <;> simp_all [boolOf]
    exact wpSIn_cond hbv (ih2 n m s _ _ _ N0 β a c cs w u he hs hb0 hm _ hQ)
  · simp at he
 | region id ops draw =>
  intro n m s x m' s' N0 β a c cs w u he hs hb hm Q hQ
  rw [evalS] at he
  split at he
  · rename_i hc
    obtain ⟨rfl, _⟩ := hc
    exact wpSIn_region (evalIdxS_sound _ m s β a w u he hs hm Q hQ)
  · exact keep _ _ _ _ _ _ _ _ _ _ _ _ _ _ he hs hb hm Q hQ
 | skip => intro n m s x m' s' N0 β a c cs w u he; exact keep _ _ _ _ _ _ _ _ _ _ _ _ _ _ he
 | block _ _ _ => intro n m s x m' s' N0 β a c cs w u he; exact keep _ _ _ _ _ _ _ _ _ _ _ _ _ _ he
 | loop _ _ => intro n m s x m' s' N0 β a c cs w u he; exact keep _ _ _ _ _ _ _ _ _ _ _ _ _ _ he
 | exit _ => intro n m s x m' s' N0 β a c cs w u he; exact keep _ _ _ _ _ _ _ _ _ _ _ _ _ _ he
 | ret => intro n m s x m' s' N0 β a c cs w u he; exact keep _ _ _ _ _ _ _ _ _ _ _ _ _ _ he
 | label _ => intro n m s x m' s' N0 β a c cs w u he; exact keep _ _ _ _ _ _ _ _ _ _ _ _ _ _ he
 | rangeFunc _ _ _ _ _ _ => intro n m s x m' s' N0 β a c cs w u he; exact keep _ _ _ _ _ _ _ _ _ _ _ _ _ _ he
 | scope _ _ => intro n m s x m' s' N0 β a c cs w u he; exact keep _ _ _ _ _ _ _ _ _ _ _ _ _ _ he
 | goto _ => intro n m s x m' s' N0 β a c cs w u he; exact keep _ _ _ _ _ _ _ _ _ _ _ _ _ _ he
 | refuse _ => intro n m s x m' s' N0 β a c cs w u he; exact keep _ _ _ _ _ _ _ _ _ _ _ _ _ _ he
def MarksEnd (P : Program) : List Deferred → World → (World → Prop) → Prop
 | [], w, K => K w
 | d :: ds, w, K => ∃ r w', d.target = .collected r ∧ (Instr.takeDeferred r).run P w = .ok [] w' ∧ MarksEnd P ds w' K
theorem marks_steps {F : Fence} {n : Nat} {K : World → Prop} : ∀ (ds : List Deferred) (w : World) (fr : Frame) (cs : List Frame), fr.mode ≠ .run → fr.defers = ds → F.fn fr.fn → F.room (cs.length + 1 + n) → MarksEnd P ds w K →
    ∃ w', K w' ∧ StepsIn (Machine.fenced P F) P (lone fr cs w) (lone { fr with defers := [] } cs w')
 | [], w, fr, cs, _, hd, _, _, h => by
  have : ({ fr with defers := [] } : Frame) = fr := by rw [← hd]
  exact ⟨w, h, by rw [this]; exact StepsIn.refl _⟩
 | d :: ds, w, fr, cs, hm, hd, hF, hr, h => by
  obtain ⟨r, w', htar, htake, hrest⟩ := h
  have h1 := step_collected (cs := cs) hm hd htar htake
  have i1 : (lone fr cs w).fenced P F := fenced_out hF hr hm hd (fun g hg => by rw [htar] at hg; simp [Target.leads] at hg)
  obtain ⟨w'', k, hs⟩ := marks_steps ds w' { fr with defers := [] ++ ds } cs hm rfl hF hr hrest
  exact ⟨w'', k, StepsIn.head i1 h1 hs⟩
def bodyPostSM (P : Program) (fn : Func) (c₀ : Frame) (cs : List Frame) (R : Ending → FrameMode → World → Prop) : Exit → Act → List Frame → World → Prop
 | .normal, a, cs', w | .ret, a, cs', w =>
  ∃ u', cs' = { c₀ with mode := u' } :: cs ∧ MarksEnd P a.defers w fun w' => ∃ v, (results fn a.tmps).run P w' = .ok v w' ∧ R (.returned v) u' w'
 | _, _, _, _ => False
theorem callsDIn_of_marks {F : Fence} {n : Nat} {f : FuncId} {fn : Func} {c : Code} {args : Array Value} {u : FrameMode} {w : World} {R : Ending → FrameMode → World → Prop}
    (hf : P.funcs[f]? = some fn) (hb : fn.body = some c) (hF : F.fn f)
    (h : ∀ (c₀ : Frame) (cs : List Frame), c₀.mode = u →
     c.wpSIn F n P (bodyPostSM P fn c₀ cs R) { tmps := args ++ Array.replicate (fn.ntmps - args.size) undef, defers := [] } (c₀ :: cs) w) :
    CallsDIn F n P f args u w R := by
 refine ⟨hF, fun c₀ cs hu hroom => ?_⟩
 let b : Frame := { (default : Frame) with fn := f, kind := .deferred, roundOf := none }
 have henter : Frame.enter P f args .deferred =
     b.atR { tmps := args ++ Array.replicate (fn.ntmps - args.size) undef, defers := [] } [.code c] := by
  simp [Frame.enter, Frame.atR, hf, hb, b]
 obtain ⟨e, a', cs', w', hl, hq, harr⟩ := h c₀ cs hu b [] rfl rfl hF hroom
 rw [← henter] at harr
 have hroom' : F.room (cs'.length + 1 + n) := by rw [hl]; exact hroom
 cases e with
 | normal =>
  obtain ⟨u', rfl, hme⟩ := hq
  obtain ⟨w'', ⟨v, hr, hR⟩, hs⟩ := marks_steps a'.defers w' { b.atR a' [] with mode := .returning } _ (by simp) rfl hF hroom' hme
  exact ⟨.returned v, u', w'', _, hR, StepsIn.trans harr (StepsIn.trans (.one (fenced_calm (fr := b.atR a' []) hF hroom' rfl) (stepR_end rfl)) hs), rfl, rfl, rfl, rfl, fn, hf, hr⟩
 | ret =>
  obtain ⟨u', rfl, hme⟩ := hq
  obtain ⟨todo, hs0⟩ := harr.1 rfl
  obtain ⟨w'', ⟨v, hr, hR⟩, hs⟩ := marks_steps a'.defers w' { b.atR a' todo with mode := .returning } _ (by simp) rfl hF hroom' hme
  exact ⟨.returned v, u', w'', _, hR, StepsIn.trans hs0 hs, rfl, rfl, rfl, rfl, fn, hf, hr⟩
 | panic chain => exact hq.elim
 | exit id => exact hq.elim
 | goto l => exact hq.elim
 | outgrown => exact hq.elim
end
end B
end Go.Proofs.YtmjmpaceopipbaaGreat
namespace Go.Proofs.YtmjmpaceopipbaaGreat
namespace B
open Go
section
variable {P : Program} {call : CallT}
theorem evalIdx_next (hcall : CallOK P call) {rnd : Bool} {ops : List Oper} {x : AExit} {s' : St} : ∀ (is : List Nat) (s : St), evalIdx P call rnd ops is s = some (x, s') → AHeap.le s.H s'.H
 | [], s, h => by
  simp only [evalIdx, Option.some.injEq, Prod.mk.injEq] at h
  obtain ⟨_, rfl⟩ := h
  exact AHeap.le_refl _
 | i :: rest, s, h => by
  unfold evalIdx at h
  cases ho : ops[i]? with
  | none => rw [ho] at h; exact evalIdx_next hcall rest s h
  | some o =>
   rw [ho] at h
   dsimp only at h
   split at h
   · rename_i hw
     split at h
     · rename_i c hop
       split at h
       case isFalse => simp at h
       split at h
       case h_2 => simp at h
       have := evalIdx_next hcall rest _ h
       exact this
     · rename_i hnd
       split at h
       · rename_i v H he
         exact AHeap.le_trans (evalAny_next he) (evalIdx_next hcall rest _ h)
       · rename_i H he
         exact AHeap.le_trans (evalAny_next he) (evalIdx_next hcall rest _ h)
       · rename_i f args H he
         split at h
         · rename_i v H' hc
           exact AHeap.le_trans (evalAny_next he) (AHeap.le_trans (hcall _ _ _ _ _ hc).1 (evalIdx_next hcall rest _ h))
         · rename_i v H' hc
           simp only [Option.some.injEq, Prod.mk.injEq] at h
           obtain ⟨_, rfl⟩ := h
           exact AHeap.le_trans (evalAny_next he) (hcall _ _ _ _ _ hc).1
         · simp at h
       · rename_i v H he
         simp only [Option.some.injEq, Prod.mk.injEq] at h
         obtain ⟨_, rfl⟩ := h
         exact evalAny_next he
       · simp at h
   · have := evalIdx_next hcall rest _ h
     exact this
theorem drawRun_next (hcall : CallOK P call) {ops : List Oper} {s : St} {x : AExit} {s' : St} (h : drawRun P call ops s = some (x, s')) : AHeap.le s.H s'.H := by
 have key : ∀ {l : List Oper} {plan : List Nat} {T : List Tr} {He : AHeap} {x1 : AExit} {s1 : St}, runPlan P call l s.dfs plan s.tmps s.H = some (T, He, x1, s1) → AHeap.le s.H s1.H := by
  intro l plan T He x1 s1 hr
  obtain ⟨tmE, rest, _, hch, hend⟩ := runPlan_spec _ _ _ _ _ _ _ hr
  have h1 := (Chain.next hcall T hch).1
  rcases hend with ⟨_, _, rfl⟩ | ⟨j, r, v, H', _, _, rfl, hp⟩
  · exact h1
  · obtain ⟨o, _, _, hh⟩ := hp.ex
    rcases hh with ⟨f, args, H1, he, hc⟩ | he
    · exact AHeap.le_trans h1 (AHeap.le_trans (evalAny_next he) (hcall _ _ _ _ _ hc).1)
    · exact AHeap.le_trans h1 (evalAny_next he)
 unfold drawRun at h
 split at h
 · unfold drawRun0 at h
   split at h
   case h_2 => simp at h
   rename_i T He x1 s1 hr
   split at h
   case isFalse => simp at h
   simp only [Option.some.injEq, Prod.mk.injEq] at h
   obtain ⟨_, rfl⟩ := h
   exact key hr
 · unfold drawSwap at h
   split at h
   case h_2 => simp at h
   rename_i T He x1 s1 hr
   split at h
   case isFalse => simp at h
   simp only [Option.some.injEq, Prod.mk.injEq] at h
   obtain ⟨_, rfl⟩ := h
   exact key hr
theorem evalCode_next (hcall : CallOK P call) {rnd : Bool} : ∀ (k : Nat) (c : Code) (s : St) (x : AExit) (s' : St), evalCode P call rnd k c s = some (x, s') → AHeap.le s.H s'.H := by
 intro k
 induction k using Nat.strongRecOn with
 | _ k ihk =>
  intro c
  induction c with
  | seq c1 c2 ih1 ih2 =>
   intro s x s' h
   rw [evalCode] at h
   split at h
   · rename_i s1 h1
     exact AHeap.le_trans (ih1 _ _ _ h1) (ih2 _ _ _ h)
   · exact ih1 _ _ _ h
  | cond c c1 c2 ih1 ih2 =>
   intro s x s' h
   rw [evalCode] at h
   split at h
   case isFalse => simp at h
   split at h
   · exact ih1 _ _ _ h
   · exact ih2 _ _ _ h
   · simp at h
  | block id c1 ih1 =>
   intro s x s' h
   rw [evalCode] at h
   split at h
   · rename_i i s1 h1
     have := ih1 _ _ _ h1
     split at h <;> (obtain ⟨_, rfl⟩ := (by simpa using h); exact this)
   · exact ih1 _ _ _ h
  | loop c1 ih1 =>
   intro s x s' h
   cases k with
   | zero => rw [evalCode] at h; simp at h
   | succ k =>
    rw [evalCode] at h
    split at h
    · rename_i s1 h1
      exact AHeap.le_trans (ihk k (by omega) _ _ _ _ h1) (ihk k (by omega) _ _ _ _ h)
    · exact ihk k (by omega) _ _ _ _ h
  | region id ops draw =>
   intro s x s' h
   rw [evalCode] at h
   split at h
   · exact drawRun_next hcall h
   · exact evalIdx_next hcall _ _ h
  | skip => intro s x s' h; rw [evalCode] at h; obtain ⟨_, rfl⟩ := (by simpa using h : AExit.normal = x ∧ s = s'); exact AHeap.le_refl _
  | rangeFunc f ps as b _ _ =>
   intro s x s' h
   rw [evalCode] at h
   split at h
   case isTrue => simp at h
   split at h
   case h_2 => simp at h
   rename_i f0 args H1 hrc
   have h1 : AHeap.le s.H H1 := by
    unfold rangeCallA at hrc
    repeat' (split at hrc)
    all_goals first | (simp at hrc; done) | skip
    simp only [Option.some.injEq, Prod.mk.injEq] at hrc
    obtain ⟨_, _, rfl⟩ := hrc
    exact AHeap.le_push _ _
   unfold rangeEnd at h
   split at h
   case h_2 => simp at h
   rename_i v H' hc
   split at h
   case h_2 => simp at h
   rename_i r hr
   split at h
   case isTrue => simp at h
   split at h
   case h_2 => simp at h
   simp only [Option.some.injEq, Prod.mk.injEq] at h
   obtain ⟨_, rfl⟩ := h
   exact AHeap.le_trans h1 (AHeap.le_trans (hcall _ _ _ _ _ hc).1 (AHeap.le_set hr))
  | exit id => intro s x s' h; rw [evalCode] at h; obtain ⟨_, rfl⟩ := (by simpa using h : AExit.exit id = x ∧ s = s'); exact AHeap.le_refl _
  | scope b _ => intro s x s' h; rw [evalCode] at h; simp at h
  | label l => intro s x s' h; rw [evalCode] at h; obtain ⟨_, rfl⟩ := (by simpa using h : AExit.normal = x ∧ s = s'); exact AHeap.le_refl _
  | goto l => intro s x s' h; rw [evalCode] at h; simp at h
  | ret => intro s x s' h; rw [evalCode] at h; obtain ⟨_, rfl⟩ := (by simpa using h : AExit.ret = x ∧ s = s'); exact AHeap.le_refl _
  | refuse why => intro s x s' h; rw [evalCode] at h; simp at h
def resultSem (tmps : Array Value) : ResultVar → Sem Value
 | .tmp t => pure (tmps.getD t undef)
 | .cell a t => asAddr (tmps.getD a undef) >>= fun ad => loadVar t ad
def packC (vs : Array Value) : Value := if h : vs.size = 1 then vs[0] else .tuple vs
theorem results_eq (fn : Func) (tmps : Array Value) : results fn tmps = fn.results.mapM (resultSem tmps) >>= fun vs => pure (packC vs) := by
 unfold results
 congr 1
theorem resultA_run {N0 : Fz} {β : Emb} {H : AHeap} {w : World} (h : HRel P N0 β H w) {tmps : List Value} {tmps' : Array Value} (ht : VRels β tmps tmps'.toList) : ∀ {r : ResultVar} {v : Value}, resultA P H tmps r = some v →
    ∃ v', (resultSem tmps' r).run P w = .ok v' w ∧ VRel β v v' := by
 have hget : ∀ t, VRel β (tmps.getD t undef) (tmps'.getD t undef) := by
  intro t
  rw [List.getD_eq_getElem?_getD, Array.getD_eq_getD_getElem?, ← Array.getElem?_toList]
  cases hg : tmps[t]? with
  | none =>
   have : tmps'.toList[t]? = none := by
    have hl := VRels.length ht
    rw [List.getElem?_eq_none_iff] at hg ⊢
    omega
   rw [this]
   exact .closed rfl
  | some v =>
   obtain ⟨v', h1, h2⟩ := VRels.get ht hg
   rw [h1]; exact h2
 intro r v hr
 cases r with
 | tmp t =>
  simp only [resultA, Option.some.injEq] at hr
  subst hr
  exact ⟨_, rfl, hget t⟩
 | cell a t =>
  unfold resultA at hr
  dsimp only at hr
  split at hr
  · rename_i ad had
    have := hget a
    rw [had] at this
    obtain ⟨c, hc, ha⟩ := this.inv_pointer
    obtain ⟨v', h1, h2⟩ := h.loadV_run hr ha
    refine ⟨v', ?_, h2⟩
    show ((asAddr (tmps'.getD a undef) >>= fun ad => loadVar t ad) : Sem Value).run P w = _
    rw [hc]
    simp [asAddr, h1]
  · simp at hr
theorem resultsA_run {N0 : Fz} {β : Emb} {H : AHeap} {w : World} (h : HRel P N0 β H w) {tmps : List Value} {tmps' : Array Value} (ht : VRels β tmps tmps'.toList) : ∀ {rs : List ResultVar} {vs : List Value}, resultsA P H tmps rs = some vs →
    ∃ vs', (rs.mapM (resultSem tmps')).run P w = .ok vs' w ∧ VRels β vs vs'
 | [], vs, hr => by
  simp only [resultsA, Option.some.injEq] at hr
  subst hr
  exact ⟨[], by simp, .nil⟩
 | r :: rs, vs, hr => by
  unfold resultsA at hr
  split at hr
  case h_2 => simp at hr
  rename_i v hv
  split at hr
  case h_2 => simp at hr
  rename_i vs0 hvs
  simp only [Option.some.injEq] at hr
  subst hr
  obtain ⟨v', h1, h2⟩ := resultA_run h ht hv
  obtain ⟨vs', h3, h4⟩ := resultsA_run h ht hvs
  refine ⟨v' :: vs', ?_, .cons h2 h4⟩
  simp only [List.mapM_cons, Sem.run_bind, h1, h3, Result.andThen_ok, Sem.run_pure]
theorem results_run {N0 : Fz} {β : Emb} {H : AHeap} {w : World} (h : HRel P N0 β H w) {fn : Func} {tmps : List Value} {tmps' : Array Value} (ht : VRels β tmps tmps'.toList) {vs : List Value} (hr : resultsA P H tmps fn.results.toList = some vs) :
    ∃ v', (results fn tmps').run P w = .ok v' w ∧ VRel β (packA vs) v' := by
 obtain ⟨vs', h1, h2⟩ := resultsA_run h ht hr
 rw [results_eq, Array.mapM_eq_mapM_toList]
 simp only [Sem.run_bind, map_eq_pure_bind, h1, Result.andThen_ok, Sem.run_pure]
 refine ⟨_, rfl, ?_⟩
 cases h2 with
 | nil => exact .closed rfl
 | cons h g =>
  cases g with
  | nil => exact h
  | cons h' g' => exact .tuple (.cons h (.cons h' g'))
theorem enterA_rel {β : Emb} {fn : Func} {args : List Value} {args' : Array Value} (h : VRels β args args'.toList) (H : AHeap) : VRels β (enterA fn args H).tmps (args' ++ Array.replicate (fn.ntmps - args'.size) undef).toList := by
 unfold enterA
 have hl := VRels.length h
 simp only [Array.length_toList] at hl
 simp only [Array.toList_append, Array.toList_replicate, hl]
 exact VRels.append h (VRels.replicate (.closed rfl) _)
theorem marksEnd_rel {N0 N1 : Fz} {γ : Emb} {H : AHeap} {K : World → Prop} (hlt : ∀ b, N0.low b → b < N1.b) : ∀ (ds : List Deferred) (w : World), DRels P N1 γ w [] ds → HRel P N0 γ H w →
    (∀ w', HRel P N0 γ H w' → Fr N0 w w' → K w') → MarksEnd P ds w K
 | [], w, _, hh, h => h w hh (Fr.refl _ _)
 | d :: ds, w, hd, hh, h => by
  cases hd with
  | mark h1 h2 h3 h4 g =>
   rename_i r
   have hf : Fr N0 w (w.putObj r (.deferred none)) := ⟨by simp, fun b hb => World.putObj_heap_other (by have := hlt b hb; omega), rfl, rfl⟩
   exact ⟨r, _, rfl, run_takeDeferred h3, marksEnd_rel hlt ds _ (g.put h4) (hh.putDeferred h3 _) fun w' hh' hf' => h w' hh' (hf.trans hf')⟩
theorem evalIdxS_next {ops : List Oper} {x : AExit} {m' : Mode} {s' : St} : ∀ (is : List Nat) (m : Mode) (s : St), evalIdxS P ops is m s = some (x, m', s') → AHeap.le s.H s'.H
 | [], m, s, h => by
  simp only [evalIdxS, Option.some.injEq, Prod.mk.injEq] at h
  obtain ⟨_, _, rfl⟩ := h
  exact AHeap.le_refl _
 | i :: rest, m, s, h => by
  unfold evalIdxS at h
  cases ho : ops[i]? with
  | none => rw [ho] at h; exact evalIdxS_next rest m s h
  | some o =>
   rw [ho] at h
   dsimp only at h
   split at h
   · split at h
     · split at h
       · have := evalIdxS_next rest _ _ h; exact this
       · simp at h
     · split at h
       · rename_i v H he
         exact AHeap.le_trans (evalAny_next he) (evalIdxS_next rest _ _ h)
       · rename_i H he
         exact AHeap.le_trans (evalAny_next he) (evalIdxS_next rest _ _ h)
       · rename_i v H he
         simp only [Option.some.injEq, Prod.mk.injEq] at h
         obtain ⟨_, _, rfl⟩ := h
         exact evalAny_next he
       · simp at h
   · have := evalIdxS_next rest _ _ h
     exact this
theorem evalS_next (hcall : CallOK P call) (k : Nat) : ∀ (c : Code) (m : Mode) (s : St) (x : AExit) (m' : Mode) (s' : St), evalS P (fun c s => evalCode P call false k c s) c m s = some (x, m', s') → AHeap.le s.H s'.H := by
 have keep : ∀ (c : Code) (m : Mode) (s : St) (x : AExit) (m' : Mode) (s' : St), keepS m (evalCode P call false k c s) = some (x, m', s') → AHeap.le s.H s'.H := by
  intro c m s x m' s' he
  cases hc : evalCode P call false k c s with
  | none => rw [hc] at he; simp [keepS] at he
  | some q =>
   obtain ⟨x1, s1⟩ := q
   rw [hc] at he
   simp only [keepS, Option.some.injEq, Prod.mk.injEq] at he
   obtain ⟨rfl, rfl, rfl⟩ := he
   exact evalCode_next hcall k _ _ _ _ hc
 intro c
 induction c with
 | seq c1 c2 ih1 ih2 =>
  intro m s x m' s' h
  rw [evalS] at h
  split at h
  · rename_i m1 s1 h1
    exact AHeap.le_trans (ih1 _ _ _ _ _ h1) (ih2 _ _ _ _ _ h)
  · exact ih1 _ _ _ _ _ h
 | cond c c1 c2 ih1 ih2 =>
  intro m s x m' s' h
  rw [evalS] at h
  split at h
  case isFalse => simp at h
  split at h
  · exact ih1 _ _ _ _ _ h
  · exact ih2 _ _ _ _ _ h
  · simp at h
 | region id ops draw =>
  intro m s x m' s' h
  rw [evalS] at h
  split at h
  · exact evalIdxS_next _ _ _ h
  · exact keep _ _ _ _ _ _ h
 | skip => intro m s x m' s' h; exact keep _ _ _ _ _ _ h
 | block _ _ _ => intro m s x m' s' h; exact keep _ _ _ _ _ _ h
 | loop _ _ => intro m s x m' s' h; exact keep _ _ _ _ _ _ h
 | exit _ => intro m s x m' s' h; exact keep _ _ _ _ _ _ h
 | ret => intro m s x m' s' h; exact keep _ _ _ _ _ _ h
 | label _ => intro m s x m' s' h; exact keep _ _ _ _ _ _ h
 | rangeFunc _ _ _ _ _ _ => intro m s x m' s' h; exact keep _ _ _ _ _ _ h
 | scope _ _ => intro m s x m' s' h; exact keep _ _ _ _ _ _ h
 | goto _ => intro m s x m' s' h; exact keep _ _ _ _ _ _ h
 | refuse _ => intro m s x m' s' h; exact keep _ _ _ _ _ _ h
theorem leaveS_some {fn : Func} {y : Option (AExit × Mode × St)} {m' : Mode} {H' : AHeap} (h : leaveS P fn y = some (m', H')) :
    ∃ x m s vs, y = some (x, m, s) ∧ (x = .normal ∨ x = .ret) ∧ s.dfs = [] ∧ resultsA P s.H s.tmps fn.results.toList = some vs ∧ m' = settleA m ∧ H' = s.H := by
 unfold leaveS at h
 split at h
 · split at h
   case h_2 => simp at h
   rename_i vs hvs
   simp only [Option.some.injEq, Prod.mk.injEq] at h
   obtain ⟨rfl, rfl⟩ := h
   exact ⟨_, _, _, vs, rfl, .inl rfl, rfl, hvs, rfl, rfl⟩
 · split at h
   case h_2 => simp at h
   rename_i vs hvs
   simp only [Option.some.injEq, Prod.mk.injEq] at h
   obtain ⟨rfl, rfl⟩ := h
   exact ⟨_, _, _, vs, rfl, .inr rfl, rfl, hvs, rfl, rfl⟩
 · simp at h
def DefRel (P : Program) (N0 : Fz) (β : Emb) (w : World) (m' : Mode) (H' : AHeap) : Ending → FrameMode → World → Prop :=
 fun e u' w' => ∃ v γ, e = .returned v ∧ Emb.le β γ ∧ HRel P N0 γ H' w' ∧ Fr N0 w w' ∧ ModeRel γ m' (settle u')
theorem deferred_ok (hcall : CallOK P call) (hm : P.follows .mixedOrders = true) (k : Nat) {d : ADef} {m : Mode} {H : AHeap} {m' : Mode} {H' : AHeap} (h : deferredA P (fun c s => evalCode P call false k c s) d m H = some (m', H')) :
    AHeap.le H H' ∧ ∀ (N0 : Fz) (β : Emb) (w : World) (args' : Array Value) (u : FrameMode), HRel P N0 β H w → VRels β d.args args'.toList → ModeRel β m u → ∀ n, CallsDIn (WF none) n P d.f args' u w (DefRel P N0 β w m' H') := by
 unfold deferredA at h
 split at h
 case h_2 => simp at h
 rename_i fn hf
 split at h
 case h_2 => simp at h
 rename_i c hb
 obtain ⟨x, m1, s', vs, he, hxx, hd, hvs, rfl, rfl⟩ := leaveS_some h
 refine ⟨evalS_next hcall k c _ _ _ _ _ he, fun N0 β w args' u hh ha hmr n => ?_⟩
 refine callsDIn_of_marks hf hb trivial fun c0 cs hu => ?_
 let N0' : Fz := ⟨N0.low, w.heap.size⟩
 have hh' : HRel P N0' β H w := hh.weaken fun b hb => hb
 have hc0 : ({ c0 with mode := u } : Frame) = c0 := by subst hu; rfl
 have := evalS_sound hcall hm k c n m _ _ _ _ N0' β { tmps := args' ++ Array.replicate (fn.ntmps - args'.size) undef, defers := [] } c0 cs w u he ⟨enterA_rel ha H, .nil, hh'⟩ (Nat.le_refl _) hmr (bodyPostSM P fn c0 cs (DefRel P N0 β w (settleA m1) s'.H)) ?_
 · rw [hc0] at this; exact this
 intro e' a' cs' w' ho
 obtain ⟨N1, γ, u', g1, g2, le, hs, hfr, hx, hcs, hm1⟩ := ho
 have hfr0 : Fr N0 w w' := hfr.weaken (N1 := N0') fun b hb => hb
 have hlt : ∀ b, N0.low b → b < N1.b := fun b hb => by rw [g1]; exact hh.base b hb
 have hh1 : HRel P N0 γ s'.H w' := hs.heap.weaken fun b hb => g2 b hb
 have hdd : DRels P N1 γ w' [] a'.defers := by rw [← hd]; exact hs.dfs
 have htm : VRels γ s'.tmps a'.tmps.toList := by
  rcases hs.tmps with h | ⟨_, v, hv⟩
  · exact h
  · rcases hxx with h | h <;> (rw [h] at hv; cases hv)
 have fin : ∃ u', cs' = { c0 with mode := u' } :: cs ∧ MarksEnd P a'.defers w' fun w'' => ∃ v, (results fn a'.tmps).run P w'' = .ok v w'' ∧ DefRel P N0 β w (settleA m1) s'.H (.returned v) u' w'' := by
  refine ⟨u', hcs, marksEnd_rel hlt _ _ hdd hh1 fun w'' hh2 hf2 => ?_⟩
  obtain ⟨v', h1, h2⟩ := results_run hh2 htm hvs
  exact ⟨v', h1, v', γ, rfl, le, hh2, hfr0.trans hf2, settle_rel hm1⟩
 rcases hxx with rfl | rfl
 · cases e' <;> first | exact hx.elim | skip
   exact fin
 · cases e' <;> first | exact hx.elim | skip
   exact fin
theorem unwindA_next (hcall : CallOK P call) (hm : P.follows .mixedOrders = true) (k : Nat) : ∀ (ds : List ADef) (m : Mode) (H : AHeap) (m' : Mode) (H' : AHeap), unwindA P (fun c s => evalCode P call false k c s) ds m H = some (m', H') → AHeap.le H H'
 | [], m, H, m', H', h => by
  simp only [unwindA, Option.some.injEq, Prod.mk.injEq] at h
  obtain ⟨_, rfl⟩ := h
  exact AHeap.le_refl _
 | d :: ds, m, H, m', H', h => by
  unfold unwindA at h
  split at h
  · rename_i m1 H1 h1
    exact AHeap.le_trans (deferred_ok hcall hm k h1).1 (unwindA_next hcall hm k ds _ _ _ _ h)
  · simp at h
theorem leaves_unwind (hcall : CallOK P call) (hm : P.follows .mixedOrders = true) (k : Nat) {N0 N1 : Fz} {n : Nat} {fn : Func} {tmps : Array Value} {R : Ending → World → Prop} (hlt : ∀ b, N0.low b → b < N1.b) (hlow : ∀ b, N0.low b → N1.low b) {m' : Mode} {H' : AHeap} :
    ∀ (ds' : List Deferred) (ds : List ADef) (m : Mode) (H : AHeap) (γ : Emb) (w : World) (u : FrameMode), DRels P N1 γ w ds ds' → HRel P N1 γ H w → ModeRel γ m u → unwindA P (fun c s => evalCode P call false k c s) ds m H = some (m', H') →
    (∀ δ u' w', Emb.le γ δ → HRel P N1 δ H' w' → Fr N0 w w' → ModeRel δ m' u' → LeavesIn (WF none) n P fn tmps R [] u' w') → LeavesInM (WF none) n P fn tmps R ds' u w
 | [], ds, m, H, γ, w, u, hd, hh, hmr, he, h => by
  cases hd
  simp only [unwindA, Option.some.injEq, Prod.mk.injEq] at he
  obtain ⟨rfl, rfl⟩ := he
  exact h γ u w (Emb.le.refl _) hh (Fr.refl _ _) hmr
 | c :: ds', ds, m, H, γ, w, u, hd, hh, hmr, he, h => by
  cases hd with
  | mark h1 h2 h3 h4 g =>
   rename_i r
   have hf : Fr N0 w (w.putObj r (.deferred none)) := ⟨by simp, fun b hb => World.putObj_heap_other (by have := hlt b hb; omega), rfl, rfl⟩
   exact ⟨hmr.not_run, .inl ⟨r, _, rfl, run_takeDeferred h3, leaves_unwind hcall hm k hlt hlow ds' ds m H γ _ u (g.put h4) (hh.putDeferred h3 _) hmr he fun δ u' w' a1 a2 a3 a4 => h δ u' w' a1 a2 (hf.trans a3) a4⟩⟩
  | cons hdr g =>
   rename_i d ds
   unfold unwindA at he
   split at he
   case h_2 => simp at he
   rename_i m1 H1 h1
   obtain ⟨cap, htar, hargs⟩ := hdr.ex
   obtain ⟨fn', hfn', hen'⟩ := hdr.en
   refine ⟨hmr.not_run, .inr ⟨fun hx => by simp [WF, Fence.wide] at hx, .func d.f, cap, d.f, c.args ++ cap, htar, ?_, fun _ _ => trivial, ?_⟩⟩
   · rw [htar]; simp only [invoke, callFunc_run hfn' hen']
   · refine CallsDIn.mono ((deferred_ok hcall hm k h1).2 N1 γ w (c.args ++ cap) u hh hargs hmr _) ?_
     intro e u1 w1 hr
     obtain ⟨v, δ, rfl, le, hh1, hf1, hm1⟩ := hr
     exact leaves_unwind hcall hm k hlt hlow ds' ds m1 H1 δ w1 _ (g.mono le hf1) hh1 hm1 he fun ε u' w' a1 a2 a3 a4 => h ε u' w' (le.trans a1) a2 ((hf1.weaken hlow).trans a3) a4
theorem setAll_rel {γ : Emb} {ps : Array Tmp} {args : List Value} {args' : Array Value} {tmps : List Value} {tmps' : Array Value} (ha : VRels γ args args'.toList) (ht : VRels γ tmps tmps'.toList) :
    VRels γ (setAll ps.toList args tmps) ((ps.zip args').foldl (fun tmps (t, a) => tmps.setIfInBounds t a) tmps').toList := by
 unfold setAll
 rw [← Array.foldl_toList, Array.toList_zip]
 generalize args'.toList = as at ha
 generalize ps.toList = qs
 induction qs generalizing args as tmps tmps' with
 | nil => exact ht
 | cons p qs ih =>
  cases ha with
  | nil => exact ht
  | cons h g =>
   simp only [List.zip_cons_cons, List.foldl_cons]
   refine ih ?_ _ g
   rw [Array.toList_setIfInBounds]
   exact VRels.set ht p h
theorem leaveR_some {code : Code → St → Option (AExit × St)} {rs : List ResultVar} {y : Option (AExit × St)} {e : AEnd} {H' : AHeap} (h : leaveR P code rs y = some (e, H')) :
    ∃ x s, y = some (x, s) ∧ (((x = .normal ∨ x = .ret) ∧ endA P rs s.tmps (unwindA P code s.dfs none s.H) = some (e, H')) ∨ (∃ v, x = .panic v ∧ (s.dfs = [] ∨ s.tmps ≠ [] ∨ ∃ v', e = .panic v') ∧ endA P rs s.tmps (unwindA P code s.dfs (some (v, false)) s.H) = some (e, H'))) := by
 unfold leaveR at h
 split at h
 · exact ⟨_, _, rfl, .inl ⟨.inl rfl, h⟩⟩
 · exact ⟨_, _, rfl, .inl ⟨.inr rfl, h⟩⟩
 · exact ⟨_, _, rfl, .inr ⟨_, rfl, .inl rfl, h⟩⟩
 · exact ⟨_, _, rfl, .inl ⟨.inl rfl, h⟩⟩
 · exact ⟨_, _, rfl, .inl ⟨.inr rfl, h⟩⟩
 · exact ⟨_, _, rfl, .inr ⟨_, rfl, .inr (.inl (by simp)), h⟩⟩
 · obtain ⟨v, H, h1, h2⟩ := stillA_some h
   simp only [Prod.mk.injEq] at h2
   obtain ⟨rfl, rfl⟩ := h2
   exact ⟨_, _, rfl, .inr ⟨_, rfl, .inr (.inr ⟨_, rfl⟩), by rw [h1]; rfl⟩⟩
 · simp at h
theorem evalFun_ok (hcall : CallOK P call) (hm : P.follows .mixedOrders = true) (k : Nat) {f : FuncId} {fn : Func} (hf : P.funcs[f]? = some fn) {args : List Value} {H : AHeap} {e : AEnd} {H' : AHeap} (h : evalBody P call k f args H = some (e, H')) :
    AHeap.le H H' ∧ ∀ (N0 : Fz) (β : Emb) (w : World) (args' : Array Value), HRel P N0 β H w → VRels β args args'.toList → ∀ n, CallsIn (WF none) n P f args' w (CallRel P N0 β w e H') := by
 unfold evalBody at h
 rw [hf] at h
 dsimp only at h
 split at h
 case h_2 => simp at h
 rename_i c hb
 obtain ⟨x, s', he, hcase⟩ := leaveR_some h
 have hnext : AHeap.le H s'.H := evalCode_next hcall k c _ _ _ he
 have key : ∃ (m m' : Mode) (H2 : AHeap), unwindA P (fun c s => evalCode P call false k c s) s'.dfs m s'.H = some (m', H2) ∧ H' = H2 ∧ ((m' = none ∧ (∀ v, x = .panic v → s'.tmps ≠ []) ∧ ∃ vs, resultsA P H2 s'.tmps fn.results.toList = some vs ∧ e = .ret (packA vs)) ∨ (∃ v, m' = some (v, false) ∧ e = .panic v)) ∧
     (((x = .normal ∨ x = .ret) ∧ m = none) ∨ (∃ v, x = .panic v ∧ m = some (v, false))) := by
  have kk : ∀ m, endA P fn.results.toList s'.tmps (unwindA P (fun c s => evalCode P call false k c s) s'.dfs m s'.H) = some (e, H') → ∃ (m' : Mode) (H2 : AHeap), unwindA P (fun c s => evalCode P call false k c s) s'.dfs m s'.H = some (m', H2) ∧ H' = H2 ∧
      ((m' = none ∧ ∃ vs, resultsA P H2 s'.tmps fn.results.toList = some vs ∧ e = .ret (packA vs)) ∨ (∃ v, m' = some (v, false) ∧ e = .panic v)) := by
   intro m hh
   cases hu : unwindA P (fun c s => evalCode P call false k c s) s'.dfs m s'.H with
   | none => rw [hu] at hh; simp [endA] at hh
   | some q =>
    rw [hu] at hh
    unfold endA at hh
    split at hh
    · rename_i H2 hq
      split at hh
      case h_2 => simp at hh
      rename_i vs hvs
      simp only [Option.some.injEq, Prod.mk.injEq] at hh
      obtain ⟨rfl, rfl⟩ := hh
      exact ⟨none, H2, hq, rfl, .inl ⟨rfl, vs, hvs, rfl⟩⟩
    · rename_i v H2 hq
      simp only [Option.some.injEq, Prod.mk.injEq] at hh
      obtain ⟨rfl, rfl⟩ := hh
      exact ⟨some (v, false), H2, hq, rfl, .inr ⟨v, rfl, rfl⟩⟩
    · simp at hh
  rcases hcase with ⟨hx, hh⟩ | ⟨v, rfl, hne, hh⟩
  · obtain ⟨m', H2, a1, a2, a3⟩ := kk none hh
    refine ⟨none, m', H2, a1, a2, ?_, .inl ⟨hx, rfl⟩⟩
    rcases a3 with ⟨b1, b2⟩ | b
    · exact .inl ⟨b1, fun v hv => by rcases hx with h | h <;> (rw [h] at hv; cases hv), b2⟩
    · exact .inr b
  · obtain ⟨m', H2, a1, a2, a3⟩ := kk _ hh
    refine ⟨some (v, false), m', H2, a1, a2, ?_, .inr ⟨v, rfl, rfl⟩⟩
    rcases a3 with ⟨b1, b2⟩ | b
    · refine .inl ⟨b1, fun _ _ => ?_, b2⟩
      rcases hne with h | h | ⟨v', h⟩
      · rw [h] at a1; simp [unwindA] at a1; rw [b1] at a1; simp at a1
      · exact h
      · obtain ⟨vs, _, b3⟩ := b2
        rw [h] at b3; cases b3
    · exact .inr b
 obtain ⟨m, m', H2, hu, rfl, hend, hstart⟩ := key
 have hnext2 := unwindA_next hcall hm k _ _ _ _ _ hu
 refine ⟨AHeap.le_trans hnext hnext2, fun N0 β w args' hh ha n => ?_⟩
 refine callsIn_of_wp_marks hf hb trivial ?_
 let N0' : Fz := ⟨N0.low, w.heap.size⟩
 have hh' : HRel P N0' β H w := hh.weaken fun b hb => hb
 refine (code_sound hcall hm k).1 c none n _ _ _ N0' β _ w he ⟨enterA_rel ha H, .nil, hh'⟩ (Nat.le_refl _) _ ?_
 intro e' a' w' ho
 obtain ⟨N1, γ, g1, g2, le, hs, hfr, hx⟩ := ho
 have hfr0 : Fr N0 w w' := hfr.weaken (N1 := N0') fun b hb => hb
 have hlt : ∀ b, N0.low b → b < N1.b := fun b hb => by rw [g1]; exact hh.base b hb
 have fin : ∀ u, ModeRel γ m u → LeavesInM (WF none) n P fn a'.tmps (CallRel P N0 β w e H') a'.defers u w' := by
  intro u hu0
  refine leaves_unwind hcall hm k hlt (fun b hb => g2 b hb) _ _ _ _ _ _ _ hs.dfs hs.heap hu0 hu fun δ u' w'' le2 hh2 hf2 hm2 => ?_
  have hh3 : HRel P N0 δ H' w'' := hh2.weaken fun b hb => g2 b hb
  rcases hend with ⟨rfl, hne, vs, hvs, rfl⟩ | ⟨v, rfl, rfl⟩
  · cases u' <;> first | exact hm2.elim | skip
    have htm : VRels δ s'.tmps a'.tmps.toList := by
     rcases hs.tmps with h | ⟨h, v, hv⟩
     · exact h.mono le2
     · exact absurd h (hne v hv)
    obtain ⟨v', h1, h2⟩ := results_run hh3 htm hvs
    exact ⟨v', h1, δ, le.trans le2, hh3, h2, hfr0.trans hf2⟩
  · cases u' <;> first | exact hm2.elim | skip
    exact ⟨δ, le.trans le2, hh3, hm2, hfr0.trans hf2⟩
 rcases hstart with ⟨hxx, rfl⟩ | ⟨v, rfl, rfl⟩
 · rcases hxx with rfl | rfl
   · cases e' <;> first | exact hx.elim | skip
     exact fin .returning trivial
   · cases e' <;> first | exact hx.elim | skip
     exact fin .returning trivial
 · cases e' <;> first | exact hx.elim | skip
   exact fin _ hx
theorem roundA_some {K : Nat} {x : Option (AExit × St)} {k : St → Option (AExit × St)} {e : AEnd} {H' : AHeap} (h : roundA K x k = some (e, H')) : ∃ s1 r1 y s2 j r2, x = some (.normal, s1) ∧ s1.H.get K = some (.loop r1) ∧ r1.state = .ready ∧
    k ⟨s1.tmps, s1.dfs, s1.H.set K (.loop { r1 with state := .busy })⟩ = some (y, s2) ∧ jumpOf y = some j ∧ s2.H.get K = some (.loop r2) ∧ e = .ret (.bool j.isNone) ∧ H' = s2.H.set K (.loop { r2 with state := if j.isNone then .ready else .done, pending := j }) := by
 unfold roundA at h
 split at h
 case h_2 => simp at h
 rename_i s1
 split at h
 case h_2 => simp at h
 rename_i r1 hr1
 split at h
 case isFalse => simp at h
 rename_i hst
 unfold roundB at h
 split at h
 case h_2 => simp at h
 rename_i y s2 hk
 split at h
 case h_2 => simp at h
 rename_i j hj
 split at h
 case h_2 => simp at h
 rename_i r2 hr2
 simp only [Option.some.injEq, Prod.mk.injEq] at h
 exact ⟨s1, r1, y, s2, j, r2, rfl, hr1, hst, hk, hj, hr2, h.1.symm, h.2.symm⟩
theorem evalRound_ok (hcall : CallOK P call) (hm : P.follows .mixedOrders = true) (k : Nat) {K : Nat} {args : List Value} {H : AHeap} {e : AEnd} {H' : AHeap} (h : evalRound P call k K args H = some (e, H')) :
    AHeap.le H H' ∧ ∀ (N0 : Fz) (β : Emb) (w : World) (l : Nat) (r' : Loop) (args' : Array Value), HRel P N0 β H w → β.loop K = some l → w.heap[l]? = some (.loop r') → VRels β args args'.toList →
     ∀ ro n, RoundIn (WF ro) n P l r'.fn ((r'.params.zip args').foldl (fun tmps (t, a) => tmps.setIfInBounds t a) r'.tmps) r'.assign r'.body w (CallRel P N0 β w e H') := by
 unfold evalRound at h
 split at h
 case h_2 => simp at h
 rename_i r hr
 obtain ⟨s1, r1, y, s2, j, r2, h1, hr1, hst, h2, hj, hr2, rfl, rfl⟩ := roundA_some h
 have n1 := evalCode_next hcall k _ _ _ _ h1
 have n2 := evalCode_next hcall k _ _ _ _ h2
 refine ⟨AHeap.le_trans n1 (AHeap.le_trans (AHeap.le_set hr1) (AHeap.le_trans n2 (AHeap.le_set hr2))), ?_⟩
 intro N0 β w l r' args' hh hl hw ha ro n
 obtain ⟨q, q', a1, a2, a3, a4⟩ := hh.lp _ _ hl
 rw [hr] at a1
 obtain rfl : r = q := by simpa using a1
 rw [hw] at a3
 obtain rfl : r' = q' := by simpa using a3
 refine roundIn_of_wpIn trivial ?_
 let N0' : Fz := ⟨N0.low, w.heap.size⟩
 have hh' : HRel P N0' β H w := hh.weaken fun b hb => hb
 rw [a4.assign, a4.body]
 refine (code_sound hcall hm k).1 r.assign (some l) n _ _ _ N0' β _ w h1 ⟨by rw [a4.params]; exact setAll_rel ha a4.tmps, .nil, hh'⟩ (Nat.le_refl _) _ ?_
 intro e1 b1 w1 ho
 obtain ⟨rfl, N1, γ, g1, g2, le, hs1, hf1, hb1⟩ := ho.normal (Nat.le_refl _)
 have hl1 := le.loop _ _ hl
 obtain ⟨p, p', c1, c2, c3, c4⟩ := hs1.heap.lp _ _ hl1
 rw [hr1] at c1
 obtain rfl : r1 = p := by simpa using c1
 refine ⟨_, run_beginRound c3 (by rw [c4.state]; exact hst), ?_⟩
 obtain ⟨hh2, hf2⟩ := hs1.heap.setLoop (r := { r1 with state := .busy }) (r' := { p' with state := .busy }) hl1 ⟨rfl, c4.pending, c4.tmps, c4.params, c4.assign, c4.body⟩
 refine (code_sound hcall hm k).1 r.body (some l) n _ _ _ N1 γ _ _ h2 ⟨hs1.tmps, hs1.dfs.mono (Emb.le.refl _) hf2, hh2⟩ (by simpa using hb1) _ ?_
 intro e2 b2 w3 ho2
 obtain ⟨N2, δ, g3, g4, le2, hs2, hf3, hx⟩ := ho2
 have hl2 := le2.loop _ _ hl1
 obtain ⟨p2, p2', d1, d2, d3, d4⟩ := hs2.heap.lp _ _ hl2
 rw [hr2] at d1
 obtain rfl : r2 = p2 := by simpa using d1
 obtain ⟨hh4, hf4⟩ := hs2.heap.setLoop (r := { r2 with state := if j.isNone then .ready else .done, pending := j }) (r' := { p2' with state := if j.isNone then .ready else .done, pending := j }) hl2 ⟨rfl, rfl, d4.tmps, d4.params, d4.assign, d4.body⟩
 have hfr : Fr N0 w (w3.putObj l (.loop { p2' with state := if j.isNone then .ready else .done, pending := j })) :=
  ((hf1.weaken (N1 := N0') fun b hb => hb : Fr N0 w w1).trans (((hf2.trans hf3).weaken g2 : Fr N0' _ _).weaken (N1 := N0') fun b hb => hb)).trans (hf4.weaken fun b hb => g4 b (g2 b hb))
 have fin : CallRel P N0 β w (.ret (.bool j.isNone)) (s2.H.set K (.loop { r2 with state := if j.isNone then .ready else .done, pending := j })) (.returned (.bool j.isNone)) (w3.putObj l (.loop { p2' with state := if j.isNone then .ready else .done, pending := j })) :=
  ⟨δ, le.trans le2, hh4.weaken fun b hb => g4 b (g2 b hb), .closed rfl, hfr⟩
 have hrun := run_endRound (P := P) j d3
 cases y with
 | normal =>
  obtain rfl : none = j := by simpa [jumpOf] using hj
  cases e2 <;> first | exact hx.elim | skip
  exact ⟨_, _, hrun, fin⟩
 | ret =>
  obtain rfl : some Code.ret = j := by simpa [jumpOf] using hj
  cases e2 <;> first | exact hx.elim | skip
  exact ⟨_, _, hrun, fin⟩
 | exit i =>
  obtain rfl : some (Code.exit i) = j := by simpa [jumpOf] using hj
  cases e2 <;> first | exact hx.elim | skip
  obtain rfl := (hx : i = _)
  exact ⟨_, _, hrun, fin⟩
 | panic v => simp [jumpOf] at hj
theorem evalBody_ok (hcall : CallOK P call) (hm : P.follows .mixedOrders = true) (k : Nat) {f : FuncId} {args : List Value} {H : AHeap} {e : AEnd} {H' : AHeap} (h : evalBody P call k f args H = some (e, H')) :
    AHeap.le H H' ∧ ∀ (N0 : Fz) (β : Emb) (w : World) (nx : Next), HRel P N0 β H w → Comes P β w f args nx → ∀ (ro : Option Nat) (n : Nat), NextIn (WF ro) n P nx w (CallRel P N0 β w e H') := by
 cases hf : P.funcs[f]? with
 | some fn =>
  obtain ⟨h1, h2⟩ := evalFun_ok hcall hm k hf h
  refine ⟨h1, fun N0 β w nx hh hc ro n => ?_⟩
  cases hc with
  | fn hf' ha =>
   have := h2 N0 β w _ hh ha n
   cases ro <;> exact this
  | round he _ _ _ _ =>
   rw [he, Array.getElem?_eq_none (by omega)] at hf; simp at hf
 | none =>
  unfold evalBody at h
  rw [hf] at h
  obtain ⟨h1, h2⟩ := evalRound_ok hcall hm k h
  refine ⟨h1, fun N0 β w nx hh hc ro n => ?_⟩
  cases hc with
  | fn hf' ha => rw [hf] at hf'; simp at hf'
  | round he hl hw hs ha =>
   subst he
   rw [Nat.add_sub_cancel_left] at h2
   exact h2 N0 β w _ _ _ hh hl hw ha ro n
theorem evalFn_ok {ext : CallT} (hext : CallOK P ext) (hm : P.follows .mixedOrders = true) : ∀ k, CallOK P (evalFn P ext k) := by
 intro k
 induction k with
 | zero => exact hext
 | succ k ih =>
  intro f args H e H' h
  rw [evalFn] at h
  dsimp only at h
  split at h
  · rename_i q hq
    rw [h] at hq
    exact hext f args H e H' hq
  · exact evalBody_ok ih hm k h
theorem theCall_ok {ext : CallT} (hext : CallOK P ext) (hm : P.follows .mixedOrders = true) : CallOK P (theCall P ext) := by
 intro f args H e H' h
 obtain ⟨k, hk⟩ := theCall_some.1 h
 exact evalFn_ok hext hm k f args H e H' hk
end
end B
end Go.Proofs.YtmjmpaceopipbaaGreat
namespace Go.Proofs.YtmjmpaceopipbaaGreat
namespace B
open Go
def isRow (W : World) (i : Nat) : Bool := match W.heap[i]? with
 | some (.cells _ _ _) => true
 | _ => false
def embOf (W : World) : Emb where
 row i k := if k = 0 ∧ isRow W i = true then some (i, 0) else none
 map _ := none
 loop _ := none
 bsz b := match W.heap[b]? with
  | some (.cells c _ _) => c.size
  | _ => 0
 bes _ := 0
 live i := decide (i < W.heap.size + 1)
 nx := W.heap.size + 1
open Classical in
noncomputable def fixV (W : World) (v : Value) : Value := if VRel (embOf W) v v then v else match v with
 | .slice (some _) 0 0 => .slice (some ⟨W.heap.size, 0, none⟩) 0 0
 | _ => v
theorem fixV_of {W : World} {v : Value} (h : VRel (embOf W) v v) : fixV W v = v := by unfold fixV; rw [if_pos h]
open Classical in
noncomputable def stampOf (W : World) (v : Value) : Nat := if VRel (embOf W) (fixV W v) v then 0 else 1
noncomputable def heapOf (W : World) : AHeap where
 next := W.heap.size + 1
 get i := match W.heap[i]? with
  | some (.cells c e _) => some (.arr (c.toList.map (fixV W)) (c.toList.map (stampOf W)) 1 e true)
  | _ => none
theorem isRow_some {W : World} {i : Nat} (h : isRow W i = true) : ∃ c e fz, W.heap[i]? = some (.cells c e fz) := by
 unfold isRow at h
 split at h
 · rename_i c e fz hb; exact ⟨c, e, fz, hb⟩
 · simp at h
theorem stampOf_le {W : World} (v : Value) : stampOf W v ≤ 1 := by unfold stampOf; split <;> omega
theorem stampOf_zero {W : World} {v : Value} (h : stampOf W v ≤ 0) : VRel (embOf W) (fixV W v) v := by
 unfold stampOf at h
 split at h
 · assumption
 · omega
theorem heapOf_view {W : World} {i : Nat} {c : Array Value} {e : TypeId} {fz : Nat × Nat} (h : W.heap[i]? = some (.cells c e fz)) :
    (heapOf W).view i = some ⟨c.toList.map (fixV W), fun j => (c.toList.map (stampOf W)).getD j 0, 1, e, true⟩ := by
 simp [AHeap.view, heapOf, h, AObj.view]
theorem stamps_le {W : World} (l : List Value) (j : Nat) : (l.map (stampOf W)).getD j 0 ≤ 1 := by
 rw [List.getD_eq_getElem?_getD, List.getElem?_map]
 cases l[j]? with
 | none => simp
 | some v => simpa using stampOf_le v
theorem heapOf_rel (P : Program) (W : World) : HRel P ⟨fun b => b < W.heap.size, 0⟩ (embOf W) (heapOf W) W := by
 have hrow : ∀ {i k b o : Nat}, (embOf W).row i k = some (b, o) → k = 0 ∧ b = i ∧ o = 0 ∧ isRow W i = true := by
  intro i k b o h
  unfold embOf at h
  dsimp only at h
  split at h
  · rename_i hc
    simp only [Option.some.injEq, Prod.mk.injEq] at h
    exact ⟨hc.1, h.1.symm, h.2.symm, hc.2⟩
  · simp at h
 have hview : ∀ {i : Nat} {r : RowV}, (heapOf W).view i = some r → ∃ c e fz, W.heap[i]? = some (.cells c e fz) ∧ r = ⟨c.toList.map (fixV W), fun j => (c.toList.map (stampOf W)).getD j 0, 1, e, true⟩ := by
  intro i r h
  unfold AHeap.view heapOf at h
  dsimp only at h
  split at h
  · rename_i c e fz hb
    simp only [Option.bind_some, AObj.view, Option.some.injEq] at h
    exact ⟨c, e, fz, hb, h.symm⟩
  · simp at h
 constructor
 · intro i k b o r h1 h2
   obtain ⟨rfl, rfl, rfl, _⟩ := hrow h1
   obtain ⟨c, e, fz, hb, rfl⟩ := hview h2
   refine ⟨c, fz, { blk := hb, size := by simp [embOf, hb], elem := fun h => by simp at h, robes := fun _ => rfl, cell := ?_, own := fun h => by simp at h, gen := by simp }⟩
   intro j v hj hst
   dsimp only at hj hst
   rw [List.getElem?_map] at hj
   obtain ⟨u, hu, rfl⟩ := Option.map_eq_some_iff.1 hj
   rw [List.getD_eq_getElem?_getD, List.getElem?_map, hu] at hst
   exact ⟨u, by rw [Nat.zero_add, ← Array.getElem?_toList]; exact hu, stampOf_zero (by simpa using hst)⟩
 · intro i b es h; simp [embOf] at h
 · intro i k p h
   obtain ⟨b, o⟩ := p
   obtain ⟨_, _, _, hr⟩ := hrow h
   obtain ⟨c, e, fz, hb⟩ := isRow_some hr
   exact ⟨_, heapOf_view hb⟩
 · intro i b h; simp [embOf] at h
 · intro i h
   have h' : W.heap.size + 1 ≤ i := h
   have : W.heap[i]? = none := Array.getElem?_eq_none (by omega)
   simp [heapOf, this]
 · intro i r h j
   obtain ⟨c, e, fz, _, rfl⟩ := hview h
   exact stamps_le _ _
 · intro i k b o i' k' o' r r' h1 h2 h3 h4
   obtain ⟨_, rfl, _, _⟩ := hrow h1
   obtain ⟨_, e, _, _⟩ := hrow h2
   exact .inl e
 · intro i i' b h; simp [embOf] at h
 · exact fun _ h => h
 · rfl
 · intro i k p h
   obtain ⟨b, o⟩ := p
   obtain ⟨c, e, fz, hb⟩ := isRow_some (hrow h).2.2.2
   have := (Array.getElem?_eq_some_iff.1 hb).1
   show decide (i < W.heap.size + 1) = true
   rw [decide_eq_true_eq]; omega
 · intro i b h; simp [embOf] at h
 · intro i h
   exact of_decide_eq_true (h : decide (i < W.heap.size + 1) = true)
 · intro i b h; simp [embOf] at h
 · intro i i' b h; simp [embOf] at h
theorem arel_of {W : World} {a : Addr} (hs : a.spot = none) (hr : isRow W a.block = true) : ARel (embOf W) a a := by
 refine ⟨a.block, 0, ?_, ?_⟩
 · simp [embOf, agen, hs, hr]
 · cases a; simp_all
theorem good_slice {W : World} {a : Addr} {len cap : Nat} (hs : a.spot = none) (hr : isRow W a.block = true) (hl : len ≤ cap) : VRel (embOf W) (.slice (some a) len cap) (.slice (some a) len cap) :=
 .slice (arel_of hs hr) hl (Nat.le_refl _) (fun h => by simp [embOf] at h)
theorem cell_isRow {W : World} {a : Addr} {v : Value} (h : W.cell? a = some v) : a.spot = none ∧ isRow W a.block = true := by
 unfold World.cell? at h
 unfold isRow
 split at h
 · rename_i c e fz hb
   rw [hb]
   split at h
   · simp at h
   · rename_i hs
     exact ⟨by simpa using hs, rfl⟩
 · simp at h
theorem heapOf_cellF {W : World} {a : Addr} {v : Value} (h : W.cell? a = some v) (hg : VRel (embOf W) (fixV W v) v) : (heapOf W).cell a = some (fixV W v) := by
 obtain ⟨hs, hr⟩ := cell_isRow h
 obtain ⟨c, e, fz, hb⟩ := isRow_some hr
 unfold World.cell? at h
 rw [hb] at h
 simp only [hs, Option.isSome_none, Bool.false_eq_true, if_false] at h
 have hj : c.toList[a.off]? = some v := by rw [Array.getElem?_toList]; exact h
 unfold AHeap.cell
 rw [heapOf_view hb]
 dsimp only
 rw [List.getElem?_map, hj]
 dsimp only [Option.map_some]
 rw [if_pos]
 rw [List.getD_eq_getElem?_getD, List.getElem?_map, hj]
 simp [stampOf, hg]
theorem fixV_empty {W : World} {a : Addr} : VRel (embOf W) (fixV W (.slice (some a) 0 0)) (.slice (some a) 0 0) := by
 unfold fixV
 split
 · assumption
 · exact .sliceZ (by simp [embOf])
theorem fixV_empty_eq (W : World) (a : Addr) : ∃ c, fixV W (.slice (some a) 0 0) = .slice (some c) 0 0 := by
 unfold fixV
 split
 · exact ⟨a, rfl⟩
 · exact ⟨_, rfl⟩
theorem addA_add' {a : Addr} (hs : a.spot = none) (n : Nat) : a.add n = addA a n := by
 unfold Addr.add addA
 split
 · rename_i h; subst h; cases a; simp_all
 · rw [hs]
theorem heapOf_readF {W : World} : ∀ {n : Nat} {a : Addr} {vs : List Value}, a.spot = none → vs.length = n → (∀ i v, vs[i]? = some v → W.cell? (addA a i) = some v ∧ VRel (embOf W) (fixV W v) v) → (heapOf W).readN a n = some (vs.map (fixV W))
 | 0, a, vs, _, hl, _ => by rw [List.eq_nil_of_length_eq_zero hl]; rfl
 | n + 1, a, [], _, hl, _ => by simp at hl
 | n + 1, a, v :: vs, hs, hl, h => by
  obtain ⟨h1, h2⟩ := h 0 v rfl
  unfold AHeap.readN
  have e0 : addA a 0 = a := by cases a; simp [addA]
  rw [e0] at h1
  rw [heapOf_cellF h1 h2]
  dsimp only
  rw [heapOf_readF (n := n) (a := addA a 1) (vs := vs) hs (by simpa using hl) fun i u hu => ?_]
  · rfl
  · have := h (i + 1) u (by simpa using hu)
    have e1 : addA (addA a 1) i = addA a (i + 1) := by simp only [addA]; congr 1; omega
    rw [e1]; exact this
theorem cells?_at {W : World} {base : Nat} {a : Addr} {n : Nat} {cs : List Value} (h : W.cells? base a n = some cs) : cs.length = n ∧ ∀ i v, cs[i]? = some v → W.cell? (a.add i) = some v := by
 unfold World.cells? at h
 split at h
 · have hl := mapM_some_length h
   refine ⟨by simpa using hl, fun i v hi => ?_⟩
   have hin : i < n := by have := (List.getElem?_eq_some_iff.1 hi).1; simp at hl; omega
   have key : ∀ (l : List Nat) (f : Nat → Option Value) (r : List Value), l.mapM f = some r → ∀ (i : Nat) (v : Value), r[i]? = some v → ∃ x, l[i]? = some x ∧ f x = some v := by
    intro l f
    induction l with
    | nil => intro r hr i v hi; simp at hr; subst hr; simp at hi
    | cons x xs ih =>
     intro r hr i v hi
     rw [List.mapM_cons] at hr
     cases hx : f x with
     | none => simp [hx] at hr
     | some y =>
      cases hxs : xs.mapM f with
      | none => simp [hx, hxs] at hr
      | some ys =>
       simp [hx, hxs] at hr
       subst hr
       cases i with
       | zero => simp at hi; subst hi; exact ⟨x, by simp, hx⟩
       | succ i => simp only [List.getElem?_cons_succ] at hi ⊢; exact ih _ hxs _ _ hi
   obtain ⟨x, hx, hf⟩ := key _ _ _ h i v hi
   rw [List.getElem?_range hin] at hx
   obtain rfl : i = x := by simpa using hx
   exact hf
 · simp at h
theorem entry {P : Program} {ext : CallT} (hext : CallOK P ext) (hm : P.follows .mixedOrders = true) {f : FuncId} {fn : Func} (hfn : P.funcs[f]? = some fn) {args : Array Value} {as : List Value} {W : World} {v : Value} {H' : AHeap}
    (h : theCall P ext f as (heapOf W) = some (.ret v, H')) (hv : closedV v = true) (ha : VRels (embOf W) as args.toList) :
    Calls P f args W fun e W' => e = .returned v ∧ Fr ⟨fun b => b < W.heap.size, 0⟩ W W' := by
 refine (callsIn_wide (n := 0)).1 ?_
 have hc : CallsIn (WF none) 0 P f args W _ := ((theCall_ok hext hm) _ _ _ _ _ h).2 ⟨fun b => b < W.heap.size, 0⟩ (embOf W) W (.enter f args) (heapOf_rel P W) (.fn hfn ha) none 0
 refine CallsIn.mono hc ?_
 intro e W' hr
 obtain ⟨γ, le, hh, he, hf⟩ := hr
 cases e with
 | returned v' => exact ⟨by rw [VRel.eq_of_closed he hv], hf⟩
 | panicked c => exact he.elim
 | outgrown => exact he.elim
section
open Go.ChangeShapes
variable {H : Type} {enc : TypeId × Value → H} {P : Program} {W W' : World}
theorem Fr.keptBut (h : Fr ⟨fun b => b < W.heap.size, 0⟩ W W') (may : MemPlace → Prop) : W.keptBut W' may := by
 refine ⟨h.os, h.out, fun i hi => ?_⟩
 rw [h.low i hi]
 cases hb : W.heap[i]? with
 | none => rfl
 | some o =>
  cases o <;> first | rfl | exact ⟨rfl, rfl, rfl, fun _ _ => rfl⟩ | exact .inr ⟨rfl, rfl⟩
theorem Fr.sameAt (h : Fr ⟨fun b => b < W.heap.size, 0⟩ W W') {p : MemPlace} (hp : p.block < W.heap.size) : W.sameAt W' p := by
 cases p with
 | cell b off =>
  show W'.cell? _ = W.cell? _
  unfold World.cell?
  have := h.low b hp
  simp only [this]
 | map b => exact h.low b hp
theorem TrodAll_carry (h : Fr ⟨fun b => b < W.heap.size, 0⟩ W W') {base : Nat} {spare : Nat → Bool} {held : Bool} : ∀ {ts : List TypeId} {vs : List Value} {ds : List (DataW H)} {ps : List MemPlace}, (∀ p ∈ ps, p.block < W.heap.size) →
    DataW.TrodAll enc P W base spare held ts vs ds ps → DataW.TrodAll enc P W' base spare held ts vs ds ps
 | [], [], [], _, _, h => h
 | [], [], _ :: _, _, _, h => h
 | [], _ :: _, _, _, _, h => h
 | _ :: _, [], _, _, _, h => h
 | _ :: _, _ :: _, [], _, _, h => h
 | _ :: _, _ :: _, _ :: _, _, hp, ⟨p, q, ⟨n, h1⟩, h2, e⟩ => by
  refine ⟨p, q, ⟨n, DataW.trod_carry _ _ _ _ h1 fun x hx => h.sameAt (hp x (by rw [e]; simp [hx]))⟩, TrodAll_carry h (fun x hx => hp x (by rw [e]; simp [hx])) h2, e⟩
theorem post_true {T : TypeId → Prop} (K : Kids P T) (hz : ∀ t e, T t → P.underlying t = some (.slice e) → 0 < P.cellsOf e) {f : Func} {s : ChangeSpec} {fresh handsOn : Bool} {args : Array Value} {ds : List (DataW H)} {before : List MemPlace} {t : TypeId}
    (hW : DataW.Whole enc P f.params.toList s.vars false W args.toList ds [] before) (hT : ∀ t ∈ f.params.toList, T t) (hvars : s.vars = []) (hres : f.resultTypes = #[t]) (hb : P.underlying t = some .bool)
    (hr : (s.fn H (ds ++ [])).results = [.lit (.bool true)]) (hargs : (s.fn H (ds ++ [])).args = ds) (hgs : (s.fn H (ds ++ [])).vars = []) (hf : Fr ⟨fun b => b < W.heap.size, 0⟩ W W') :
    s.post enc P f false fresh handsOn false W args (.bool true) W' := by
 have hW' := hW
 obtain ⟨p, q, h1, h2, h3, h4, h5⟩ := hW
 have hlt : ∀ x ∈ before, x.block < W.heap.size := fun x hx => hW'.lt x hx
 have hq : q = [] := by rw [hvars] at h2; exact h2
 subst hq
 rw [List.append_nil] at h3
 subst h3
 refine ⟨ds, [], before, [], before, [], hW', ?_, ?_, ?_, hf.keptBut _, fun h => by simp at h⟩
 · rw [hres, hr]
   refine ⟨[], [], ⟨1, ?_⟩, rfl, rfl⟩
   simp [DataW.trod, hb, Value.cells]
 · rw [hargs]
   refine TrodAll_carry hf hlt (DataW.TrodAll.respare K hz hT h1 fun x hx => ?_)
   simpa using hlt x hx
 · rw [hvars, hgs]; rfl
end
end B
end Go.Proofs.YtmjmpaceopipbaaGreat
namespace Go.Proofs.YtmjmpaceopipbaaGreat
namespace B
open Go
section
variable {P : Program} {call : CallT}
noncomputable def opA (P : Program) (H : AHeap) (ρ : Operand → Value) (op : Op) (ty : TypeId) : Option ARes := evalAny P H ρ ⟨none, op, ty, "", #[], none⟩
theorem evalAny_op (H : AHeap) (ρ : Operand → Value) (o : Oper) : evalAny P H ρ o = opA P H ρ o.op o.type := by
 unfold opA
 have hx : ∀ ρ', execOp ρ' o = execOp ρ' ⟨none, o.op, o.type, "", #[], none⟩ := fun ρ' => by unfold execOp; rfl
 have hc : closedRun P ρ o = closedRun P ρ ⟨none, o.op, o.type, "", #[], none⟩ := by unfold closedRun; rw [hx]
 have hop : evalOp P H ρ o = evalOp P H ρ ⟨none, o.op, o.type, "", #[], none⟩ := by
  unfold evalOp; rw [hc]
 have hcall : ∀ c, evalCall P H ρ o c = evalCall P H ρ ⟨none, o.op, o.type, "", #[], none⟩ c := by
  intro c; unfold evalCall; rw [hc]
 unfold evalAny
 simp only [hop, hcall]
def isDefer : Op → Bool
 | .defer _ => true
 | _ => false
def contA (call : CallT) (dst : Option Nat) (k : St → Option (AExit × St)) (s : St) : Option ARes → Option (AExit × St)
 | some (.val v H) => k ⟨putT dst v s.tmps, s.dfs, H⟩
 | some (.skip H) => k ⟨putT dst undef s.tmps, s.dfs, H⟩
 | some (.enter f args H) => match call f args H with
  | some (.ret v, H') => k ⟨putT dst v s.tmps, s.dfs, H'⟩
  | some (.panic v, H') => some (.panic v, ⟨s.tmps, s.dfs, H'⟩)
  | none => none
 | some (.panic v H) => some (.panic v, ⟨s.tmps, s.dfs, H⟩)
 | _ => none
def callA (dst : Option Nat) (k : St → Option (AExit × St)) (tmps : List Value) (dfs : List ADef) : Option (AEnd × AHeap) → Option (AExit × St)
 | some (.ret v, H') => k ⟨putT dst v tmps, dfs, H'⟩
 | some (.panic v, H') => some (.panic v, ⟨tmps, dfs, H'⟩)
 | none => none
noncomputable def evalList (P : Program) (call : CallT) (rnd : Bool) (all : List Oper) : List Oper → St → Option (AExit × St)
 | [], s => some (.normal, s)
 | o :: rest, s =>
  if wantedA all s.tmps o then
   if isDefer o.op then match o.op with
    | .defer c => if rnd = false ∧ o.op.operands.all operandOk = true then match deferOf P (aev s.tmps) c with
        | some d => evalList P call rnd all rest ⟨putT o.dst undef s.tmps, d :: s.dfs, s.H⟩
        | none => none
     else none
    | _ => none
   else contA call o.dst (evalList P call rnd all rest) s (opA P s.H (aev s.tmps) o.op o.type)
  else evalList P call rnd all rest ⟨putT o.dst undef s.tmps, s.dfs, s.H⟩
theorem evalIdx_from {rnd : Bool} {ops : List Oper} : ∀ (n k : Nat) (s : St), k + n = ops.length → evalIdx P call rnd ops (List.range' k n) s = evalList P call rnd ops (ops.drop k) s
 | 0, k, s, h => by
  rw [List.drop_eq_nil_of_le (by omega)]
  rfl
 | n + 1, k, s, h => by
  have hk : k < ops.length := by omega
  rw [List.range'_succ, List.drop_eq_getElem_cons hk]
  have ih := fun s => evalIdx_from (rnd := rnd) (ops := ops) n (k + 1) s (by omega)
  unfold evalIdx evalList
  rw [List.getElem?_eq_getElem hk]
  dsimp only
  split
  · cases hd : isDefer ops[k].op with
    | true =>
     simp only [if_true]
     cases hop : ops[k].op <;> rw [hop] at hd <;> simp [isDefer] at hd
     rename_i c
     simp only []
     split
     · cases hdd : deferOf P (aev s.tmps) c with
       | none => rfl
       | some d => exact ih _
     · rfl
    | false =>
     simp only [Bool.false_eq_true, if_false]
     have hnd : ∀ c, ops[k].op ≠ .defer c := by intro c hc; rw [hc] at hd; simp [isDefer] at hd
     rw [← evalAny_op]
     split
     · rename_i c hc; exact absurd hc (hnd c)
     · cases hev : evalAny P s.H (aev s.tmps) ops[k] with
       | none => rfl
       | some r =>
        cases r <;> simp only [contA] <;> first | exact ih _ | rfl | skip
        rename_i f args H
        cases call f args H with
        | none => rfl
        | some q =>
         obtain ⟨e, H'⟩ := q
         cases e
         · exact ih _
         · rfl
  · exact ih _
theorem theCode_list {ext : CallT} {rnd : Bool} {id : Nat} {l : List Oper} {s : St} : theCode P ext rnd (.region id l.toArray false) s = evalList P (theCall P ext) rnd l l s := by
 rw [theCode_region]
 have := evalIdx_from (P := P) (call := theCall P ext) (rnd := rnd) (ops := l) l.length 0 s (by omega)
 rw [List.drop_zero] at this
 rw [← this, List.range_eq_range']
 simp
theorem contA_val {dst : Option Nat} {k : St → Option (AExit × St)} {s : St} {v : Value} {H : AHeap} : contA call dst k s (some (.val v H)) = k ⟨putT dst v s.tmps, s.dfs, H⟩ := rfl
theorem contA_skip {dst : Option Nat} {k : St → Option (AExit × St)} {s : St} {H : AHeap} : contA call dst k s (some (.skip H)) = k ⟨putT dst undef s.tmps, s.dfs, H⟩ := rfl
theorem contA_panic {dst : Option Nat} {k : St → Option (AExit × St)} {s : St} {v : Value} {H : AHeap} : contA call dst k s (some (.panic v H)) = some (.panic v, ⟨s.tmps, s.dfs, H⟩) := rfl
theorem contA_enter {dst : Option Nat} {k : St → Option (AExit × St)} {s : St} {f : FuncId} {args : List Value} {H : AHeap} : contA call dst k s (some (.enter f args H)) = callA dst k s.tmps s.dfs (call f args H) := by
 unfold contA callA; rfl
theorem callA_ret {dst : Option Nat} {k : St → Option (AExit × St)} {tm : List Value} {dfs : List ADef} {v : Value} {H : AHeap} : callA dst k tm dfs (some (.ret v, H)) = k ⟨putT dst v tm, dfs, H⟩ := rfl
theorem aev_tmp {tm : List Value} {i : Nat} : aev tm (.tmp i) = tm.getD i undef := rfl
theorem thenA_normal {s : St} {k : St → Option (AExit × St)} : thenA (some (.normal, s)) k = k s := rfl
theorem thenA_ret {s : St} {k : St → Option (AExit × St)} : thenA (some (.ret, s)) k = some (.ret, s) := rfl
theorem thenA_exit {i : Nat} {s : St} {k : St → Option (AExit × St)} : thenA (some (.exit i, s)) k = some (.exit i, s) := rfl
theorem thenA_panic {v : Value} {s : St} {k : St → Option (AExit × St)} : thenA (some (.panic v, s)) k = some (.panic v, s) := rfl
theorem inBlockA_exit {i j : Nat} {s : St} : inBlockA i (some (.exit j, s)) = if j = i then some (.normal, s) else some (.exit j, s) := rfl
end
end B
end Go.Proofs.YtmjmpaceopipbaaGreat
namespace Go.Proofs.YtmjmpaceopipbaaGreat
namespace B
open Go
def valA (H : AHeap) : Option Value → Option ARes
 | some v => some (.val v H)
 | none => none
def skipA : Option AHeap → Option ARes
 | some H => some (.skip H)
 | none => none
theorem pureRun_pure {α : Type} {P : Program} {a : α} : pureRun P (pure a : Sem α) = some a := rfl
theorem pureRun_seq {α γ : Type} {P : Program} : ∀ {s : Sem α} {f : α → Sem γ} {a : α}, pureRun P s = some a → pureRun P (s >>= f) = pureRun P (f a)
 | .pure a, f, c, h => by simp only [pureRun, Option.some.injEq] at h; subst h; rfl
 | .program k, f, c, h => pureRun_seq (s := k P) (f := f) h
 | .mark m k, f, c, h => pureRun_seq (s := k) (f := f) h
 | .load .., _, _, h => by simp [pureRun] at h
 | .store .., _, _, h => by simp [pureRun] at h
 | .new .., _, _, h => by simp [pureRun] at h
 | .shape .., _, _, h => by simp [pureRun] at h
 | .freeze .., _, _, h => by simp [pureRun] at h
 | .frozen .., _, _, h => by simp [pureRun] at h
 | .getObj .., _, _, h => by simp [pureRun] at h
 | .setObj .., _, _, h => by simp [pureRun] at h
 | .choose .., _, _, h => by simp [pureRun] at h
 | .sys .., _, _, h => by simp [pureRun] at h
 | .halt _, _, _, h => by simp [pureRun] at h
theorem pureRun_value {P : Program} {s : Sem Value} {v : Value} (h : pureRun P s = some v) : pureRun P (do pure (Next.value (← s)) : Sem Next) = some (.value v) := by
 rw [pureRun_seq h]; rfl
section
variable {P : Program} {H : AHeap} {ρ : Operand → Value} {ty : TypeId}
theorem ev_of {op : Op} (h1 : ∀ c, op ≠ .call c) (h2 : ∀ t m k ok, op ≠ .lookup t m k ok) (h3 : ∀ t m k v, op ≠ .mapUpdate t m k v) (h4 : ∀ t m k v, op ≠ .insert t m k v) :
    opA P H ρ op ty = evalOp P H ρ ⟨none, op, ty, "", #[], none⟩ := by
 unfold opA evalAny
 cases op <;> first | rfl | exact absurd rfl (h1 _) | exact absurd rfl (h2 _ _ _ _) | exact absurd rfl (h3 _ _ _ _) | exact absurd rfl (h4 _ _ _ _)
theorem opA_move {x : Operand} (hx : operandOk x = true) : opA P H ρ (.move x) ty = some (.val (ρ x) H) := by
 rw [ev_of (by simp) (by simp) (by simp) (by simp)]; unfold evalOp; simp [Op.operands, hx]
theorem opA_assign {x : Operand} (hx : operandOk x = true) : opA P H ρ (.assign x) ty = some (.val (ρ x) H) := by
 rw [ev_of (by simp) (by simp) (by simp) (by simp)]; unfold evalOp; simp [Op.operands, hx]
theorem opA_pick {c a b : Operand} (hc : operandOk c = true) (ha : operandOk a = true) (hb : operandOk b = true) (hv : (boolOf (ρ c)).isSome = true) :
    opA P H ρ (.pick c a b) ty = if boolOf (ρ c) = some true then some (.val (ρ a) H) else some (.val (ρ b) H) := by
 rw [ev_of (by simp) (by simp) (by simp) (by simp)]; unfold evalOp; simp only [Op.operands]
 simp [hc, ha, hb]
 cases h : ρ c <;> rw [h] at hv <;> simp_all [boolOf]
 rename_i b2; cases b2 <;> simp
def loadS (P : Program) (H : AHeap) (t : TypeId) : Value → Option ARes
 | .pointer (some a) => valA H (H.loadV P t a)
 | _ => none
theorem opA_load {t : TypeId} {x : Operand} (hx : operandOk x = true) : opA P H ρ (.load t x) ty = loadS P H t (ρ x) := by
 rw [ev_of (by simp) (by simp) (by simp) (by simp)]; unfold evalOp; simp [Op.operands, hx, loadS]
 cases ρ x <;> try rfl
theorem loadS_ptr {t : TypeId} {a : Addr} : loadS P H t (.pointer (some a)) = valA H (H.loadV P t a) := rfl
def storeS (P : Program) (H : AHeap) (t : TypeId) (v : Value) : Value → Option ARes
 | .pointer (some a) => skipA (H.storeV P t a v)
 | _ => none
theorem opA_store {t : TypeId} {x y : Operand} (hx : operandOk x = true) (hy : operandOk y = true) : opA P H ρ (.store t x y) ty = storeS P H t (ρ y) (ρ x) := by
 rw [ev_of (by simp) (by simp) (by simp) (by simp)]; unfold evalOp; simp [Op.operands, hx, hy, storeS]
 cases ρ x <;> try rfl
theorem storeS_ptr {t : TypeId} {a : Addr} {v : Value} : storeS P H t v (.pointer (some a)) = skipA (H.storeV P t a v) := rfl
def nilCheckS (H : AHeap) : Value → Option ARes
 | .pointer (some a) => some (.val (.pointer (some a)) H)
 | .func (.func f) u v => some (.val (.func (.func f) u v) H)
 | _ => none
theorem opA_nilCheck {x : Operand} (hx : operandOk x = true) : opA P H ρ (.nilCheck x) ty = nilCheckS H (ρ x) := by
 rw [ev_of (by simp) (by simp) (by simp) (by simp)]; unfold evalOp; simp [Op.operands, hx, nilCheckS]
 cases ρ x <;> try rfl
theorem nilCheckS_ptr {a : Addr} : nilCheckS H (.pointer (some a)) = some (.val (.pointer (some a)) H) := rfl
theorem nilCheckS_func {f : FuncId} {u v : Array Value} : nilCheckS H (.func (.func f) u v) = some (.val (.func (.func f) u v) H) := rfl
def fieldAddrS (P : Program) (H : AHeap) (s : TypeId) (f : Nat) : Value → Option ARes
 | .pointer (some a) => match P.underlying s with
  | some (.struct fields) => match fields[f]? with
   | some fd => match P.info? fd.type with
    | some i => if i.size = 0 then none else some (.val (.pointer (some (addA a fd.offset))) H)
    | none => none
   | none => none
  | _ => none
 | _ => none
theorem opA_fieldAddr {s : TypeId} {x : Operand} {f : Nat} (hx : operandOk x = true) : opA P H ρ (.fieldAddr s x f) ty = fieldAddrS P H s f (ρ x) := by
 rw [ev_of (by simp) (by simp) (by simp) (by simp)]; unfold evalOp; simp [Op.operands, hx, fieldAddrS]
 cases h : P.underlying s with
 | none => cases ρ x <;> try rfl
           rename_i a; cases a <;> rfl
 | some d => cases d <;> cases ρ x <;> try rfl
             all_goals (rename_i a; cases a <;> rfl)
def extractS (H : AHeap) (ix : Nat) : Value → Option ARes
 | .tuple vs => valA H vs[ix]?
 | _ => none
theorem opA_extract {x : Operand} {ix : Nat} (hx : operandOk x = true) : opA P H ρ (.extract x ix) ty = extractS H ix (ρ x) := by
 rw [ev_of (by simp) (by simp) (by simp) (by simp)]; unfold evalOp; simp [Op.operands, hx, extractS]
 cases ρ x <;> try rfl
theorem extractS_tuple {ix : Nat} {vs : Array Value} : extractS H ix (.tuple vs) = valA H vs[ix]? := rfl
def binC (P : Program) (op : BinOp) (t : TypeId) (x y : Operand) (v w : Value) : Option Value :=
 if closedV v && closedV w then match pureRun P (do eqGuard op t x y v w; binOp op t v w) with
  | some r => if closedV r then some r else none
  | none => none
 else none
def binS (P : Program) (H : AHeap) (op : BinOp) (t : TypeId) (x y : Operand) (v w : Value) : Option ARes :=
 match binC P op t x y v w with
 | some r => some (.val r H)
 | none => match P.underlying t with
  | some d => match nilEq d v w with
   | some b => match op with
    | .eql => some (.val (.bool b) H)
    | .neq => some (.val (.bool (!b)) H)
    | _ => none
   | none => none
  | none => none
theorem pureRun_map {s : Sem Value} : pureRun P (do pure (Next.value (← s)) : Sem Next) = (pureRun P s).map .value := by
 cases h : pureRun P s with
 | some v => rw [pureRun_value h]; rfl
 | none =>
  cases h2 : pureRun P (do pure (Next.value (← s)) : Sem Next) with
  | none => rfl
  | some c =>
   obtain ⟨a, h3, _⟩ := pureRun_bind h2
   rw [h] at h3; simp at h3
theorem closedRun_bin {op : BinOp} {t : TypeId} {x y : Operand} {u : TypeId} : closedRun P ρ ⟨none, .binOp op t x y u, ty, "", #[], none⟩ = binC P op t x y (ρ x) (ρ y) := by
 unfold closedRun binC
 have : execOp ρ ⟨none, .binOp op t x y u, ty, "", #[], none⟩ = (do pure (Next.value (← (do eqGuard op t x y (ρ x) (ρ y); binOp op t (ρ x) (ρ y)))) : Sem Next) := rfl
 rw [this, pureRun_map]
 simp only [Op.operands]
 simp only [List.all_toArray, List.all_cons, List.all_nil, Bool.and_true]
 cases pureRun P (do eqGuard op t x y (ρ x) (ρ y); binOp op t (ρ x) (ρ y)) <;> rfl
theorem opA_bin {op : BinOp} {t : TypeId} {x y : Operand} {u : TypeId} (hx : operandOk x = true) (hy : operandOk y = true) : opA P H ρ (.binOp op t x y u) ty = binS P H op t x y (ρ x) (ρ y) := by
 rw [ev_of (by simp) (by simp) (by simp) (by simp)]; unfold evalOp binS
 simp only [closedRun_bin]
 simp only [Op.operands, List.all_toArray, List.all_cons, List.all_nil, hx, hy, Bool.and_true, if_true]
 rfl
theorem strEq (s u : ByteArray) : (s.toList == u.toList) = decide (s = u) := by
 rw [ByteArray.toList_eq, ByteArray.toList_eq]
 by_cases h : s = u
 · subst h; simp
 · have : s.data.toList ≠ u.data.toList := by
    intro e
    apply h
    cases s; cases u
    simpa using e
   have h2 : ¬ s.data = u.data := fun e => this (by rw [e])
   simp [h, h2]
theorem pureRun_underlying {t : TypeId} {d : TypeDesc} (h : P.underlying t = some d) : pureRun P (underlying t) = some d := by
 unfold underlying
 have e : pureRun P (program : Sem Program) = some P := rfl
 rw [pureRun_seq e]
 rw [h]
 rfl
section
variable {t : TypeId} {x y : Operand} {k : IntKind} {a b : Int}
theorem binS_of {op : BinOp} {v w r : Value} (h : binC P op t x y v w = some r) : binS P H op t x y v w = some (.val r H) := by unfold binS; rw [h]
theorem bin_lss : binS P H .lss t x y (.int k a) (.int k b) = some (.val (.bool (decide (a < b))) H) := binS_of (by simp [binC, closedV, pureRun_pure, go_sem])
theorem bin_leq : binS P H .leq t x y (.int k a) (.int k b) = some (.val (.bool (decide (a ≤ b))) H) := binS_of (by simp [binC, closedV, pureRun_pure, go_sem])
theorem bin_gtr : binS P H .gtr t x y (.int k a) (.int k b) = some (.val (.bool (decide (b < a))) H) := binS_of (by simp [binC, closedV, pureRun_pure, go_sem])
theorem bin_geq : binS P H .geq t x y (.int k a) (.int k b) = some (.val (.bool (decide (b ≤ a))) H) := binS_of (by simp [binC, closedV, pureRun_pure, go_sem])
theorem bin_eql : binS P H .eql t x y (.int k a) (.int k b) = some (.val (.bool (decide (a = b))) H) := binS_of (by
 have : eqGuard .eql t x y (.int k a) (.int k b) = pure () := rfl
 simp [binC, closedV, pureRun_pure, go_sem, this]; rfl)
theorem bin_neq : binS P H .neq t x y (.int k a) (.int k b) = some (.val (.bool (!decide (a = b))) H) := binS_of (by
 have : eqGuard .neq t x y (.int k a) (.int k b) = pure () := rfl
 simp [binC, closedV, pureRun_pure, go_sem, this]; rfl)
theorem bin_add : binS P H .add t x y (.int k a) (.int k b) = some (.val (.int k (k.wrap (a + b))) H) := binS_of (by simp [binC, closedV, pureRun_pure, go_sem])
theorem bin_sub : binS P H .sub t x y (.int k a) (.int k b) = some (.val (.int k (k.wrap (a - b))) H) := binS_of (by simp [binC, closedV, pureRun_pure, go_sem])
theorem bin_mul : binS P H .mul t x y (.int k a) (.int k b) = some (.val (.int k (k.wrap (a * b))) H) := binS_of (by simp [binC, closedV, pureRun_pure, go_sem])
theorem bin_rem (hb : b ≠ 0) : binS P H .rem t x y (.int k a) (.int k b) = some (.val (.int k (a.tmod b)) H) := binS_of (by simp [binC, closedV, pureRun_pure, go_sem, hb])
theorem bin_quo (hb : b ≠ 0) : binS P H .quo t x y (.int k a) (.int k b) = some (.val (.int k (k.wrap (a.tdiv b))) H) := binS_of (by simp [binC, closedV, pureRun_pure, go_sem, hb])
theorem bin_seql {s u : ByteArray} : binS P H .eql t x y (.string s) (.string u) = some (.val (.bool (decide (s = u))) H) := binS_of (by
 have : eqGuard .eql t x y (.string s) (.string u) = pure () := rfl
 simp [binC, closedV, pureRun_pure, go_sem, this, strEq])
theorem bin_sneq {s u : ByteArray} : binS P H .neq t x y (.string s) (.string u) = some (.val (.bool (!decide (s = u))) H) := binS_of (by
 have : eqGuard .neq t x y (.string s) (.string u) = pure () := rfl
 simp [binC, closedV, pureRun_pure, go_sem, this, strEq])
theorem pureRun_eqBool {p q : Bool} (hu : P.underlying t = some .bool) : pureRun P (Op.equal t (.bool p) (.bool q)) = some (p == q) := by
 unfold Op.equal
 show pureRun P (Op.equalIn 10000 t (.bool p) (.bool q)) = _
 unfold Op.equalIn
 rw [pureRun_seq (pureRun_underlying hu)]
 rfl
theorem bin_beql {p q : Bool} (hu : P.underlying t = some .bool) : binS P H .eql t x y (.bool p) (.bool q) = some (.val (.bool (p == q)) H) := binS_of (by
 have h1 : eqGuard .eql t x y (.bool p) (.bool q) = pure () := rfl
 have h2 : binOp .eql t (.bool p) (.bool q) = (do pure (.bool (← Op.equal t (.bool p) (.bool q)))) := rfl
 unfold binC
 rw [h1, pureRun_seq pureRun_pure, h2, pureRun_seq (pureRun_eqBool hu)]
 simp [closedV, pureRun_pure])
theorem bin_bneq {p q : Bool} (hu : P.underlying t = some .bool) : binS P H .neq t x y (.bool p) (.bool q) = some (.val (.bool (!(p == q))) H) := binS_of (by
 have h1 : eqGuard .neq t x y (.bool p) (.bool q) = pure () := rfl
 have h2 : binOp .neq t (.bool p) (.bool q) = (do pure (.bool (!(← Op.equal t (.bool p) (.bool q))))) := rfl
 unfold binC
 rw [h1, pureRun_seq pureRun_pure, h2, pureRun_seq (pureRun_eqBool hu)]
 simp [closedV, pureRun_pure])
theorem bin_nil {op : BinOp} {v w : Value} {d : TypeDesc} {b : Bool} (hc : binC P op t x y v w = none ∨ closedV v = false ∨ closedV w = false) (hu : P.underlying t = some d) (hn : nilEq d v w = some b) :
    (op = .eql → binS P H op t x y v w = some (.val (.bool b) H)) ∧ (op = .neq → binS P H op t x y v w = some (.val (.bool (!b)) H)) := by
 have : binC P op t x y v w = none := by
  rcases hc with h | h | h
  · exact h
  · unfold binC; rw [h]; rfl
  · unfold binC; rw [h, Bool.and_false]; rfl
 unfold binS
 rw [this, hu]
 dsimp only
 rw [hn]
 constructor <;> (intro h; subst h; rfl)
end
end
end B
end Go.Proofs.YtmjmpaceopipbaaGreat
namespace Go.Proofs.YtmjmpaceopipbaaGreat
namespace B
open Go
section
variable {P : Program} {ext : CallT}
theorem leaveR_panic {code : Code → St → Option (AExit × St)} {rs : List ResultVar} {tm : List Value} {H : AHeap} {v : Value} : leaveR P code rs (some (.panic v, ⟨tm, [], H⟩)) = some (.panic v, H) := rfl
theorem resA_tmp {H : AHeap} {tm : List Value} {t : Nat} {rs : List ResultVar} : resultsA P H tm (.tmp t :: rs) = (resultsA P H tm rs).map fun vs => tm.getD t undef :: vs := by
 conv => lhs; unfold resultsA
 simp only [resultA]
 cases resultsA P H tm rs <;> rfl
@[congr] theorem callA_congr {dst : Option Nat} {k : St → Option (AExit × St)} {tm : List Value} {dfs : List ADef} {x x' : Option (AEnd × AHeap)} (h : x = x') : callA dst k tm dfs x = callA dst k tm dfs x' := by rw [h]
theorem cl_string {b : ByteArray} : closedV (.string b) = true := by simp [closedV]
end
end B
end Go.Proofs.YtmjmpaceopipbaaGreat
namespace Go.Proofs.YtmjmpaceopipbaaGreat
namespace B
open Go
def dropP : Option (AExit × St) → Option (AExit × St)
 | some (.panic v, s) => some (.panic v, ⟨[], s.dfs, s.H⟩)
 | r => r
section
variable {P : Program} {call : CallT}
theorem evalIdx_step {rnd : Bool} {all : List Oper} {j : Nat} {rest : List Nat} {s : St} {o : Oper} (ho : all[j]? = some o) (hd : isDefer o.op = false) :
    evalIdx P call rnd all (j :: rest) s = if wantedA all s.tmps o then contA call o.dst (evalIdx P call rnd all rest) s (evalAny P s.H (aev s.tmps) o) else evalIdx P call rnd all rest ⟨putT o.dst undef s.tmps, s.dfs, s.H⟩ := by
 have hnd : ∀ c, o.op ≠ .defer c := by intro c hc; rw [hc] at hd; simp [isDefer] at hd
 conv => lhs; unfold evalIdx
 rw [ho]
 dsimp only
 split
 · split
   · rename_i c hc; exact absurd hc (hnd c)
   · cases hev : evalAny P s.H (aev s.tmps) o with
     | none => rfl
     | some r =>
      cases r <;> rfl
 · rfl
theorem runPlan_idx {ops : List Oper} (hnd : ∀ o ∈ ops, isDefer o.op = false) : ∀ (plan : List Nat) (tm : List Value) (dfs : List ADef) (H : AHeap), (∀ j ∈ plan, j < ops.length) →
    (runPlan P call ops dfs plan tm H).map (fun r => (r.2.2.1, r.2.2.2)) = dropP (evalIdx P call true ops plan ⟨tm, dfs, H⟩)
 | [], _, _, _, _ => rfl
 | j :: rest, tm, dfs, H, hj => by
  have hlt := hj j (by simp)
  have ih := fun tm H => runPlan_idx hnd rest tm dfs H (fun i hi => hj i (by simp [hi]))
  have hcons : ∀ (t : Tr) (x : Option (List Tr × AHeap × AExit × St)), (consT t x).map (fun r => (r.2.2.1, r.2.2.2)) = x.map (fun r => (r.2.2.1, r.2.2.2)) := by
   intro t x; cases x <;> rfl
  rw [evalIdx_step (List.getElem?_eq_getElem hlt) (hnd _ (List.getElem_mem hlt))]
  unfold runPlan
  rw [List.getElem?_eq_getElem hlt]
  dsimp only
  split
  · cases hev : evalAny P H (aev tm) ops[j] with
    | none => rfl
    | some r =>
     cases r with
     | val v H' => simp only [hcons, ih, contA]
     | skip H' => simp only [hcons, ih, contA]
     | panic v H' => rfl
     | defer d args H' => rfl
     | enter f args H1 =>
      simp only [contA]
      cases hc : call f args H1 with
      | none => rfl
      | some q =>
       obtain ⟨e, H'⟩ := q
       cases e with
       | ret v => simp only [hcons, ih]
       | panic v => rfl
  · rw [hcons, ih]
def planOK' (l : List Oper) (plan : List Nat) : Bool :=
 (planOf l == plan) && edgesOK l && okStatic l (befOf l) plan && quietOK l (befOf l) plan && (l.all fun o => !(isDefer o.op)) && plan.all fun j => decide (j < l.length)
theorem evalIdx_list {rnd : Bool} {all : List Oper} : ∀ (plan : List Nat) (s : St), evalIdx P call rnd all plan s = evalList P call rnd all (plan.filterMap fun j => all[j]?) s
 | [], s => rfl
 | j :: rest, s => by
  have ih := fun s => evalIdx_list (rnd := rnd) (all := all) rest s
  cases ho : all[j]? with
  | none =>
   rw [List.filterMap_cons_none ho]
   unfold evalIdx
   rw [ho]
   exact ih s
  | some o =>
   rw [List.filterMap_cons_some ho]
   unfold evalIdx evalList
   rw [ho]
   dsimp only
   split
   · cases hd : isDefer o.op with
     | true =>
      simp only [if_true]
      cases hop : o.op <;> rw [hop] at hd <;> simp [isDefer] at hd
      rename_i c
      simp only []
      split
      · cases hdd : deferOf P (aev s.tmps) c with
        | none => rfl
        | some d => exact ih _
      · rfl
     | false =>
      simp only [Bool.false_eq_true, if_false]
      have hnd : ∀ c, o.op ≠ .defer c := by intro c hc; rw [hc] at hd; simp [isDefer] at hd
      rw [← evalAny_op]
      split
      · rename_i c hc; exact absurd hc (hnd c)
      · cases hev : evalAny P s.H (aev s.tmps) o with
        | none => rfl
        | some r =>
         cases r <;> simp only [contA] <;> first | exact ih _ | rfl | skip
         rename_i f args H
         cases call f args H with
         | none => rfl
         | some q =>
          obtain ⟨e, H'⟩ := q
          cases e
          · exact ih _
          · rfl
   · exact ih _
theorem drawRun_plan {l : List Oper} {plan : List Nat} (h : planOK' l plan = true) {s : St} : drawRun P call l s = dropP (evalList P call true l (plan.filterMap fun j => l[j]?) s) := by
 unfold planOK' at h
 simp only [Bool.and_eq_true, beq_iff_eq] at h
 obtain ⟨⟨⟨⟨⟨h1, h2⟩, h3⟩, h4⟩, h5⟩, h6⟩ := h
 have hnd : ∀ o ∈ l, isDefer o.op = false := fun o ho => by simpa using List.all_eq_true.1 h5 o ho
 have hp := runPlan_idx (P := P) (call := call) hnd plan s.tmps s.dfs s.H (fun j hj => by simpa using List.all_eq_true.1 h6 j hj)
 rw [← evalIdx_list]
 have hs : (⟨s.tmps, s.dfs, s.H⟩ : St) = s := rfl
 rw [hs] at hp
 rw [← hp]
 rw [drawRun_eq0 h3]
 unfold drawRun0
 rw [h1]
 cases runPlan P call l s.dfs plan s.tmps s.H with
 | none => rfl
 | some r =>
  obtain ⟨T, He, x, s'⟩ := r
  dsimp only
  rw [if_pos ⟨h2, h3, .inl h4⟩]
  rfl
end
end B
end Go.Proofs.YtmjmpaceopipbaaGreat
namespace Go.Proofs.YtmjmpaceopipbaaGreat
namespace B
open Go
section
variable {P : Program} {H : AHeap}
theorem get_set_same {i : Nat} {o : AObj} : (H.set i o).get i = some o := by simp [AHeap.set]
theorem addA_mk {b o n : Nat} {s : Option Nat} : addA ⟨b, o, s⟩ n = ⟨b, o + n, s⟩ := rfl
def cellO : Option AObj → Nat → Nat → Option Value
 | some (.box cs _), o, _ => cs[o]?
 | some (.arr cs st _ _ _), o, g => if st.getD o 0 ≤ g then cs[o]? else none
 | _, _, _ => none
theorem cell_eq {b o : Nat} {s : Option Nat} : H.cell ⟨b, o, s⟩ = cellO (H.get b) o (s.getD 0) := by
 unfold AHeap.cell AHeap.view cellO agen
 cases H.get b with
 | none => rfl
 | some x =>
  cases x with
  | map es => rfl
  | loop r => rfl
  | box cs e =>
   simp only [Option.bind_some, AObj.view]
   cases cs[o]? <;> simp
  | arr cs st g e ro =>
   simp only [Option.bind_some, AObj.view]
   cases hc : cs[o]? with
   | none => simp
   | some v => simp
theorem cellO_box {cs : List Value} {e : TypeId} {o g : Nat} : cellO (some (.box cs e)) o g = cs[o]? := rfl
theorem cellO_arr {cs : List Value} {st : List Nat} {g0 : Nat} {e : TypeId} {ro : Bool} {o g : Nat} : cellO (some (.arr cs st g0 e ro)) o g = if st.getD o 0 ≤ g then cs[o]? else none := rfl
theorem readN_box {b : Nat} {s : Option Nat} {cs : List Value} {e : TypeId} (h : H.get b = some (.box cs e)) : ∀ (n o : Nat), o + n ≤ cs.length → H.readN ⟨b, o, s⟩ n = some ((cs.drop o).take n)
 | 0, o, _ => by simp [AHeap.readN]
 | n + 1, o, hle => by
  unfold AHeap.readN
  rw [cell_eq, h, cellO_box, List.getElem?_eq_getElem (by omega)]
  dsimp only
  rw [addA_mk, readN_box h n (o + 1) (by omega)]
  dsimp only
  rw [List.drop_eq_getElem_cons (by omega : o < cs.length)]
  rfl
theorem loadV_flat {t : TypeId} {a : Addr} (h : aggT P t = some false) : H.loadV P t a = H.cell a := by unfold AHeap.loadV; rw [h]
def setCellO (H : AHeap) (b o g : Nat) (v : Value) : Option AObj → Option AHeap
 | some (.box cs e) => if g = 0 ∧ o < cs.length then some (H.set b (.box (cs.set o v) e)) else none
 | some (.arr cs st g0 e false) => if g = g0 ∧ o < cs.length ∧ o < st.length then some (H.set b (.arr (cs.set o v) (st.set o g0) g0 e false)) else none
 | _ => none
theorem setCell_eq {b o : Nat} {s : Option Nat} {v : Value} (hf : flatV v = true) : H.setCell ⟨b, o, s⟩ v = setCellO H b o (s.getD 0) v (H.get b) := by
 unfold AHeap.setCell setCellO agen
 rw [if_pos hf]
 split <;> simp_all
theorem setCellO_box {b o g : Nat} {v : Value} {cs : List Value} {e : TypeId} (hg : g = 0) (ho : o < cs.length) : setCellO H b o g v (some (.box cs e)) = some (H.set b (.box (cs.set o v) e)) := by
 unfold setCellO; simp [hg, ho]
def fieldOff (P : Program) (s : TypeId) (f : Nat) : Option Nat := match P.underlying s with
 | some (.struct fields) => match fields[f]? with
  | some fd => match P.info? fd.type with
   | some i => if i.size = 0 then none else some fd.offset
   | none => none
  | none => none
 | _ => none
theorem fieldAddrS_eq {s : TypeId} {f b o : Nat} {sp : Option Nat} : fieldAddrS P H s f (.pointer (some ⟨b, o, sp⟩)) = (fieldOff P s f).map fun off => .val (.pointer (some ⟨b, o + off, sp⟩)) H := by
 unfold fieldAddrS fieldOff
 cases P.underlying s with
 | none => rfl
 | some d =>
  cases d <;> try rfl
  rename_i fields
  dsimp only
  cases fields[f]? with
  | none => rfl
  | some fd =>
   dsimp only
   cases P.info? fd.type with
   | none => rfl
   | some i =>
    dsimp only
    split <;> rfl
variable {ρ : Operand → Value} {ty : TypeId}
theorem opA_box {t : TypeId} {x : Operand} (hx : operandOk x = true) (hi : (P.info? t).isSome = true) (hf : (ρ x).cells.toList.all flatV = true) :
    opA P H ρ (.box t x) ty = some (.val (.pointer (some ⟨H.next, 0, none⟩)) (H.push (.box (ρ x).cells.toList t))) := by
 rw [ev_of (by simp) (by simp) (by simp) (by simp)]; unfold evalOp
 simp only [Op.operands]
 cases h : P.info? t with
 | none => rw [h] at hi; simp at hi
 | some i => simp [hx, h, hf]
def zeroOf (P : Program) (t : TypeId) : Option Value := match P.info? t with
 | some i => match i.zero with
  | some z => if closedV z && z.cells.toList.all flatV then some z else none
  | none => none
 | none => none
theorem opA_alloc {t : TypeId} : opA P H ρ (.alloc t) ty = (zeroOf P t).map fun z => .val (.pointer (some ⟨H.next, 0, none⟩)) (H.push (.box z.cells.toList t)) := by
 rw [ev_of (by simp) (by simp) (by simp) (by simp)]; unfold evalOp zeroOf
 simp only [Op.operands]
 simp
 cases P.info? t with
 | none => rfl
 | some i =>
  dsimp only
  cases i.zero with
  | none => rfl
  | some z => dsimp only; split <;> rfl
theorem opA_makeMap {t : TypeId} : opA P H ρ (.makeMap t none) ty = some (.val (.map (some H.next)) (H.push (.map []))) := by
 rw [ev_of (by simp) (by simp) (by simp) (by simp)]; unfold evalOp; simp [Op.operands]
theorem opA_makeFunc {f : FuncId} {u v : Array Operand} (hu : u.all operandOk = true) (hv : v.all operandOk = true) : opA P H ρ (.makeFunc (.func f) u v) ty = some (.val (.func (.func f) (u.map ρ) (v.map ρ)) H) := by
 rw [ev_of (by simp) (by simp) (by simp) (by simp)]; unfold evalOp
 have : (Op.makeFunc (.func f) u v).operands.all operandOk = true := by
  simp only [Op.operands, Array.all_append, hu, hv, Bool.and_self]
 simp only [this, if_true]
def unS (P : Program) (H : AHeap) (op : UnOp) (v : Value) : Option ARes :=
 if closedV v then match pureRun P (Op.unary op v) with
  | some r => if closedV r then some (.val r H) else none
  | none => none
 else none
theorem opA_un {op : UnOp} {t : TypeId} {x : Operand} (hx : operandOk x = true) : opA P H ρ (.unOp op t x) ty = unS P H op (ρ x) := by
 rw [ev_of (by simp) (by simp) (by simp) (by simp)]; unfold evalOp unS closedRun
 have : execOp ρ ⟨none, .unOp op t x, ty, "", #[], none⟩ = (do pure (Next.value (← Op.unary op (ρ x))) : Sem Next) := rfl
 rw [this, pureRun_map]
 simp only [Op.operands]
 simp [hx]
 by_cases hc : closedV (ρ x) = true
 · simp only [hc, if_true]
   cases pureRun P (Op.unary op (ρ x)) with
   | none => rfl
   | some r =>
    simp only [Option.map_some]
    cases closedV r <;> rfl
 · simp [hc]
theorem un_not {b : Bool} : unS P H .not (.bool b) = some (.val (.bool !b) H) := by
 unfold unS
 have : Op.unary .not (.bool b) = pure (.bool !b) := rfl
 rw [this, pureRun_pure]
 simp [closedV]
def enterB (P : Program) (f : FuncId) : Bool := match P.funcs[f]? with
 | some fn => Func.enters fn
 | none => false
def callS (P : Program) (H : AHeap) (args : List Value) : Value → Option ARes
 | .func (.func g) first captured => callN P H g (first.toList ++ args ++ captured.toList)
 | .func (.yield K) first captured => if first.isEmpty && captured.isEmpty then match H.get K with
     | some (.loop r) => if args.length = r.params.size then some (.enter (P.funcs.size + K) args H) else none
     | _ => none
  else none
 | _ => none
theorem opA_call {f : Operand} {args : List Operand} {tys : Array TypeId} (hf : operandOk f = true) (ha : args.all operandOk = true) :
    opA P H ρ (.call ⟨.value f, args.toArray, tys⟩) ty = callS P H (args.map ρ) (ρ f) := by
 unfold opA evalAny
 have hok : (Op.call ⟨.value f, args.toArray, tys⟩).operands.all operandOk = true := by
  simp only [Op.operands, Call.operands, Array.all_append]
  simp [hf, ha]
 simp only [hok, if_true]
 unfold evalCall callS
 dsimp only
 cases ρ f <;> try rfl
 rename_i fn first cap
 cases fn <;> try (simp; done)
 · rename_i K
   dsimp only
   by_cases hc : (first.isEmpty && cap.isEmpty) = true
   · rw [if_pos hc, if_pos hc]
     cases H.get K with
     | none => rfl
     | some o => cases o <;> simp
   · rw [if_neg hc, if_neg hc]
theorem callN_enter {args : List Value} {g : FuncId} (h : enterB P g = true) : callN P H g args = some (.enter g args H) := by
 unfold enterB at h
 unfold callN
 split at h
 · rename_i fn hfn; rw [hfn]; dsimp only; rw [if_pos h]
 · cases h
theorem callS_func {args : List Value} {g : FuncId} {first cap : List Value} (h : enterB P g = true) : callS P H args (.func (.func g) first.toArray cap.toArray) = some (.enter g (first ++ args ++ cap) H) := by
 unfold callS; exact callN_enter h
theorem callS_yield {args : List Value} {K : Nat} {r : ALoop} (h : H.get K = some (.loop r)) (hs : args.length = r.params.size) : callS P H args (.func (.yield K) #[] #[]) = some (.enter (P.funcs.size + K) args H) := by
 unfold callS; simp [h, hs]
def lenS (P : Program) (H : AHeap) (t : TypeId) (v : Value) : Option ARes := (lenOp P H t v).map fun n => .val (.int .i64 n) H
theorem opA_len {x : Operand} {t : TypeId} (hx : operandOk x = true) (hv : (lenS P H t (ρ x)).isSome = true) : opA P H ρ (.call ⟨.builtin .len, #[x], #[t]⟩) ty = lenS P H t (ρ x) := by
 unfold opA evalAny
 have hok : (Op.call ⟨.builtin .len, #[x], #[t]⟩).operands.all operandOk = true := by
  simp [Op.operands, Call.operands, hx]
 simp only [hok, if_true]
 unfold evalCall
 dsimp only
 unfold lenS at hv ⊢
 cases h : lenOp P H t (ρ x) with
 | none => rw [h] at hv; simp at hv
 | some n => rfl
theorem lenS_slice {t : TypeId} {a : Option Addr} {n c : Nat} (h : isSlice P t = true) : lenS P H t (.slice a n c) = some (.val (.int .i64 n) H) := by
 unfold lenS lenOp; cases a <;> simp [h]
theorem opA_lenStr {x : Operand} {t : TypeId} {s : ByteArray} (hx : operandOk x = true) (hs : ρ x = .string s) (hu : P.underlying t = some .string) : opA P H ρ (.call ⟨.builtin .len, #[x], #[t]⟩) ty = some (.val (.int .i64 s.size) H) := by
 unfold opA evalAny
 have hok : (Op.call ⟨.builtin .len, #[x], #[t]⟩).operands.all operandOk = true := by
  simp [Op.operands, Call.operands, hx]
 simp only [hok, if_true]
 unfold evalCall
 dsimp only
 have h1 : lenOp P H t (ρ x) = none := by rw [hs]; rfl
 have h2 : closedRun P ρ ⟨none, .call ⟨.builtin .len, #[x], #[t]⟩, ty, "", #[], none⟩ = some (.int .i64 s.size) := by
  unfold closedRun
  have hop : (Op.call ⟨.builtin .len, #[x], #[t]⟩).operands = #[x] := by simp [Op.operands, Call.operands]
  simp only [hop]
  have hcl : (#[x] : Array Operand).all (fun y => closedV (ρ y)) = true := by simp [hs, closedV]
  rw [if_pos hcl]
  have : pureRun P (Builtin.len_ #[t] ty #[.string s]) = some (.int .i64 s.size) := by
   unfold Builtin.len_
   show pureRun P (underlying t >>= _) = _
   rw [pureRun_seq (pureRun_underlying hu)]
   rfl
  have he : pureRun P (execOp ρ ⟨none, .call ⟨.builtin .len, #[x], #[t]⟩, ty, "", #[], none⟩) = some (.value (.int .i64 s.size)) := by
   unfold execOp
   simp only [resolve, invoke, builtin, hs, List.map_toArray, List.map_cons, List.map_nil, pure_bind]
   rw [pureRun_seq this]
   rfl
  rw [he]
  rfl
 rw [h1, h2]
theorem info_of {P : Program} {t n : Nat} {i : TypeInfo} (hs : P.types.size = n) (hlt : t < n) (h : P.types[t]? = some i) : P.info? t = some i := by
 have h2 : t < P.types.size := by rw [hs]; exact hlt
 unfold Tables.info?
 rw [if_pos h2]
 exact h
theorem cells_of {P : Program} {t n : Nat} {i : TypeInfo} (h : P.info? t = some i) (hn : i.size = n) : P.cellsOf t = n := by unfold Program.cellsOf; rw [h]; exact hn
theorem isSlice_of {P : Program} {t e : TypeId} (h : P.underlying t = some (.slice e)) : isSlice P t = true := by unfold isSlice; rw [h]
theorem isMap_of {P : Program} {t k e : TypeId} (h : P.underlying t = some (.map k e)) : isMap P t = true := by unfold isMap; rw [h]
theorem und_of {P : Program} {t : TypeId} {d : TypeDesc} (h : P.underlying t = some d) : P.underlying t = some d := by rw [h]
end
end B
end Go.Proofs.YtmjmpaceopipbaaGreat
namespace Go.Proofs.YtmjmpaceopipbaaGreat
namespace B
open Go
section
variable {P : Program} {H : AHeap}
theorem readN_arr {b : Nat} {g : Nat} {cs : List Value} {st : List Nat} {g0 : Nat} {e : TypeId} {ro : Bool} (h : H.get b = some (.arr cs st g0 e ro)) : ∀ (n o : Nat), o + n ≤ cs.length → (∀ j, o ≤ j → j < o + n → st.getD j 0 ≤ g) →
    H.readN ⟨b, o, some g⟩ n = some ((cs.drop o).take n)
 | 0, o, _, _ => by simp [AHeap.readN]
 | n + 1, o, hle, hst => by
  unfold AHeap.readN
  rw [cell_eq, h, cellO_arr]
  rw [if_pos (show st.getD o 0 ≤ (some g).getD 0 from hst o (Nat.le_refl _) (by omega)), List.getElem?_eq_getElem (by omega)]
  dsimp only
  rw [addA_mk, readN_arr h n (o + 1) (by omega) (fun j h1 h2 => hst j (by omega) (by omega))]
  dsimp only
  rw [List.drop_eq_getElem_cons (by omega : o < cs.length)]
  rfl
inductive Own (H : AHeap) (e sz : Nat) : Value → Nat → List Value → Prop
 | nil : Own H e sz (.slice none 0 0) 0 []
 | row {i g n c : Nat} {cs : List Value} {st : List Nat} (hg : H.get i = some (.arr cs st g e false)) (h2 : n ≤ c) (h3 : n * sz ≤ cs.length) (h4 : cs.length = st.length) (h5 : ∀ j, j < n * sz → st.getD j 0 ≤ g) :
     Own H e sz (.slice (some ⟨i, 0, some g⟩) n c) n (cs.take (n * sz))
end
end B
end Go.Proofs.YtmjmpaceopipbaaGreat
namespace Go.Proofs.YtmjmpaceopipbaaGreat
namespace B
open Go
section
variable {P : Program} {H : AHeap} {ρ : Operand → Value} {ty : TypeId}
def sliceInfo (P : Program) (t : TypeId) : Option (TypeInfo × TypeId) := match P.underlying t with
 | some (.slice e) => match P.info? e with
  | some i => some (i, e)
  | none => none
 | _ => none
def pairA : Option (Value × AHeap) → Option ARes
 | some (v, H') => some (.val v H')
 | none => none
theorem opA_append {s x : Operand} {t e : TypeId} {i : TypeInfo} (hs : operandOk s = true) (hx : operandOk x = true) (hi : sliceInfo P t = some (i, e)) :
    opA P H ρ (.call ⟨.builtin .append, #[s, x], #[t, t]⟩) ty = pairA (H.append i e (ρ s) (ρ x)) := by
 unfold opA evalAny
 have hok : (Op.call ⟨.builtin .append, #[s, x], #[t, t]⟩).operands.all operandOk = true := by
  simp [Op.operands, Call.operands, hs, hx]
 simp only [hok, if_true]
 unfold evalCall
 dsimp only
 unfold sliceInfo at hi
 cases hu : P.underlying t with
 | none => rw [hu] at hi; simp at hi
 | some d =>
  rw [hu] at hi
  cases d <;> first | (simp at hi; done) | skip
  rename_i e'
  dsimp only at hi ⊢
  cases hi' : P.info? e' with
  | none => rw [hi'] at hi; simp at hi
  | some i' =>
   rw [hi'] at hi
   simp only [Option.some.injEq, Prod.mk.injEq] at hi
   obtain ⟨rfl, rfl⟩ := hi
   simp only [if_true]
   cases H.append i' e' (ρ s) (ρ x) with
   | none => rfl
   | some q => rfl
def appendS (P : Program) (H : AHeap) (t : TypeId) (v w : Value) : Option ARes := match sliceInfo P t with
 | some (i, e) => pairA (H.append i e v w)
 | none => none
theorem closedL_all {l : List Value} : closedL l = true ↔ ∀ v ∈ l, closedV v = true := by
 induction l with
 | nil => simp [closedL]
 | cons v l ih => simp [closedL, ih]
theorem closed_cells {z : Value} (h : closedV z = true) : ∀ v ∈ z.cells.toList, closedV v = true := by
 cases z with
 | agg x =>
  simp only [closedV] at h
  rw [closedA_toList, closedL_all] at h
  simpa [Value.cells] using h
 | _ => intro v hv; simp [Value.cells] at hv; subst hv; exact h
theorem closed_init {z : Value} (h : closedV z = true) (len size : Nat) (hs : z.cells.size ≠ 0) : closedA (initCells z len size) = true := by
 rw [closedA_toList, closedL_all]
 intro v hv
 unfold initCells at hv
 simp only [Array.toList_map, List.mem_map] at hv
 obtain ⟨j, _, rfl⟩ := hv
 have hlt : j % z.cells.size < z.cells.size := Nat.mod_lt _ (by omega)
 rw [getElem!_pos z.cells (j % z.cells.size) hlt]
 exact closed_cells h _ (by rw [Array.mem_toList_iff]; exact Array.getElem_mem hlt)
def elemSize (P : Program) (t : TypeId) : Nat := match sliceInfo P t with
 | some (i, _) => i.size
 | none => 0
end
end B
end Go.Proofs.YtmjmpaceopipbaaGreat
namespace Go.Proofs.YtmjmpaceopipbaaGreat
namespace B
open Go
structure Upd (H : AHeap) (F : Nat → Prop) (H' : AHeap) (F' : Nat → Prop) : Prop where
 frame : ∀ j, ¬ F j → j < H.next → H'.get j = H.get j
 foot : ∀ j, F' j → F j ∨ H.next ≤ j
 fresh : H'.Fresh
 next : H.next ≤ H'.next
end B
end Go.Proofs.YtmjmpaceopipbaaGreat
namespace Go.Proofs.YtmjmpaceopipbaaGreat
namespace B
open Go
section
variable {P : Program} {H : AHeap} {ρ : Operand → Value} {ty : TypeId}
theorem sliceInfo_inv {t e : TypeId} {i : TypeInfo} (h : sliceInfo P t = some (i, e)) : P.underlying t = some (.slice e) ∧ P.info? e = some i := by
 unfold sliceInfo at h
 split at h
 · rename_i e' hu
   split at h
   · rename_i i' hi
     simp only [Option.some.injEq, Prod.mk.injEq] at h
     obtain ⟨rfl, rfl⟩ := h
     exact ⟨hu, hi⟩
   · simp at h
 · simp at h
def indexAddrS (P : Program) (H : AHeap) (t : TypeId) (v w : Value) : Option ARes := match v, w with
 | .slice (some a) len _, .int _ n => if 0 ≤ n ∧ n < len then some (.val (.pointer (some (addA a (n.toNat * elemSize P t)))) H) else none
 | _, _ => none
theorem opA_indexAddr {t : TypeId} {x y : Operand} (hx : operandOk x = true) (hy : operandOk y = true) (hi : (sliceInfo P t).isSome = true) : opA P H ρ (.indexAddr t x y) ty = indexAddrS P H t (ρ x) (ρ y) := by
 rw [ev_of (by simp) (by simp) (by simp) (by simp)]; unfold evalOp
 simp only [Op.operands, List.all_toArray, List.all_cons, List.all_nil, hx, hy, Bool.and_true, if_true]
 cases hs : sliceInfo P t with
 | none => rw [hs] at hi; simp at hi
 | some q =>
  obtain ⟨i, e⟩ := q
  have hes : elemSize P t = i.size := by unfold elemSize; rw [hs]
  obtain ⟨hu, hi'⟩ : P.underlying t = some (.slice e) ∧ P.info? e = some i := sliceInfo_inv hs
  unfold indexAddrS
  rw [hu, hes]
  cases hρx : ρ x <;> try rfl
  rename_i a len cap
  cases a with
  | none => rfl
  | some a =>
   cases hρy : ρ y <;> try rfl
   dsimp only
   rw [hi']
theorem indexAddrS_of {t : TypeId} {a : Addr} {len cap : Nat} {k : IntKind} {n : Int} (h : 0 ≤ n ∧ n < len) : indexAddrS P H t (.slice (some a) len cap) (.int k n) = some (.val (.pointer (some (addA a (n.toNat * elemSize P t)))) H) := by
 unfold indexAddrS; simp only; rw [if_pos h]
def sliceS (P : Program) (H : AHeap) (t : TypeId) (v : Value) (lo hi : Option Value) : Option ARes := match sliceInfo P t with
 | some (i, e) => valA H (sliceOf H e i.size v lo hi)
 | none => none
theorem opA_slice {t : TypeId} {x : Operand} {lo hi : Option Operand} (hx : operandOk x = true) (hl : (lo.toArray.all operandOk) = true) (hh : (hi.toArray.all operandOk) = true) (hs : (sliceInfo P t).isSome = true) :
    opA P H ρ (.slice t x lo hi none) ty = sliceS P H t (ρ x) (lo.map ρ) (hi.map ρ) := by
 rw [ev_of (by simp) (by simp) (by simp) (by simp)]; unfold evalOp sliceS
 have hok : (Op.slice t x lo hi none).operands.all operandOk = true := by
  simp only [Op.operands, Array.all_append, hl, hh, Bool.and_true]
  simp [hx]
 simp only [hok, if_true]
 cases hs' : sliceInfo P t with
 | none => rw [hs'] at hs; simp at hs
 | some q =>
  obtain ⟨i, e⟩ := q
  obtain ⟨hu, hi'⟩ := sliceInfo_inv hs'
  rw [hu]
  dsimp only
  rw [hi']
  dsimp only
  cases sliceOf H e i.size (ρ x) (lo.map ρ) (hi.map ρ) <;> rfl
def fieldS (P : Program) (H : AHeap) (t : TypeId) (f : Nat) (v : Value) : Option ARes := match P.underlying t, v with
 | some (.struct fields), .agg cs => match fields[f]? with
  | some fd => valA H (partOf P fd.type cs.toList fd.offset)
  | none => none
 | _, _ => none
theorem opA_field {t : TypeId} {x : Operand} {f : Nat} (hx : operandOk x = true) : opA P H ρ (.field t x f) ty = fieldS P H t f (ρ x) := by
 rw [ev_of (by simp) (by simp) (by simp) (by simp)]; unfold evalOp fieldS
 simp only [Op.operands, List.all_toArray, List.all_cons, List.all_nil, hx, Bool.and_true, if_true]
 cases P.underlying t with
 | none => rfl
 | some d =>
  cases d <;> rfl
def lookS (P : Program) (H : AHeap) (t : TypeId) (m k : Value) (ok : Bool) : Option ARes := match H.look P t m k with
 | some (v, b) => some (.val (if ok then .tuple #[v, .bool b] else v) H)
 | none => none
theorem opA_lookup {t : TypeId} {m k : Operand} {ok : Bool} (hm : operandOk m = true) (hk : operandOk k = true) : opA P H ρ (.lookup t m k ok) ty = lookS P H t (ρ m) (ρ k) ok := by
 unfold opA evalAny lookS
 simp only [Op.operands, List.all_toArray, List.all_cons, List.all_nil, hm, hk, Bool.and_true, if_true]
 rfl
theorem opA_mapUpdate {t : TypeId} {m k v : Operand} (hm : operandOk m = true) (hk : operandOk k = true) (hv : operandOk v = true) : opA P H ρ (.mapUpdate t m k v) ty = skipA (H.mapPut P t (ρ m) (ρ k) (ρ v)) := by
 unfold opA evalAny
 simp only [Op.operands, List.all_toArray, List.all_cons, List.all_nil, hm, hk, hv, Bool.and_true, if_true]
 cases H.mapPut P t (ρ m) (ρ k) (ρ v) <;> rfl
def buildS (P : Program) (H : AHeap) (t : TypeId) (ps : List (Nat × Value)) : Option ARes := match zeroOf P t with
 | some _ => match P.built t ps with
  | some cs => some (.val (.agg cs) H)
  | none => none
 | none => none
theorem opA_build {t : TypeId} {ps : List (Nat × Operand)} (hp : (ps.all fun p => operandOk p.2) = true) (hz : (zeroOf P t).isSome = true) : opA P H ρ (.build t ps.toArray) ty = buildS P H t (ps.map fun p => (p.1, ρ p.2)) := by
 rw [ev_of (by simp) (by simp) (by simp) (by simp)]; unfold evalOp buildS
 have hok : (Op.build t ps.toArray).operands.all operandOk = true := by
  simp only [Op.operands, List.all_toArray]
  rw [List.all_map]
  exact hp
 simp only [hok, if_true]
 have key : ∃ i z, P.info? t = some i ∧ i.zero = some z ∧ (closedV z && z.cells.toList.all flatV) = true := by
  unfold zeroOf at hz
  split at hz
  · rename_i i hi
    split at hz
    · rename_i z hzz
      split at hz
      · rename_i hc; exact ⟨i, z, hi, hzz, hc⟩
      · simp at hz
    · simp at hz
  · simp at hz
 obtain ⟨i, z, hi, hzz, hc⟩ := key
 obtain ⟨z0, hz0⟩ := Option.isSome_iff_exists.1 hz
 rw [hz0, hi]
 dsimp only
 rw [hzz]
 dsimp only
 rw [Bool.and_eq_true] at hc
 rw [if_pos (by simp only [hc.1, Bool.true_and]; exact hp)]
 simp only [List.map_toArray]
 rfl
end
end B
end Go.Proofs.YtmjmpaceopipbaaGreat
namespace Go.Proofs.YtmjmpaceopipbaaGreat
namespace B
open Go
def isPtr (P : Program) (t : TypeId) : Bool := match P.underlying t with
 | some (.pointer _) => true
 | _ => false
theorem isPtr_of {P : Program} {t e : TypeId} (h : P.underlying t = some (.pointer e)) : isPtr P t = true := by unfold isPtr; rw [h]
theorem isPtr_inv {P : Program} {t : TypeId} (h : isPtr P t = true) : ∃ e, P.underlying t = some (.pointer e) := by
 unfold isPtr at h; split at h
 · rename_i e hu; exact ⟨e, hu⟩
 · simp at h
section
variable {P : Program} {H : AHeap} {t : TypeId} {x y : Operand} {a : Addr}
theorem pureRun_eqNilPtr {e : TypeId} (hu : P.underlying t = some (.pointer e)) : pureRun P (Op.equal t (.pointer none) (.pointer none)) = some true := by
 unfold Op.equal
 show pureRun P (Op.equalIn 10000 t (.pointer none) (.pointer none)) = _
 unfold Op.equalIn
 rw [pureRun_seq (pureRun_underlying hu)]
 rfl
theorem bin_nil_eql (h : isPtr P t = true) : binS P H .eql t x y (.pointer none) (.pointer none) = some (.val (.bool true) H) := by
 obtain ⟨e, hu⟩ := isPtr_inv h
 refine binS_of ?_
 have h1 : eqGuard .eql t x y (.pointer none) (.pointer none) = pure () := rfl
 have h2 : binOp .eql t (.pointer none) (.pointer none) = (do pure (.bool (← Op.equal t (.pointer none) (.pointer none)))) := rfl
 unfold binC
 rw [h1, pureRun_seq pureRun_pure, h2, pureRun_seq (pureRun_eqNilPtr hu)]
 simp [closedV, pureRun_pure]
theorem bin_nil_neq (h : isPtr P t = true) : binS P H .neq t x y (.pointer none) (.pointer none) = some (.val (.bool false) H) := by
 obtain ⟨e, hu⟩ := isPtr_inv h
 refine binS_of ?_
 have h1 : eqGuard .neq t x y (.pointer none) (.pointer none) = pure () := rfl
 have h2 : binOp .neq t (.pointer none) (.pointer none) = (do pure (.bool (!(← Op.equal t (.pointer none) (.pointer none))))) := rfl
 unfold binC
 rw [h1, pureRun_seq pureRun_pure, h2, pureRun_seq (pureRun_eqNilPtr hu)]
 simp [closedV, pureRun_pure]
end
theorem theCode_plan {P : Program} {ext : CallT} {rnd : Bool} {id : Nat} {l : List Oper} {s : St} (plan : List Nat) (h : planOK' l plan = true) :
    theCode P ext rnd (.region id l.toArray true) s = dropP (evalList P (theCall P ext) true l (plan.filterMap fun j => l[j]?) s) := by
 rw [theCode_draw, ← drawRun_plan h]
end B
end Go.Proofs.YtmjmpaceopipbaaGreat
namespace Go.Proofs.YtmjmpaceopipbaaGreat
namespace B
open Go
section
variable {P : Program} {H : AHeap}
end
end B
end Go.Proofs.YtmjmpaceopipbaaGreat
namespace Go.Proofs.YtmjmpaceopipbaaGreat
namespace B
open Go
section
variable {P : Program} {H : AHeap}
def setL : List Value → Nat → List Value → List Value
 | cells, _, [] => cells
 | cells, o, x :: xs => setL (cells.set o x) (o + 1) xs
def strE (l : List (ByteArray × Value)) : List (Value × Value) := l.map fun p => (.string p.1, p.2)
def lookB (l : List (ByteArray × Value)) (k : ByteArray) : Option Value := match l with
 | [] => none
 | p :: l => if k = p.1 then some p.2 else lookB l k
theorem beq_bytes {a b : ByteArray} : (a == b) = true ↔ a = b := by
 constructor
 · intro h
   have h2 : (a.data == b.data) = true := h
   exact ByteArray.ext (by simpa using h2)
 · rintro rfl
   show (a.data == a.data) = true
   simp
theorem findNow_str (k : ByteArray) : ∀ (l : List (ByteArray × Value)) (i : Nat), Instr.findNow .string (.string k) (mkEntries (strE l)) i = some (match lookB l k with | some v => some (i + l.findIdx (fun p => k = p.1), v) | none => none)
 | [], i => rfl
 | p :: l, i => by
  have ih := findNow_str k l (i + 1)
  simp only [strE, mkEntries, List.map_cons, Instr.findNow, Instr.sameNow] at ih ⊢
  by_cases hk : k = p.1
  · subst hk
    rw [show (p.1 == p.1) = true from beq_bytes.2 rfl]
    simp [lookB, List.findIdx_cons]
  · have hb : (k == p.1) = false := by
     cases h : k == p.1 with
     | false => rfl
     | true => exact absurd (beq_bytes.1 h) hk
    simp only [hb, lookB, if_neg hk]
    rw [ih]
    cases lookB l k with
    | none => rfl
    | some v => simp [List.findIdx_cons, hk]; omega
theorem checkKey_str {kt : TypeId} {b : Bool} {k : ByteArray} (hu : P.underlying kt = some .string) : pureRun P (Instr.checkKey b 10000 kt (.string k)) = some () := by
 unfold Instr.checkKey
 rw [pureRun_seq (pureRun_underlying hu)]
 rfl
theorem findKey_str {kt : TypeId} {k : ByteArray} {l : List (ByteArray × Value)} (hu : P.underlying kt = some .string) :
    pureRun P (Instr.findKey kt (.string k) (mkEntries (strE l))) = some (match lookB l k with | some v => some (l.findIdx (fun p => k = p.1), v) | none => none) := by
 unfold Instr.findKey
 rw [pureRun_seq (pureRun_underlying hu), findNow_str]
 simp only [Nat.zero_add]
 rfl
theorem fit_str {kt : TypeId} {k : ByteArray} {es : List (Value × Value)} (hk : P.underlying kt = some .string) : (closedV (.string k) && keyFit P kt (.string k) es) = true := by
 rw [cl_string, Bool.true_and]
 unfold keyFit isStrT
 rw [hk]
 simp [isStrV]
def zeroV (P : Program) (t : TypeId) : Option Value := match P.info? t with
 | some i => match i.zero with
  | some z => if closedV z then some z else none
  | none => none
 | none => none
theorem lookS_str {t kt et : TypeId} {r : Nat} {k : ByteArray} {l : List (ByteArray × Value)} {z : Value} {ok : Bool} (hu : P.underlying t = some (.map kt et)) (hk : P.underlying kt = some .string) (hz : zeroV P et = some z) (hr : H.get r = some (.map (strE l))) :
    lookS P H t (.map (some r)) (.string k) ok = some (.val (if ok then .tuple #[(lookB l k).getD z, .bool (lookB l k).isSome] else (lookB l k).getD z) H) := by
 unfold lookS AHeap.look AHeap.entries
 rw [hu]
 dsimp only
 rw [hr]
 dsimp only
 rw [if_pos (fit_str hk), checkKey_str hk, findKey_str hk]
 cases hl : lookB l k with
 | some v => rfl
 | none =>
  dsimp only
  unfold zeroV at hz
  split at hz
  case h_2 => simp at hz
  rename_i i hi
  split at hz
  case h_2 => simp at hz
  rename_i z' hz'
  split at hz
  case isFalse => simp at hz
  rename_i hc
  simp only [Option.some.injEq] at hz
  subst hz
  rw [hi]; dsimp only; rw [hz']; dsimp only; rw [if_pos hc]
  rfl
theorem mapPut_str {t kt et : TypeId} {r : Nat} {k : ByteArray} {v : Value} {l : List (ByteArray × Value)} (hu : P.underlying t = some (.map kt et)) (hk : P.underlying kt = some .string) (hr : H.get r = some (.map (strE l))) (hn : lookB l k = none) :
    H.mapPut P t (.map (some r)) (.string k) v = some (H.set r (.map (strE (l ++ [(k, v)])))) := by
 unfold AHeap.mapPut
 rw [hu]
 dsimp only
 rw [hr]
 dsimp only
 rw [if_pos (fit_str hk), checkKey_str hk, findKey_str hk, hn]
 simp [strE]
end
end B
end Go.Proofs.YtmjmpaceopipbaaGreat
namespace Go.Proofs.YtmjmpaceopipbaaGreat
namespace B
open Go
theorem AHeap.ext' {H H' : AHeap} (h1 : H.next = H'.next) (h2 : ∀ j, H.get j = H'.get j) : H = H' := by
 cases H; cases H'
 simp only at h1 h2
 subst h1
 congr
 exact funext h2
theorem AHeap.set_set {H : AHeap} {i : Nat} {o o' : AObj} : (H.set i o).set i o' = H.set i o' := AHeap.ext' rfl fun j => by
 by_cases h : j = i <;> simp [AHeap.set, h]
theorem AHeap.set_self {H : AHeap} {i : Nat} {o : AObj} (h : H.get i = some o) : H.set i o = H := AHeap.ext' rfl fun j => by
 by_cases hj : j = i
 · subst hj; simp [AHeap.set, h]
 · simp [AHeap.set, hj]
section
variable {P : Program} {ext : CallT} {rnd : Bool}
def cellRes (P : Program) (H : AHeap) (t : TypeId) : Value → Option Value
 | .pointer (some a) => H.loadV P t a
 | _ => none
theorem cellRes_ptr {H : AHeap} {t : TypeId} {a : Addr} : cellRes P H t (.pointer (some a)) = H.loadV P t a := rfl
theorem resA_cell {H : AHeap} {tm : List Value} {a t : Nat} {rs : List ResultVar} : resultsA P H tm (.cell a t :: rs) = (cellRes P H t (tm.getD a undef)).bind fun v => (resultsA P H tm rs).map fun vs => v :: vs := by
 conv => lhs; unfold resultsA
 simp only [resultA, cellRes]
 cases tm.getD a undef <;> try rfl
 rename_i p
 cases p with
 | none => rfl
 | some ad =>
  dsimp only
  cases H.loadV P t ad with
  | none => rfl
  | some v => cases resultsA P H tm rs <;> rfl
structure Grown (H H' : AHeap) : Prop where
 get : ∀ j, j < H.next → H'.get j = H.get j
 next : H.next ≤ H'.next
 fresh : H'.Fresh
end
end B
end Go.Proofs.YtmjmpaceopipbaaGreat
