/-
  What an operation's answer hangs on: its operands; the heap or not.
-/
import Derived.Test.YtnjoaffnfjlcaaaB11
namespace Go.Proofs.Ytnjoaffnfjlcaaa
namespace B
open Go

theorem closedRun_congr {P : Program} {ρ ρ' : Operand → Value} {o : Oper} (hs : ∀ cs b, o.op ≠ .select cs b) (h : ∀ x ∈ o.op.operands, ρ x = ρ' x) : closedRun P ρ o = closedRun P ρ' o := by
  unfold closedRun
  have h1 : o.op.operands.all (fun x => closedV (ρ x)) = o.op.operands.all (fun x => closedV (ρ' x)) := by
    rw [Bool.eq_iff_iff, Array.all_eq_true', Array.all_eq_true']
    exact ⟨fun hh x hx => by rw [← h x hx]; exact hh x hx, fun hh x hx => by rw [h x hx]; exact hh x hx⟩
  rw [h1, execOp_congr o hs h]

theorem parts_congr {ρ ρ' : Operand → Value} {parts : Array (Nat × Operand)} (h : ∀ x ∈ (parts.toList.map (·.2)).toArray, ρ x = ρ' x) : (parts.map fun (i, x) => (i, ρ x)) = (parts.map fun (i, x) => (i, ρ' x)) := by
  refine Array.map_congr_left fun p hp => ?_
  have : p.2 ∈ (parts.toList.map (·.2)).toArray := by
    simp only [List.mem_toArray, List.mem_map]
    exact ⟨p, by simpa using hp, rfl⟩
  simp [h _ this]

theorem map_arr_congr {ρ ρ' : Operand → Value} {l : Array Operand} (h : ∀ x ∈ l, ρ x = ρ' x) : l.map ρ = l.map ρ' := Array.map_congr_left h

set_option maxHeartbeats 2000000 in
theorem evalOp_congr {P : Program} {H : AHeap} {ρ ρ' : Operand → Value} {o : Oper} (h : ∀ x ∈ o.op.operands, ρ x = ρ' x) : evalOp P H ρ o = evalOp P H ρ' o := by
  unfold evalOp
  congr 1
  cases hop : o.op <;> (first | rfl | skip) <;> rw [hop] at h <;> simp only [Op.operands] at h
  case move x => simp only [h x (by simp)]
  case assign x => simp only [h x (by simp)]
  case pick c a b => simp only [h c (by simp), h a (by simp), h b (by simp)]
  case box t x => simp only [h x (by simp)]
  case build t parts => simp only [parts_congr h]
  case buildSlice t n parts => simp only [parts_congr h]
  case load t x => simp only [h x (by simp)]
  case store t x y => simp only [h x (by simp), h y (by simp)]
  case nilCheck x => simp only [h x (by simp)]
  case binOp op t x y t2 =>
    have hc := closedRun_congr (P := P) (ρ := ρ) (ρ' := ρ') (o := o) (by rw [hop]; simp) (by rw [hop]; simpa [Op.operands] using h)
    simp only [hc, h x (by simp), h y (by simp)]
  case unOp op t x =>
    have hc := closedRun_congr (P := P) (ρ := ρ) (ρ' := ρ') (o := o) (by rw [hop]; simp) (by rw [hop]; simpa [Op.operands] using h)
    simp only [hc]
  case convert t u x =>
    have hc := closedRun_congr (P := P) (ρ := ρ) (ρ' := ρ') (o := o) (by rw [hop]; simp) (by rw [hop]; simpa [Op.operands] using h)
    simp only [hc]
  case index t x y =>
    have hc := closedRun_congr (P := P) (ρ := ρ) (ρ' := ρ') (o := o) (by rw [hop]; simp) (by rw [hop]; simpa [Op.operands] using h)
    simp only [hc]
  case makeInterface t x => simp only [h x (by simp)]
  case makeFunc fn u v =>
    cases fn <;> first | rfl | skip
    have h1 : u.map ρ = u.map ρ' := map_arr_congr fun x hx => h x (by simp [hx])
    have h2 : v.map ρ = v.map ρ' := map_arr_congr fun x hx => h x (by simp [hx])
    simp only [h1, h2]
  case slice t x lo hi mx =>
    cases mx <;> first | rfl | skip
    have hc := closedRun_congr (P := P) (ρ := ρ) (ρ' := ρ') (o := o) (by rw [hop]; simp) (by rw [hop]; simpa [Op.operands] using h)
    have h1 : lo.map ρ = lo.map ρ' := opt_map_congr fun z hz => h z (by simp [hz])
    have h2 : hi.map ρ = hi.map ρ' := opt_map_congr fun z hz => h z (by simp [hz])
    simp only [hc, h1, h2, h x (by simp)]
  case fieldAddr t x f => simp only [h x (by simp)]
  case field t x f => simp only [h x (by simp)]
  case indexAddr t x y => simp only [h x (by simp), h y (by simp)]
  case extract x i => simp only [h x (by simp)]
  case typeAssert x t u ok => simp only [h x (by simp)]
  case panic x => simp only [h x (by simp)]
  case makeMap t r => cases r <;> rfl

theorem evalCall_congr {P : Program} {H : AHeap} {ρ ρ' : Operand → Value} {o : Oper} {c : Call} (ho : o.op = .call c) (h : ∀ x ∈ o.op.operands, ρ x = ρ' x) : evalCall P H ρ o c = evalCall P H ρ' o c := by
  have hc := closedRun_congr (P := P) (ρ := ρ) (ρ' := ρ') (o := o) (by rw [ho]; simp) h
  rw [ho] at h
  simp only [Op.operands, Call.operands] at h
  have ha : ∀ x ∈ c.args.toList, ρ x = ρ' x := fun x hx => h x (by simp only [Array.mem_append]; exact .inr (by simpa using hx))
  have hm : c.args.toList.map ρ = c.args.toList.map ρ' := List.map_congr_left ha
  unfold evalCall
  rw [hc, hm]
  split
  · split
    · rename_i e _; rw [ha _ (by rw [e]; simp)]
    · rfl
  · split
    · rename_i e _; rw [ha _ (by rw [e]; simp), ha _ (by rw [e]; simp)]
    · rfl
  · rfl
  · rfl
  · rename_i f hf
    rw [h f (by rw [hf]; simp)]
  · rfl

theorem evalAny_congr {P : Program} {H : AHeap} {ρ ρ' : Operand → Value} {o : Oper} (h : ∀ x ∈ o.op.operands, ρ x = ρ' x) : evalAny P H ρ o = evalAny P H ρ' o := by
  unfold evalAny
  split
  · rename_i c ho; rw [evalCall_congr ho h]
  · rename_i t m k ok ho
    rw [ho] at h
    simp only [Op.operands] at h
    rw [h m (by simp), h k (by simp)]
  · rename_i t m k v ho
    rw [ho] at h
    simp only [Op.operands] at h
    rw [h m (by simp), h k (by simp), h v (by simp)]
  · rename_i t m k v ho
    rw [ho] at h
    simp only [Op.operands] at h
    rw [h m (by simp), h k (by simp), h v (by simp)]
  · exact evalOp_congr h

/-! ### Kinds of operations -/
inductive OKind where
  | pure
  | read
  | alloc
  | effect
  deriving DecidableEq

def okind : Op → OKind
  | .move _ | .assign _ | .pick _ _ _ | .build _ _ | .nilCheck _ | .binOp _ _ _ _ _ | .unOp _ _ _ | .convert _ _ _ | .index _ _ _ | .makeInterface _ _ | .makeFunc _ _ _ | .fieldAddr _ _ _ | .field _ _ _
  | .indexAddr _ _ _ | .extract _ _ | .typeAssert _ _ _ _ => .pure
  | .load _ _ | .lookup _ _ _ _ | .slice _ _ _ _ _ => .read
  | .call { callee := .builtin .len, .. } => .read
  | .call { callee := .builtin .min, .. } => .read
  | .call { callee := .builtin .max, .. } => .read
  | .alloc _ | .box _ _ | .buildSlice _ _ _ => .alloc
  | _ => .effect

theorem okind_call (c : Call) : okind (.call c) = .read ∨ okind (.call c) = .effect := by
  unfold okind; split <;> simp_all

set_option maxHeartbeats 4000000 in
theorem pure_any {P : Program} {H : AHeap} {ρ : Operand → Value} {o : Oper} (hk : okind o.op = .pure) {r : ARes} (e : evalAny P H ρ o = some r) : ∃ v, r = .val v H ∧ ∀ H2, evalAny P H2 ρ o = some (.val v H2) := by
  have hnc : ∀ c, o.op ≠ .call c := by
    intro c hc; rw [hc] at hk; rcases okind_call c with h | h <;> rw [h] at hk <;> cases hk
  have ev : ∀ H2, evalAny P H2 ρ o = evalOp P H2 ρ o := by
    intro H2
    unfold evalAny
    split
    · rename_i c hc; exact absurd hc (hnc c)
    · rename_i ho; rw [ho] at hk; cases hk
    · rename_i ho; rw [ho] at hk; cases hk
    · rename_i ho; rw [ho] at hk; cases hk
    · rfl
  rw [ev] at e
  simp only [ev]
  unfold evalOp at e ⊢
  split at e
  case isFalse => simp at e
  rename_i hok
  simp only [hok, if_true]
  cases hop : o.op
  all_goals rw [hop] at hk
  all_goals (first | (simp [okind] at hk; done) | (exact absurd hop (hnc _)) | skip)
  all_goals simp only [hop] at e ⊢
  all_goals (repeat' split at e)
  all_goals (first | contradiction | (simp at e; done) | skip)
  all_goals (simp only [Option.some.injEq] at e; subst e)
  all_goals (refine ⟨_, rfl, fun H2 => ?_⟩; simp_all)

/-- A reading operation leaves the heap. -/
theorem read_any {P : Program} {H : AHeap} {ρ : Operand → Value} {o : Oper} (hk : okind o.op = .read) {r : ARes} (e : evalAny P H ρ o = some r) : ∃ v, r = .val v H := by
  unfold evalAny at e
  split at e
  · rename_i c hc
    rw [hc] at hk
    split at e
    · unfold evalCall at e
      split at e
      · (repeat' split at e) <;> first | (simp at e; done) | (simp at e; exact ⟨_, e.symm⟩)
      · rename_i hcb; unfold okind at hk; split at hk <;> simp_all
      · (repeat' split at e) <;> first | (simp at e; done) | (simp at e; exact ⟨_, e.symm⟩)
      · (repeat' split at e) <;> first | (simp at e; done) | (simp at e; exact ⟨_, e.symm⟩)
      · rename_i hcb; unfold okind at hk; split at hk <;> simp_all
      · simp at e
    · simp at e
  · (repeat' split at e) <;> first | (simp at e; done) | (simp at e; exact ⟨_, e.symm⟩)
  · rename_i ho; rw [ho] at hk; cases hk
  · rename_i ho; rw [ho] at hk; cases hk
  · rename_i hnc _ _ _
    unfold evalOp at e
    split at e
    case isFalse => simp at e
    cases hop : o.op
    all_goals rw [hop] at hk
    all_goals (first | (simp [okind] at hk; done) | (exact absurd hop (hnc _)) | skip)
    all_goals simp only [hop] at e
    all_goals (repeat' split at e) <;> first | contradiction | (simp at e; done) | (simp at e; exact ⟨_, e.symm⟩)

end B
end Go.Proofs.Ytnjoaffnfjlcaaa
