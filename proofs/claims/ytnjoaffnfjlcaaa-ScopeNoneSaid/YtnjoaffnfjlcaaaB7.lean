/-
  The simulation, operation by operation.
-/
import Derived.Test.YtnjoaffnfjlcaaaB6
namespace Go.Proofs.Ytnjoaffnfjlcaaa
namespace B
open Go

theorem partOf_run {P : Program} {β : Emb} {t : TypeId} {cs : List Value} {cs' : Array Value} {off : Nat} {v : Value} (h : partOf P t cs off = some v) (hr : VRels β cs cs'.toList) (w : World) :
    ∃ v', (part t cs' off).run P w = .ok v' w ∧ VRel β v v' := by
  unfold partOf at h
  cases hb : aggT P t with
  | none => rw [hb] at h; simp at h
  | some b =>
    rw [hb] at h
    unfold part
    rw [Sem.run_bind, isAgg_run hb, Result.andThen_ok]
    cases b with
    | true =>
      dsimp only at h
      cases hi : P.info? t with
      | none => rw [hi] at h; simp at h
      | some i =>
        rw [hi] at h
        dsimp only at h
        split at h
        · simp at h; subst h
          refine ⟨.agg (cs'.extract off (off + i.size)), by simp [sizeOf, typeInfo, hi], .agg ?_⟩
          have := VRels.take i.size (VRels.drop off hr)
          simpa [Array.toList_extract, List.extract] using this
        · simp at h
    | false =>
      dsimp only at h
      obtain ⟨v', h1, h2⟩ := VRels.get hr h
      rw [Array.getElem?_toList] at h1
      exact ⟨v', by simp [h1], h2⟩

theorem boundOf_run {P : Program} {w : World} {d y : Nat} {v : Option Value} {l : Nat} (h : boundOf d v = some l) (hy : l ≤ y) (code : BoundsCode) : ∀ x, v = some x → (Instr.sliceBound x y code).run P w = .ok l w := by
  intro x hx
  subst hx
  unfold boundOf at h
  split at h
  · rename_i e; simp at e
  · rename_i k n e
    simp at e; subst e
    split at h
    · rename_i hn
      simp at h; subst h
      exact run_sliceBound w k n y code hn (by omega)
    · simp at h
  · simp at h

def ORel (β : Emb) : Option Value → Option Value → Prop
  | none, none => True
  | some x, some x' => VRel β x x'
  | _, _ => False

theorem boundOf_rel {β : Emb} {d : Nat} {v v' : Option Value} {l : Nat} (h : boundOf d v = some l) (hr : ORel β v v') : boundOf d v' = some l ∧ v' = v := by
  cases v with
  | none => cases v' with
    | none => exact ⟨h, rfl⟩
    | some _ => exact hr.elim
  | some x => cases v' with
    | none => exact hr.elim
    | some x' =>
      have : x' = x := by
        refine VRel.eq_of_closed hr ?_
        unfold boundOf at h
        split at h
        · rename_i e; simp at e
        · rename_i e; simp at e; subst e; rfl
        · simp at h
      subst this; exact ⟨h, rfl⟩

theorem sliceBounds_run {P : Program} {w : World} {len cap l h : Nat} {lo hi : Option Value} (hl : boundOf 0 lo = some l) (hh : boundOf len hi = some h) (h1 : l ≤ h) (h2 : h ≤ cap) :
    (Instr.sliceBounds true len cap lo hi none).run P w = .ok (l, h, cap) w := by
  cases hi with
  | none =>
    simp [boundOf] at hh; subst hh
    cases lo with
    | none => simp [boundOf] at hl; subst hl; simp [Instr.sliceBounds]
    | some x => have := boundOf_run (P := P) (w := w) hl h1 .sliceB x rfl; simp [Instr.sliceBounds, this]
  | some y =>
    have hy := boundOf_run (P := P) (w := w) hh h2 .sliceAcap y rfl
    cases lo with
    | none => simp [boundOf] at hl; subst hl; simp [Instr.sliceBounds, hy]
    | some x => have := boundOf_run (P := P) (w := w) hl h1 .sliceB x rfl; simp [Instr.sliceBounds, hy, this]

theorem sliceOf_run {P : Program} {N0 : Fz} {H : AHeap} {β : Emb} {w : World} (h0 : HRel P N0 β H w) {ee : TypeId} {i : TypeInfo} {t : TypeId} {x x' v : Value} {lo hi lo' hi' : Option Value} (hu : P.underlying t = some (.slice ee)) (hi0 : P.info? ee = some i)
    (hs : sliceOf H ee i.size x lo hi = some v) (hv : VRel β x x') (hlo : ORel β lo lo') (hhi : ORel β hi hi') :
    ∃ v', (Instr.slice t x' lo' hi' none).run P w = .ok v' w ∧ VRel β v v' := by
  unfold sliceOf at hs
  cases x with
  | slice a len cap =>
    dsimp only at hs
    cases hl : boundOf 0 lo with
    | none => rw [hl] at hs; simp at hs
    | some l =>
      cases hb : boundOf len hi with
      | none => rw [hl, hb] at hs; simp at hs
      | some h =>
        rw [hl, hb] at hs
        dsimp only at hs
        split at hs
        · rename_i hle
          obtain ⟨hl', rfl⟩ := boundOf_rel hl hlo
          obtain ⟨hh', rfl⟩ := boundOf_rel hb hhi
          have run : ∀ (d : Option Addr) (c' : Nat), h ≤ c' → (Instr.slice t (.slice d len c') lo' hi' none).run P w =
              .ok (.slice (if c' = l then d else d.map (·.add (l * i.size))) (h - l) (c' - l)) w := by
            intro d c' hhc
            simp [Instr.slice, run_underlying hu, sliceBounds_run hl hb hle.1 hhc, sizeOf, typeInfo, hi0]
          cases a with
          | some a0 =>
            dsimp only at hs
            split at hs
            case isFalse => simp at hs
            rename_i hel
            simp at hs; subst hs
            obtain ⟨d, c', rfl, hd⟩ := hv.inv_slice
            rcases hd with ⟨ha, h1, h2, h3⟩ | ⟨rfl, rfl, rfl, hres⟩
            · have hres0 : β.live a0.block = true := by
                obtain ⟨b, o, hb, _⟩ := ha
                exact h0.liveR _ _ _ hb
              rw [run (some d) c' (by omega)]
              refine ⟨_, rfl, ?_⟩
              by_cases hcl : c' = l
              · rw [if_pos hcl]
                have : h - l = 0 ∧ cap - l = 0 ∧ c' - l = 0 := by omega
                obtain ⟨e1, e2, e3⟩ := this
                rw [e1, e2, e3]
                exact .sliceZ hres0
              · rw [if_neg hcl]
                simp only [Option.map_some]
                by_cases hz : cap - l = 0 ∧ c' - l = 0
                · rw [hz.1, hz.2, show h - l = 0 by omega]; exact .sliceZ hres0
                · have hadd := ha.add (l * i.size)
                  refine .slice hadd (by omega) (by omega) ?_
                  have hblk : (d.add (l * i.size)).block = d.block := by unfold Addr.add; split <;> rfl
                  have hoff : (d.add (l * i.size)).off = d.off + l * i.size := by unfold Addr.add; split <;> simp_all
                  rw [hblk, hoff]
                  intro hpos
                  have h3 := h3 hpos
                  rcases hel with rfl | hel
                  · simpa using h3
                  · obtain ⟨b, o, hr, rfl⟩ := ha
                    obtain ⟨r, hrv⟩ := h0.dom _ _ _ hr
                    obtain ⟨_, _, hok⟩ := h0.row _ _ _ _ _ hr hrv
                    unfold AHeap.elemOk at hel
                    rw [hrv] at hel
                    simp only [Bool.or_eq_true, beq_iff_eq] at hel
                    have hro : r.ro = false := by
                      cases hro : r.ro with
                      | false => rfl
                      | true => have := hok.robes hro; dsimp only at hpos; omega
                    obtain ⟨i', hi', hbes⟩ := hok.elem hro
                    have hel := hel.resolve_left (by rw [hro]; simp)
                    rw [hel, hi0] at hi'
                    obtain rfl : i = i' := by simpa using hi'
                    dsimp only at h3 ⊢
                    rw [← hbes] at h3 ⊢
                    have e4 : l * i.size + (c' - l) * i.size = c' * i.size := by rw [← Nat.add_mul]; congr 1; omega
                    omega
            · have h0 : h = 0 := by omega
              have l0 : l = 0 := by omega
              subst h0; subst l0
              rw [run (some d) 0 (by omega)]
              exact ⟨_, rfl, by simpa [addA_zero] using VRel.sliceZ hres⟩
          | none =>
            dsimp only at hs
            split at hs
            · rename_i hz
              simp at hs; subst hs
              obtain ⟨rfl, rfl⟩ := hz
              obtain rfl := VRel.eq_of_closed hv rfl
              have h0 : h = 0 := by omega
              have l0 : l = 0 := by omega
              subst h0; subst l0
              rw [run none 0 (by omega)]
              exact ⟨_, rfl, .closed (by simp [closedV])⟩
            · simp at hs
        · simp at hs
  | _ => simp at hs

structure EqRuns (P : Program) (t : TypeId) (x y : Value) (b : Bool) (w : World) : Prop where
  guard : ∀ (op : BinOp) (a c : Operand), (eqGuard op t a c x y).run P w = .ok () w
  eql : (binOp .eql t x y).run P w = .ok (.bool b) w
  neq : (binOp .neq t x y).run P w = .ok (.bool (!b)) w

theorem EqRuns.mk' {P : Program} {t : TypeId} {x y : Value} {b : Bool} {w : World} (h1 : (Op.equal t x y).run P w = .ok b w) (h2 : ∀ (op : BinOp) (a c : Operand), (eqGuard op t a c x y).run P w = .ok () w)
    (h3 : binOp .eql t x y = (do pure (.bool (← Op.equal t x y)))) (h4 : binOp .neq t x y = (do pure (.bool (!(← Op.equal t x y))))) : EqRuns P t x y b w :=
  ⟨h2, by rw [h3]; simp [h1], by rw [h4]; simp [h1]⟩

theorem equal_of {P : Program} {t : TypeId} {x y : Value} {b : Bool} {w : World} (h : ∀ d, (Op.equalIn (d + 1) t x y).run P w = .ok b w) : (Op.equal t x y).run P w = .ok b w := h 9999

set_option maxHeartbeats 2000000 in
theorem nilEq_run {P : Program} {β : Emb} {t : TypeId} {d : TypeDesc} {x y x' y' : Value} {b : Bool} (hu : P.underlying t = some d) (h : nilEq d x y = some b) (hx : VRel β x x') (hy : VRel β y y') (w : World) :
    EqRuns P t x' y' b w := by
  unfold nilEq at h
  split at h
  · obtain rfl := VRel.eq_of_closed hx rfl
    obtain ⟨c, rfl, hc, _⟩ := hy.inv_nil
    simp at h; subst h
    exact .mk' (equal_of fun d => by simp [Op.equalIn, run_underlying hu, hc]) (by intro op a c; unfold eqGuard; split <;> rfl) rfl rfl
  · obtain ⟨c, rfl, hc⟩ := hx.inv_pointer
    obtain rfl := VRel.eq_of_closed hy rfl
    simp at h; subst h
    exact .mk' (equal_of fun d => by simp [Op.equalIn, run_underlying hu]) (by intro op a c; unfold eqGuard; split <;> rfl) rfl rfl
  · rename_i b' _ _
    cases hx
    simp at h; subst h
    cases hy <;> exact .mk' (equal_of fun d => by simp [Op.equalIn, run_underlying hu]) (by intro op a c; unfold eqGuard; split <;> rfl) rfl rfl
  · simp at h; subst h
    cases hy
    cases hx <;> exact .mk' (equal_of fun d => by simp [Op.equalIn, run_underlying hu]) (by intro op a c; unfold eqGuard; split <;> rfl) rfl rfl
  · obtain rfl := VRel.eq_of_closed hx rfl
    simp at h; subst h
    cases hy <;> exact .mk' (equal_of fun d => by simp [Op.equalIn, run_underlying hu]) (by intro op a c; unfold eqGuard; split <;> rfl) rfl rfl
  · obtain rfl := VRel.eq_of_closed hy rfl
    simp at h; subst h
    obtain ⟨c, rfl, _⟩ := hx.inv_map
    exact .mk' (equal_of fun d => by simp [Op.equalIn, run_underlying hu]) (by intro op a c; unfold eqGuard; split <;> rfl) rfl rfl
  · obtain rfl := VRel.eq_of_closed hx rfl
    simp at h; subst h
    cases hy <;> exact .mk' (equal_of fun d => by simp [Op.equalIn, run_underlying hu]) (by intro op a c; unfold eqGuard; split <;> rfl) rfl rfl
  · obtain rfl := VRel.eq_of_closed hy rfl
    simp at h; subst h
    cases hx <;> exact .mk' (equal_of fun d => by simp [Op.equalIn, run_underlying hu]) (by intro op a c; unfold eqGuard; split <;> rfl) rfl rfl
  · obtain rfl := VRel.eq_of_closed hx rfl
    simp at h; subst h
    obtain ⟨v', rfl, _⟩ := hy.inv_iface
    exact .mk' (equal_of fun d => by simp [Op.equalIn, run_underlying hu]) (by intro op a c; unfold eqGuard; split <;> rfl) rfl rfl
  · obtain rfl := VRel.eq_of_closed hy rfl
    simp at h; subst h
    obtain ⟨v', rfl, _⟩ := hx.inv_iface
    exact .mk' (equal_of fun d => by simp [Op.equalIn, run_underlying hu]) (by intro op a c; unfold eqGuard; split <;> rfl) rfl rfl
  · simp at h

end B
end Go.Proofs.Ytnjoaffnfjlcaaa
