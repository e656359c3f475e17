/-
  Maps, builtins, the entering of a function.
-/
import Derived.Test.YtnjoaffnfjlcaaaB8
namespace Go.Proofs.Ytnjoaffnfjlcaaa
namespace B
open Go

def mkEntries (es : List (Value × Value)) : List MapEntry := es.map fun (k, v) => { key := k, val := v, born := 0 }

def FRel (β : Emb) : Option (Nat × Value) → Option (Nat × Value) → Prop
  | none, none => True
  | some (i, v), some (j, v') => i = j ∧ VRel β v v'
  | _, _ => False

theorem findNow_rel {β : Emb} (kind : TypeDesc) (k : Value) : ∀ (es : List (Value × Value)) (ces : List MapEntry) (i : Nat), ERels β es ces →
    match Instr.findNow kind k (mkEntries es) i, Instr.findNow kind k ces i with
    | none, none => True
    | some a, some b => FRel β a b
    | _, _ => False
  | [], [], i, _ => by simp [mkEntries, Instr.findNow, FRel]
  | (key, v) :: es, e :: ces, i, h => by
    cases h with
    | cons hk he hv g =>
      have ih := findNow_rel kind k es ces (i + 1) g
      simp only [mkEntries, List.map_cons, Instr.findNow, he]
      simp only [mkEntries] at ih
      cases hs : Instr.sameNow kind k key with
      | none => simp
      | some b => cases b with
        | true => simp [FRel, hv]
        | false => simpa using ih
  | [], _ :: _, _, h => by cases h
  | _ :: _, [], _, h => by cases h

theorem pureRun_bind {α γ : Type} {P : Program} : ∀ {s : Sem α} {f : α → Sem γ} {c : γ}, pureRun P (s >>= f) = some c → ∃ a, pureRun P s = some a ∧ pureRun P (f a) = some c
  | .pure a, f, c, h => ⟨a, rfl, h⟩
  | .program k, f, c, h => by
    have h' : pureRun P (k P >>= f) = some c := h
    obtain ⟨a, h1, h2⟩ := pureRun_bind h'
    exact ⟨a, h1, h2⟩
  | .mark m k, f, c, h => by
    have h' : pureRun P (k >>= f) = some c := h
    obtain ⟨a, h1, h2⟩ := pureRun_bind h'
    exact ⟨a, h1, h2⟩
  | .load .., _, _, h => by simp [bind, Sem.bind, pureRun] at h
  | .store .., _, _, h => by simp [bind, Sem.bind, pureRun] at h
  | .new .., _, _, h => by simp [bind, Sem.bind, pureRun] at h
  | .shape .., _, _, h => by simp [bind, Sem.bind, pureRun] at h
  | .freeze .., _, _, h => by simp [bind, Sem.bind, pureRun] at h
  | .frozen .., _, _, h => by simp [bind, Sem.bind, pureRun] at h
  | .getObj .., _, _, h => by simp [bind, Sem.bind, pureRun] at h
  | .setObj .., _, _, h => by simp [bind, Sem.bind, pureRun] at h
  | .choose .., _, _, h => by simp [bind, Sem.bind, pureRun] at h
  | .sys .., _, _, h => by simp [bind, Sem.bind, pureRun] at h
  | .halt _, _, _, h => by simp [bind, Sem.bind, pureRun] at h

theorem findAsking_rel {P : Program} {β : Emb} (kt : TypeId) (k : Value) (w : World) : ∀ (es : List (Value × Value)) (ces : List MapEntry) (i : Nat) (r : Option (Nat × Value)), ERels β es ces →
    pureRun P (Instr.findAsking kt k (mkEntries es) i) = some r → ∃ r', (Instr.findAsking kt k ces i).run P w = .ok r' w ∧ FRel β r r'
  | [], [], i, r, _, h => by
    simp only [mkEntries, List.map_nil, Instr.findAsking, pure, pureRun, Option.some.injEq] at h
    subst h
    exact ⟨none, rfl, trivial⟩
  | (key, v) :: es, e :: ces, i, r, h, hp => by
    cases h with
    | cons hk he hv g =>
      simp only [mkEntries, List.map_cons, Instr.findAsking] at hp
      obtain ⟨b, h1, h2⟩ := pureRun_bind hp
      simp only [Instr.findAsking, he, Sem.run_bind, pureRun_run h1, Result.andThen_ok]
      cases b with
      | true =>
        simp only [if_true, pure, pureRun, Option.some.injEq] at h2
        subst h2
        exact ⟨some (i, e.val), by simp, rfl, hv⟩
      | false =>
        simp only [Bool.false_eq_true, if_false] at h2 ⊢
        exact findAsking_rel kt k w es ces (i + 1) r g h2
  | [], _ :: _, _, _, h, _ => by cases h
  | _ :: _, [], _, _, h, _ => by cases h

theorem findKey_rel {P : Program} {β : Emb} (kt : TypeId) (k : Value) (w : World) {es : List (Value × Value)} {ces : List MapEntry} {r : Option (Nat × Value)} (h : ERels β es ces)
    (hp : pureRun P (Instr.findKey kt k (mkEntries es)) = some r) : ∃ r', (Instr.findKey kt k ces).run P w = .ok r' w ∧ FRel β r r' := by
  unfold Instr.findKey at hp ⊢
  obtain ⟨d, h1, h2⟩ := pureRun_bind hp
  simp only [Sem.run_bind, pureRun_run h1, Result.andThen_ok]
  have hf := findNow_rel d k es ces 0 h
  split at h2
  · rename_i a ha
    rw [ha] at hf
    simp only [pure, pureRun, Option.some.injEq] at h2
    subst h2
    cases hc : Instr.findNow d k ces 0 with
    | none => rw [hc] at hf; exact hf.elim
    | some b => rw [hc] at hf; exact ⟨b, rfl, hf⟩
  · rename_i ha
    rw [ha] at hf
    cases hc : Instr.findNow d k ces 0 with
    | none => exact findAsking_rel kt k w es ces 0 r h h2
    | some b => rw [hc] at hf; exact hf.elim

theorem ERels.length {β : Emb} {es : List (Value × Value)} {ces : List MapEntry} (h : ERels β es ces) : ces.length = es.length := by
  induction h with
  | nil => rfl
  | cons _ _ _ _ ih => simp [ih]

/-- The entries of a map, nil or not. -/
def AHeap.entries (H : AHeap) : Value → Option (List (Value × Value))
  | .map none => some []
  | .map (some r) => match H.get r with
    | some (.map es) => some es
    | _ => none
  | _ => none

/-- 'm[k]' of a map. -/
def AHeap.look (H : AHeap) (P : Program) (t : TypeId) (m k : Value) : Option (Value × Bool) :=
  match P.underlying t with
  | some (.map kt et) => match H.entries m with
    | some es => if closedV k then
        match pureRun P (Instr.checkKey es.isEmpty 10000 kt k), pureRun P (Instr.findKey kt k (mkEntries es)) with
        | some (), some (some (_, v)) => some (v, true)
        | some (), some none => match P.info? et with
          | some i => match i.zero with
            | some z => if closedV z then some (z, false) else none
            | none => none
          | none => none
        | _, _ => none
      else none
    | none => none
  | _ => none

def AHeap.mapPut (H : AHeap) (P : Program) (t : TypeId) (m k v : Value) : Option AHeap :=
  match P.underlying t, m with
  | some (.map kt _), .map (some r) => match H.get r with
    | some (.map es) => if closedV k then
        match pureRun P (Instr.checkKey false 10000 kt k), pureRun P (Instr.findKey kt k (mkEntries es)) with
        | some (), some (some (i, _)) => match es[i]? with
          | some (old, _) => if Instr.sameBits 10000 old k then some (H.set r (.map (es.set i (k, v)))) else none
          | none => none
        | some (), some none => some (H.set r (.map (es ++ [(k, v)])))
        | _, _ => none
      else none
    | _ => none
  | _, _ => none

section
variable {P : Program} {N0 : Fz} {β : Emb} {H : AHeap} {w : World}

theorem HRel.entries_run (h : HRel P N0 β H w) {m m' : Value} {es : List (Value × Value)} (he : H.entries m = some es) (hm : VRel β m m') :
    (m' = .map none ∧ es = []) ∨ ∃ b ces clock, m' = .map (some b) ∧ w.heap[b]? = some (.map ces clock) ∧ ERels β es ces.toList := by
  unfold AHeap.entries at he
  split at he
  · simp at he; subst he; exact .inl ⟨VRel.eq_of_closed hm rfl, rfl⟩
  · rename_i r
    obtain ⟨b, rfl, hb⟩ := hm.inv_map
    split at he
    · rename_i es' hg
      simp at he; subst he
      obtain ⟨_, ces, clock, h1, h2⟩ := h.map _ _ _ hb hg
      exact .inr ⟨b, ces, clock, rfl, h1, h2⟩
    · simp at he
  · simp at he

theorem getObj_map {b : Nat} {ces : Array MapEntry} {clock : Nat} (h : w.heap[b]? = some (.map ces clock)) : (getObj b).run P w = .ok (.map ces clock) w := by
  simp [getObj, Sem.run, h]

theorem HRel.look_run (h : HRel P N0 β H w) {t : TypeId} {m k m' k' v : Value} {b : Bool} (hl : H.look P t m k = some (v, b)) (hm : VRel β m m') (hk : VRel β k k') (ok : Bool) :
    ∃ v', (Instr.lookup t m' k' ok).run P w = .ok (if ok then .tuple #[v', .bool b] else v') w ∧ VRel β v v' := by
  unfold AHeap.look at hl
  split at hl
  case h_2 => simp at hl
  rename_i kt et hu
  split at hl
  case h_2 => simp at hl
  rename_i es hes
  split at hl
  case isFalse => simp at hl
  rename_i hck
  obtain rfl := VRel.eq_of_closed hk hck
  have hex : ∃ ces : Array MapEntry, ERels β es ces.toList ∧ ces.isEmpty = es.isEmpty ∧ ((m' = .map none ∧ ces = #[]) ∨ ∃ b clock, m' = .map (some b) ∧ w.heap[b]? = some (.map ces clock)) := by
    rcases h.entries_run hes hm with ⟨rfl, rfl⟩ | ⟨b, ces, clock, rfl, h1, h2⟩
    · exact ⟨#[], .nil, rfl, .inl ⟨rfl, rfl⟩⟩
    · refine ⟨ces, h2, ?_, .inr ⟨b, clock, rfl, h1⟩⟩
      have := ERels.length h2
      cases es <;> simp_all [Array.isEmpty, Array.length_toList]
  obtain ⟨ces, hE, hemp, hcase⟩ := hex
  have head : (∃ r', pureRun P (Instr.findKey kt k' (mkEntries es)) = some r' ∧ pureRun P (Instr.checkKey es.isEmpty 10000 kt k') = some ()) → ∃ r r', pureRun P (Instr.findKey kt k' (mkEntries es)) = some r ∧
      (Instr.findKey kt k' ces.toList).run P w = .ok r' w ∧ FRel β r r' ∧ (Instr.checkKey ces.isEmpty 10000 kt k').run P w = .ok () w := by
    rintro ⟨r, h1, h2⟩
    obtain ⟨r', h3, h4⟩ := findKey_rel kt k' w hE h1
    exact ⟨r, r', h1, h3, h4, by rw [hemp]; exact pureRun_run h2 w⟩
  split at hl
  · rename_i i0 v0 hck1 hfk
    simp at hl
    obtain ⟨rfl, rfl⟩ := hl
    obtain ⟨r, r', hr, h1, h2, h3⟩ := head ⟨_, hfk, hck1⟩
    rw [hfk] at hr
    obtain rfl := (by simpa using hr : _ = r)
    cases r' with
    | none => exact h2.elim
    | some p =>
      obtain ⟨j, v'⟩ := p
      refine ⟨v', ?_, h2.2⟩
      rcases hcase with ⟨rfl, rfl⟩ | ⟨b, clock, rfl, hb⟩
      · unfold Instr.lookup
        simp only [Sem.run_bind, run_underlying hu, Result.andThen_ok, Sem.run_pure, h3, h1]
      · unfold Instr.lookup
        simp only [Sem.run_bind, run_underlying hu, Result.andThen_ok, getObj_map hb, Sem.run_pure, h3, h1]
  · rename_i hck1 hfk
    split at hl
    case h_2 => simp at hl
    rename_i i hi
    split at hl
    case h_2 => simp at hl
    rename_i z hz
    split at hl
    case isFalse => simp at hl
    rename_i hcz
    simp at hl
    obtain ⟨rfl, rfl⟩ := hl
    obtain ⟨r, r', hr, h1, h2, h3⟩ := head ⟨_, hfk, hck1⟩
    rw [hfk] at hr
    obtain rfl := (by simpa using hr : _ = r)
    cases r' with
    | some p => exact h2.elim
    | none =>
      have hzr : (zeroValue et).run P w = .ok z w := by simp [zeroValue, typeInfo, hi, hz]
      refine ⟨z, ?_, .closed hcz⟩
      rcases hcase with ⟨rfl, rfl⟩ | ⟨b, clock, rfl, hb⟩
      · unfold Instr.lookup
        simp only [Sem.run_bind, run_underlying hu, Result.andThen_ok, Sem.run_pure, h3, h1, hzr]
      · unfold Instr.lookup
        simp only [Sem.run_bind, run_underlying hu, Result.andThen_ok, getObj_map hb, Sem.run_pure, h3, h1, hzr]
  · simp at hl

theorem HRel.setMap (h : HRel P N0 β H w) {r b : Nat} {es : List (Value × Value)} {ces : Array MapEntry} {clock : Nat} (hb : β.map r = some b) (hE : ERels β es ces.toList) {es0 : List (Value × Value)} (hg : H.get r = some (.map es0)) :
    let w' : World := { w with heap := w.heap.setIfInBounds b (.map ces clock) }
    HRel P N0 β (H.set r (.map es)) w' ∧ Fr N0 w w' := by
  intro w'
  have hlt := h.mapblk_lt hb
  obtain ⟨hN, _, _, hbm, _⟩ := h.map _ _ _ hb hg
  have hnew : w'.heap[b]? = some (.map ces clock) := by simp [w', hlt]
  have hold : ∀ b', b' ≠ b → w'.heap[b']? = w.heap[b']? := fun b' hb' => by simp [w', Array.getElem?_setIfInBounds_ne (Ne.symm hb')]
  have hview : ∀ j, j ≠ r → (H.set r (.map es)).view j = H.view j := fun j hj => by simp [AHeap.view, AHeap.set, hj]
  have hvr : (H.set r (.map es)).view r = none := by simp [AHeap.view, AHeap.set, AObj.view]
  have hvr0 : H.view r = none := by unfold AHeap.view; rw [hg]; rfl
  have hrb : ∀ i k b' o', β.row i k = some (b', o') → b' ≠ b := by
    intro i k b' o' h1 e
    subst e
    obtain ⟨rr, hrr⟩ := h.dom _ _ _ h1
    obtain ⟨c, fz, hok⟩ := h.row _ _ _ _ _ h1 hrr
    have := hok.blk
    rw [hbm] at this; simp at this
  refine ⟨?_, ⟨by simp [w'], fun b' hb' => hold b' (fun e => hN (e ▸ hb')), rfl, rfl⟩⟩
  constructor
  · intro i k b' o rr h1 h2
    have hi : i ≠ r := by rintro rfl; rw [hvr] at h2; simp at h2
    rw [hview _ hi] at h2
    obtain ⟨c, fz, hok⟩ := h.row _ _ _ _ _ h1 h2
    exact ⟨c, fz, hok.mono (Emb.leU.refl _) (hold _ (hrb _ _ _ _ h1)) rfl rfl⟩
  · intro i b' es' h1 h2
    by_cases hi : i = r
    · subst hi
      rw [hb] at h1
      obtain rfl : b = b' := by simpa using h1
      obtain rfl : es = es' := by simpa [AHeap.set] using h2
      exact ⟨hN, _, _, hnew, hE⟩
    · have h2' : H.get i = some (.map es') := by simpa [AHeap.set, hi] using h2
      obtain ⟨a, ces', cl, c, d⟩ := h.map _ _ _ h1 h2'
      have hbb : b' ≠ b := by intro e; subst e; exact hi (h.injM _ _ _ h1 hb)
      exact ⟨a, ces', cl, by rw [hold _ hbb]; exact c, d⟩
  · intro i k p h1
    have hi : i ≠ r := by
      rintro rfl
      obtain ⟨rr, hrr⟩ := h.dom _ _ _ h1
      rw [hvr0] at hrr; simp at hrr
    rw [hview _ hi]; exact h.dom _ _ _ h1
  · intro i b' h1
    by_cases hi : i = r
    · subst hi; exact ⟨es, by simp [AHeap.set]⟩
    · obtain ⟨es', he⟩ := h.domM _ _ h1
      exact ⟨es', by simp [AHeap.set, hi, he]⟩
  · intro i hi
    have hlt' := h.lt_of_get hg
    have hi' : H.next ≤ i := hi
    have : i ≠ r := by omega
    simp only [AHeap.set, if_neg this]; exact h.fresh _ hi'
  · intro i rr h1 j
    have hi : i ≠ r := by rintro rfl; rw [hvr] at h1; simp at h1
    rw [hview _ hi] at h1; exact h.stle _ _ h1 j
  · intro i k b1 o1 i' k' o1' r1 r2 h1 h2 h3 h4
    have hi : i ≠ r := by rintro rfl; rw [hvr] at h3; simp at h3
    have hi' : i' ≠ r := by rintro rfl; rw [hvr] at h4; simp at h4
    rw [hview _ hi] at h3; rw [hview _ hi'] at h4
    exact h.inj _ _ _ _ _ _ _ _ _ h1 h2 h3 h4
  · exact h.injM
  · simpa [w'] using h.base
  · exact h.nx
  · exact h.liveR
  · exact h.liveM
  · exact h.live
  · intro i b' h1
    obtain ⟨q, q', h2, h3, h4, h5⟩ := h.lp _ _ h1
    have hi : i ≠ r := by rintro rfl; rw [hg] at h2; simp at h2
    have hbb : b' ≠ b := by rintro rfl; simp_all
    exact ⟨q, q', by simp [AHeap.set, hi, h2], h3, by rw [hold _ hbb]; exact h4, h5⟩
  · exact h.injL

theorem ERels.get {es : List (Value × Value)} {ces : List MapEntry} (h : ERels β es ces) : ∀ {i : Nat} {k v : Value}, es[i]? = some (k, v) → ∃ e, ces[i]? = some e ∧ e.key = k ∧ VRel β v e.val := by
  induction h with
  | nil => intro i k v hi; simp at hi
  | cons hk he hv g ih =>
    intro i k' v' hi
    cases i with
    | zero => simp at hi; obtain ⟨rfl, rfl⟩ := hi; exact ⟨_, by simp, he, hv⟩
    | succ i => simpa using ih (by simpa using hi)

theorem ERels.modify {es : List (Value × Value)} {ces : List MapEntry} (h : ERels β es ces) {k v v' : Value} (hk : closedV k = true) (hv : VRel β v v') : ∀ (i : Nat),
    ERels β (es.set i (k, v)) (ces.modify i fun e => { e with key := k, val := v' }) := by
  induction h with
  | nil => intro i; simp; exact .nil
  | cons hk' he hv' g ih =>
    intro i
    cases i with
    | zero => simp; exact .cons hk rfl hv g
    | succ i => simp; exact .cons hk' he hv' (ih i)

theorem ERels.push {es : List (Value × Value)} {ces : List MapEntry} (h : ERels β es ces) {k v v' : Value} (hk : closedV k = true) (hv : VRel β v v') (n : Nat) :
    ERels β (es ++ [(k, v)]) (ces ++ [{ key := k, val := v', born := n }]) := by
  induction h with
  | nil => exact .cons hk rfl hv .nil
  | cons hk' he hv' g ih => exact .cons hk' he hv' ih

theorem HRel.mapPut_run (h : HRel P N0 β H w) {t : TypeId} {m k v m' k' v' : Value} {H' : AHeap} (hp : H.mapPut P t m k v = some H') (hm : VRel β m m') (hk : VRel β k k') (hv : VRel β v v') :
    ∃ w', (Instr.mapUpdate t m' k' v').run P w = .ok () w' ∧ HRel P N0 β H' w' ∧ Fr N0 w w' := by
  unfold AHeap.mapPut at hp
  split at hp
  case h_2 => simp at hp
  rename_i kt et r hu
  split at hp
  case h_2 => simp at hp
  rename_i es hg
  split at hp
  case isFalse => simp at hp
  rename_i hck
  obtain rfl := VRel.eq_of_closed hk hck
  obtain ⟨b, rfl, hb⟩ := hm.inv_map
  obtain ⟨_, ces, clock, hbm, hE⟩ := h.map _ _ _ hb hg
  split at hp
  · rename_i i v0 hck1 hfk
    obtain ⟨r', h1, h2⟩ := findKey_rel kt k' w hE hfk
    cases r' with
    | none => exact h2.elim
    | some p =>
      obtain ⟨j, u'⟩ := p
      obtain ⟨rfl, _⟩ := h2
      split at hp
      case h_2 => simp at hp
      rename_i old u hes
      split at hp
      case isFalse => simp at hp
      rename_i hsame
      simp at hp; subst hp
      obtain ⟨e, he, hek, _⟩ := hE.get hes
      rw [Array.getElem?_toList] at he
      obtain ⟨hr, hf⟩ := h.setMap hb (es := es.set i (k', v)) (ces := ces.modify i fun e => { e with key := k', val := v' }) (clock := clock)
        (by rw [Array.toList_modify]; exact hE.modify hck hv i) hg
      refine ⟨_, ?_, hr, hf⟩
      have hkeep : (Instr.keyThatStays (((ces[i]?).map (·.key)).getD k') k').run P w = .ok k' w := by
        simp [Instr.keyThatStays, he, hek, hsame]
      unfold Instr.mapUpdate
      simp only [Sem.run_bind, run_underlying hu, Result.andThen_ok, getObj_map hbm, pureRun_run hck1, h1, hkeep]
      simp [setObj, Sem.run, hbm]
  · rename_i hck1 hfk
    simp at hp; subst hp
    obtain ⟨r', h1, h2⟩ := findKey_rel kt k' w hE hfk
    cases r' with
    | some p => exact h2.elim
    | none =>
      obtain ⟨hr, hf⟩ := h.setMap hb (es := es ++ [(k', v)]) (ces := ces.push { key := k', val := v', born := clock }) (clock := clock + 1)
        (by rw [Array.toList_push]; exact hE.push hck hv clock) hg
      refine ⟨_, ?_, hr, hf⟩
      unfold Instr.mapUpdate
      simp only [Sem.run_bind, run_underlying hu, Result.andThen_ok, getObj_map hbm, pureRun_run hck1, h1]
      simp [setObj, Sem.run, hbm]
  · simp at hp

end

end B
end Go.Proofs.Ytnjoaffnfjlcaaa
