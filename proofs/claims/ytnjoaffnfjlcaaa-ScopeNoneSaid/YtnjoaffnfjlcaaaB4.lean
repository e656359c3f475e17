/-
  append: whatever capacity the world's slice has, and wherever the new row comes to lie.
-/
import Derived.Test.YtnjoaffnfjlcaaaB3
namespace Go.Proofs.Ytnjoaffnfjlcaaa
namespace B
open Go

theorem oneCell_of_flat {v : Value} (h : flatV v = true) : v.oneCell' = true := by cases v <;> simp_all [flatV, Value.oneCell']

theorem VRels.flat {β : Emb} : ∀ {l l' : List Value}, VRels β l l' → l.all flatV = true → ∀ v ∈ l', v.oneCell' = true
  | _, _, .nil, _, v, hv => by simp at hv
  | _, _, .cons h g, hl, v, hv => by
    simp only [List.all_cons, Bool.and_eq_true] at hl
    rcases List.mem_cons.1 hv with e | e
    · subst e; exact oneCell_of_flat (by rw [h.flat]; exact hl.1)
    · exact VRels.flat g hl.2 v e

theorem getD_replicate_le (n g j : Nat) : (List.replicate n g).getD j 0 ≤ g := by
  simp only [List.getD_eq_getElem?_getD, List.getElem?_replicate]
  split <;> simp

/-- What 'append' makes of a row. -/
def grownRow (cs xs : List Value) (st : List Nat) (m g : Nat) (e : TypeId) : RowV :=
  ⟨cs.take m ++ xs, fun j => (st.take m ++ List.replicate xs.length (g + 1)).getD j 0, g + 1, e, false⟩

theorem grownRow_st_lt {cs xs : List Value} {st : List Nat} {m g : Nat} {e : TypeId} (hm : m ≤ st.length) {j : Nat} (hj : j < m) : (grownRow cs xs st m g e).st j = st.getD j 0 := by
  simp only [grownRow, List.getD_eq_getElem?_getD]
  rw [List.getElem?_append_left (by simp; omega), List.getElem?_take_of_lt hj]

theorem grownRow_st_ge {cs xs : List Value} {st : List Nat} {m g : Nat} {e : TypeId} (hm : m ≤ st.length) {j : Nat} (hj : m ≤ j) (hj2 : j < m + xs.length) : (grownRow cs xs st m g e).st j = g + 1 := by
  simp only [grownRow, List.getD_eq_getElem?_getD]
  rw [List.getElem?_append_right (by simp; omega)]
  simp only [List.length_take, Nat.min_eq_left hm, List.getElem?_replicate]
  rw [if_pos (by omega)]; rfl

theorem grownRow_cs {cs xs : List Value} {st : List Nat} {m g : Nat} {e : TypeId} (hm : m ≤ cs.length) (j : Nat) : (grownRow cs xs st m g e).cs[j]? = if j < m then cs[j]? else xs[j - m]? := by
  simp only [grownRow]
  split
  · rename_i h
    rw [List.getElem?_append_left (by simp; omega), List.getElem?_take_of_lt h]
  · rw [List.getElem?_append_right (by simp; omega)]
    simp only [List.length_take, Nat.min_eq_left hm]

theorem grownRow_stle {cs xs : List Value} {st : List Nat} {m g : Nat} {e : TypeId} (hm : m ≤ st.length) (h : ∀ j, st.getD j 0 ≤ g) (j : Nat) : (grownRow cs xs st m g e).st j ≤ g + 1 := by
  rcases Nat.lt_or_ge j m with hj | hj
  · rw [grownRow_st_lt hm hj]; have := h j; omega
  · simp only [grownRow, List.getD_eq_getElem?_getD]
    rw [List.getElem?_append_right (by simp; omega)]
    simp only [List.getElem?_replicate]
    split <;> simp

/-- An elder generation's claims, behind an append. -/
theorem RowOk.elder {P : Program} {N0 : Fz} {β γ : Emb} {w w' : World} {cs xs : List Value} {st : List Nat} {m g : Nat} {e : TypeId} {k b o : Nat} {c : Array Value} {fz : Nat × Nat}
    (h : RowOk P N0 β w ⟨cs, fun j => st.getD j 0, g, e, false⟩ k b o c fz) (le : Emb.le β γ) (hm : m ≤ st.length) (hmc : m ≤ cs.length) (c' : Array Value)
    (hb : w'.heap[b]? = some (.cells c' e fz)) (hsz : c'.size = c.size) (hc : ∀ j, j < m → c'[o + j]? = c[o + j]?) (h1 : γ.bsz b = β.bsz b) (h2 : γ.bes b = β.bes b) :
    RowOk P N0 γ w' (grownRow cs xs st m g e) k b o c' fz :=
  { blk := hb, size := by rw [hsz, h1]; exact h.size, elem := by rw [h2]; exact h.elem, robes := by rw [h2]; exact h.robes,
    cell := fun j v hj hs => by
      rw [grownRow_cs hmc] at hj
      have hk : k ≤ g := h.gen
      split at hj
      · rename_i hjm
        rw [grownRow_st_lt hm hjm] at hs
        obtain ⟨v', a, b⟩ := h.cell j v hj hs
        exact ⟨v', by rw [hc j hjm]; exact a, b.mono le⟩
      · rename_i hjm
        have : j - m < xs.length := (List.getElem?_eq_some_iff.1 hj).1
        rw [grownRow_st_ge hm (by omega) (by omega)] at hs
        omega,
    own := h.own, gen := by have : k ≤ g := h.gen; show k ≤ g + 1; omega }

section
variable {P : Program} {N0 : Fz} {β : Emb} {H : AHeap} {w : World}

theorem elems_some {sz n : Nat} {x : Value} {xs : List Value} (hx : AHeap.elems H sz x = some (n, xs)) :
    (x = .slice none 0 0 ∧ n = 0 ∧ xs = []) ∨ ∃ a c, x = .slice (some a) n c ∧ H.readN a (n * sz) = some xs := by
  unfold AHeap.elems at hx
  split at hx
  · simp at hx; exact .inl ⟨rfl, hx.1.symm, hx.2⟩
  · rename_i a m c
    cases hr : H.readN a (m * sz) with
    | none => rw [hr] at hx; simp at hx
    | some vs => rw [hr] at hx; simp at hx; obtain ⟨rfl, rfl⟩ := hx; exact .inr ⟨a, c, rfl, hr⟩
  · simp at hx

/-- What is appended, in the world. -/
theorem HRel.elems_run (h : HRel P N0 β H w) {sz n : Nat} {x x' : Value} {xs : List Value} (hx : AHeap.elems H sz x = some (n, xs)) (hv : VRel β x x') :
    ∃ xs', VRels β xs xs' ∧ xs'.length = n * sz ∧ ((x' = .slice none 0 0 ∧ n = 0) ∨ ∃ d c, x' = .slice (some d) n c ∧ ∀ (j : Nat) (u : Value), xs'[j]? = some u → w.cell? (d.add j) = some u) := by
  rcases elems_some hx with ⟨rfl, rfl, rfl⟩ | ⟨a, c, rfl, hr⟩
  · exact ⟨[], .nil, by simp, .inl ⟨VRel.eq_of_closed hv rfl, rfl⟩⟩
  · obtain ⟨d, c', rfl, hd⟩ := hv.inv_slice
    rcases hd with ⟨ha, _⟩ | ⟨rfl, _, _⟩
    · obtain ⟨xs', h1, h2, h3⟩ := h.readN_run ha hr
      exact ⟨xs', h1, h2, .inr ⟨d, c', rfl, h3⟩⟩
    · rw [Nat.zero_mul] at hr
      simp [AHeap.readN] at hr; subst hr
      exact ⟨[], .nil, by simp, .inr ⟨d, c', rfl, by simp⟩⟩

theorem run_append_none (t ty e : TypeId) (i : TypeInfo) (ht : P.underlying t = some (.slice e)) (hi : P.info? e = some i) (b : Option Addr) (len cap : Nat) (hc : len ≤ cap)
    (d : Option Addr) (c : Nat) : (Builtin.append_ #[t, t] ty #[.slice b len cap, .slice d 0 c]).run P w = .ok (.slice b len cap) w := by
  cases b <;> cases d <;> simp [Builtin.append_, run_underlying ht, sizeOf, typeInfo, hi, Builtin.lenOf, hc, Builtin.firstCells, loadCells, loadCellsFrom, storeCells]

theorem HRel.append_run (h : HRel P N0 β H w) (t ty e : TypeId) (i : TypeInfo) (ht : P.underlying t = some (.slice e)) (hi : P.info? e = some i) {s s' x x' v : Value} {H' : AHeap}
    (hs : VRel β s s') (hx : VRel β x x') (ha : H.append i e s x = some (v, H')) :
    ∃ γ v' w', (Builtin.append_ #[t, t] ty #[s', x']).run P w = .ok v' w' ∧ Emb.le β γ ∧ HRel P N0 γ H' w' ∧ VRel γ v v' ∧ Fr N0 w w' := by
  unfold AHeap.append at ha
  split at ha
  · simp at ha
  rename_i hsz0
  split at ha
  · simp at ha
  rename_i z hz
  split at ha
  case isFalse => simp at ha
  rename_i hzs
  split at ha
  · simp at ha
  · -- nothing is appended
    rename_i xs0 hel
    obtain ⟨xs', _, _, hxx⟩ := h.elems_run hel hx
    have hx0 : ∃ d c, x' = .slice d 0 c := by
      rcases hxx with ⟨e, _⟩ | ⟨d, c, e, _⟩
      · exact ⟨_, _, e⟩
      · exact ⟨_, _, e⟩
    obtain ⟨d, c, rfl⟩ := hx0
    have hs0 : s = v ∧ H = H' ∧ ∃ b len cap, s' = .slice b len cap ∧ len ≤ cap := by
      split at ha
      · simp at ha
        exact ⟨ha.1, ha.2, none, 0, 0, VRel.eq_of_closed hs rfl, Nat.le_refl _⟩
      · simp at ha
        obtain ⟨d', c', e', hd⟩ := hs.inv_slice
        refine ⟨ha.1, ha.2, some d', _, c', e', ?_⟩
        rcases hd with ⟨_, h1, h2, _⟩ | ⟨h1, _, _, _⟩ <;> omega
      · simp at ha
    obtain ⟨rfl, rfl, b, len, cap, rfl, hc⟩ := hs0
    exact ⟨β, _, w, run_append_none t ty e i ht hi b len cap hc d c, Emb.le.refl _, h, hs, Fr.refl _ _⟩
  · rename_i n xs hel
    obtain ⟨xs', hxr, hxl, hxx⟩ := h.elems_run hel hx
    have hxx' : ∃ d c, x' = .slice (some d) (n + 1) c ∧ ∀ (j : Nat) (u : Value), xs'[j]? = some u → w.cell? (d.add j) = some u := by
      rcases hxx with ⟨_, e⟩ | hh
      · omega
      · exact hh
    obtain ⟨d, c, rfl, hcells⟩ := hxx'
    have hlen : xs.length = (n + 1) * i.size := by rw [← hxl]; exact (VRels.length hxr).symm
    split at ha
    case isFalse => simp at ha
    rename_i hflat
    have hone := VRels.flat hxr hflat
    split at ha
    · -- onto nil
      obtain rfl : s' = .slice none 0 0 := VRel.eq_of_closed hs rfl
      split at ha
      case isFalse => simp at ha
      rename_i hbd
      simp only [Option.some.injEq, Prod.mk.injEq] at ha
      obtain ⟨rfl, rfl⟩ := ha
      have hbd2 := hbd.2
      unfold maxBytes at hbd2
      have hr := run_append_nil (P := P) w t ty e i z ht hi hz d (n + 1) c xs' hxl hcells (by omega) (by omega) (by omega)
      have hge := grownCap_ge w (n + 1) 0 e
      obtain ⟨le, hrel, hfr, hrow, hbs, hbe⟩ := h.pushRow (o := .arr xs (List.replicate xs.length 0) 0 e false) (r := ⟨xs, fun j => (List.replicate xs.length 0).getD j 0, 0, e, false⟩) rfl rfl
        (fun j => getD_replicate_le _ _ _) rfl (c := xs'.toArray ++ Builtin.zeroCells z.cells (grownCap w (n + 1) 0 e - (n + 1))) hi
        (fun j u hj => by
          obtain ⟨u', hu', hur⟩ := VRels.get hxr hj
          refine ⟨u', ?_, hur⟩
          have : j < xs'.length := (List.getElem?_eq_some_iff.1 hu').1
          rw [Array.getElem?_append_left (by simpa using this)]
          simpa using hu')
        (w.drew.alloc (.cells (xs'.toArray ++ Builtin.zeroCells z.cells (grownCap w (n + 1) 0 e - (n + 1))) e)) ⟨rfl, rfl, rfl⟩
      refine ⟨_, _, _, hr, le, hrel, ?_, hfr⟩
      refine .slice ⟨w.heap.size, 0, by simpa [agen] using hrow, by simp⟩ (Nat.le_refl _) hge fun _ => ?_
      rw [hbs, hbe]
      simp only [Array.size_append, List.size_toArray, size_zeroCells, hzs, hxl, ← Nat.add_mul, Nat.zero_add]
      exact Nat.mul_le_mul_right _ (by omega)
    · -- onto a row
      rename_i a len cp
      split at ha
      case _ => 
        rename_i cs st g e' hg
        split at ha
        case isFalse => simp at ha
        rename_i hcond
        obtain ⟨hoff, rfl, hag, hstl, hn63, hby⟩ := hcond
        unfold maxBytes at hby
        cases hrd : H.readN a (len * i.size) with
        | none => rw [hrd] at ha; simp at ha
        | some olds =>
          rw [hrd] at ha
          simp only [Option.some.injEq, Prod.mk.injEq] at ha
          obtain ⟨rfl, rfl⟩ := ha
          have hview : H.view a.block = some ⟨cs, fun j => st.getD j 0, g, e', false⟩ := by unfold AHeap.view; rw [hg]; rfl
          have hol := readN_length hrd
          have hstle : ∀ j, st.getD j 0 ≤ g := h.stle _ _ hview
          -- what was read: the row's own first cells
          have hcs : ∀ j, j < len * i.size → cs[j]? = olds[j]? := by
            intro j hj
            have h1 := readN_get hrd hj
            unfold AHeap.cell at h1
            rw [addA_block, hview] at h1
            dsimp only at h1
            rw [show (addA a j).off = j by simp [addA, hoff]] at h1
            have h2 : olds[j]? = some (olds[j]'(by omega)) := List.getElem?_eq_getElem (by omega)
            rw [h2] at h1
            cases h3 : cs[j]? with
            | none => rw [h3] at h1; simp at h1
            | some u =>
              rw [h3] at h1
              dsimp only at h1
              split at h1
              · rw [h2]; exact h1
              · simp at h1
          have hmc : len * i.size ≤ cs.length := by
            rcases Nat.eq_zero_or_pos (len * i.size) with e0 | e0
            · omega
            · have h1 := hcs (len * i.size - 1) (by omega)
              rw [List.getElem?_eq_getElem (by omega : len * i.size - 1 < olds.length)] at h1
              have := (List.getElem?_eq_some_iff.1 h1).1
              omega
          have hnone : β.row a.block (g + 1) = none := by
            cases e0 : β.row a.block (g + 1) with
            | none => rfl
            | some p =>
              obtain ⟨_, _, hok⟩ := h.row _ _ p.1 p.2 _ e0 hview
              have : g + 1 ≤ g := hok.gen
              omega
          have hv2 : ∀ (HH : AHeap), HH = H.set a.block (.arr (cs.take (len * i.size) ++ xs) (st.take (len * i.size) ++ List.replicate xs.length (g + 1)) (g + 1) e' false) →
              HH.view a.block = some (grownRow cs xs st (len * i.size) g e') := by
            intro HH e0; subst e0; simp [AHeap.view, AHeap.set, AObj.view, grownRow]
          have hfreshH : ∀ j, H.next ≤ j → (H.set a.block (.arr (cs.take (len * i.size) ++ xs) (st.take (len * i.size) ++ List.replicate xs.length (g + 1)) (g + 1) e' false)).get j = none := by
            intro j hj
            have hlt := h.lt_of_get hg
            simp only [AHeap.set]
            rw [if_neg (by omega)]; exact h.fresh _ hj
          have hidM : β.map a.block = none := by
            cases e0 : β.map a.block with
            | none => rfl
            | some b => obtain ⟨es, he⟩ := h.domM _ _ e0; rw [hg] at he; simp at he
          have hothr : ∀ (b n2 es2 : Nat) (i2 : Nat), i2 ≠ a.block → ∀ k, (β.addRow a.block (g + 1) b n2 es2).row i2 k = β.row i2 k := by
            intro b n2 es2 i2 hi2 k; simp [Emb.addRow, hi2]
          have hget : ∀ j, j ≠ a.block → (H.set a.block (.arr (cs.take (len * i.size) ++ xs) (st.take (len * i.size) ++ List.replicate xs.length (g + 1)) (g + 1) e' false)).get j = H.get j := by
            intro j hj; simp [AHeap.set, hj]
          obtain ⟨d', cp', rfl, hd⟩ := hs.inv_slice
          have hidl : β.live a.block = true := by
            rcases hd with ⟨⟨b, o, hb, _⟩, _⟩ | ⟨_, _, _, e0⟩
            · exact h.liveR _ _ _ hb
            · exact e0
          have hidn := h.live _ hidl
          have hnx' : ∀ (b n2 es2 : Nat), (β.addRow a.block (g + 1) b n2 es2).nx = H.next := by
            intro b n2 es2
            show (if a.block < β.nx then β.nx else a.block + 1) = H.next
            rw [h.nx, if_pos hidn]
          have hliv : ∀ (b n2 es2 : Nat) (i2 : Nat), i2 ≠ a.block → (β.addRow a.block (g + 1) b n2 es2).live i2 = β.live i2 := by
            intro b n2 es2 i2 hi2; simp [Emb.addRow, hi2]
          by_cases hroom : len + (n + 1) ≤ cp'
          · -- there is room
            rcases hd with ⟨hA, hl1, hl2, hl3⟩ | ⟨_, _, e0, _⟩
            case inr => omega
            obtain ⟨b, o, hb, hdd⟩ := hA
            obtain ⟨cur, fz, hok⟩ := h.row _ _ _ _ _ hb hview
            obtain ⟨ho, hN, hfz⟩ := hok.own rfl
            subst ho; subst hfz
            rw [hoff] at hdd
            simp only [Nat.add_zero] at hdd
            subst hdd
            obtain ⟨i', hi', hbes⟩ := hok.elem rfl
            have hblk := hok.blk
            dsimp only at hi' hblk
            rw [hi] at hi'
            obtain rfl : i = i' := by simpa using hi'
            have hfit : len * i.size + xs'.length ≤ cur.size := by
              rcases Nat.eq_zero_or_pos i.size with hz0 | hz0
              · rw [hxl, hz0]; simp
              rw [hxl, ← Nat.add_mul, hok.size]
              refine Nat.le_trans (Nat.mul_le_mul_right _ hroom) ?_
              rw [hbes]; rw [hbes] at hz0; simpa using hl3 hz0
            have hr := run_append_room (P := P) w t ty e' i ht hi b len cp' cur hblk d (n + 1) c xs' hxl hcells hone hroom hfit
            have hnewsz : (cur.toList.take (len * i.size) ++ xs' ++ cur.toList.drop (len * i.size + xs'.length)).toArray.size = cur.size := by
              simp only [List.size_toArray, List.length_append, List.length_take, List.length_drop, Array.length_toList]
              omega
            have hnew0 : ∀ j, j < len * i.size → (cur.toList.take (len * i.size) ++ xs' ++ cur.toList.drop (len * i.size + xs'.length)).toArray[j]? = cur[j]? := by
              intro j hj
              simp only [List.getElem?_toArray]
              rw [List.append_assoc, List.getElem?_append_left (by simp; omega), List.getElem?_take_of_lt hj]
              simp
            have hnew1 : ∀ j, j < xs'.length → (cur.toList.take (len * i.size) ++ xs' ++ cur.toList.drop (len * i.size + xs'.length)).toArray[len * i.size + j]? = xs'[j]? := by
              intro j hj
              simp only [List.getElem?_toArray]
              have e1 : (cur.toList.take (len * i.size)).length = len * i.size := by simp; omega
              rw [List.append_assoc, List.getElem?_append_right (by omega), e1, Nat.add_sub_cancel_left, List.getElem?_append_left hj]
            generalize hnc : (cur.toList.take (len * i.size) ++ xs' ++ cur.toList.drop (len * i.size + xs'.length)).toArray = nc at hr hnewsz hnew0 hnew1
            have le : Emb.le β (β.addRow a.block (g + 1) b (β.bsz b) (β.bes b)) := HRel.addRow_le hnone (.inl hidl) (fun _ _ _ _ => ⟨rfl, rfl⟩)
            have hblk' : (w.setRow b nc).heap[b]? = some (.cells nc e' (0, 0)) := setRow_heap w b cur nc e' (0, 0) hblk
            have hblko : ∀ b', b' ≠ b → (w.setRow b nc).heap[b']? = w.heap[b']? := fun b' hb' => setRow_other w b b' nc hb'
            have hsize : (w.setRow b nc).heap.size = w.heap.size := by simp [World.setRow]
            refine ⟨_, _, _, hr, le, ?_, ?_, ⟨by rw [hsize]; exact Nat.le_refl _, fun b' hb' => hblko _ (fun e => hN (e ▸ hb')), rfl, rfl⟩⟩
            · refine h.change le.u a.block b (grownRow cs xs st (len * i.size) g e') hget (hv2 _ rfl) rfl hfreshH (grownRow_stle hstl hstle) hblko (hothr _ _ _) (fun _ => rfl) ?_ ?_ ?_ (by rw [hsize]; exact h.base) ?_ hidM (hnx' _ _ _) (Nat.le_refl _) (by simp [Emb.addRow]) (hliv _ _ _) hidn rfl (fun i2 b2 e0 => ⟨by rintro rfl; obtain ⟨_, _, _, _, h4, _⟩ := h.lp _ _ e0; rw [hblk] at h4; simp at h4, h.loop_ne e0 (.inr ⟨_, hview⟩)⟩)
              · intro i2 k2 b2 o2 hi2 h2 e0
                subst e0
                obtain ⟨r2, hr2⟩ := h.dom _ _ _ h2
                rcases h.inj _ _ _ _ _ _ _ _ _ h2 hb hr2 hview with e1 | ⟨_, e1⟩
                · exact hi2 e1
                · simp at e1
              · intro i2 b2 h2 e0
                subst e0
                obtain ⟨es2, hes2⟩ := h.domM _ _ h2
                obtain ⟨_, _, _, h3, _⟩ := h.map _ _ _ h2 hes2
                rw [hblk] at h3; simp at h3
              · intro k2 b2 o2 h2
                by_cases hk : k2 = g + 1
                · subst hk
                  have : b = b2 ∧ 0 = o2 := by simpa [Emb.addRow] using h2
                  obtain ⟨rfl, rfl⟩ := this
                  refine ⟨⟨nc, (0, 0), { blk := hblk', size := by rw [hnewsz, hok.size]; simp [Emb.addRow], elem := fun _ => ⟨i, hi, by simp [Emb.addRow, hbes]⟩, robes := fun e => by simp [grownRow] at e, cell := ?_, own := fun _ => ⟨rfl, hN, rfl⟩, gen := Nat.le_refl _ }⟩, .inl rfl⟩
                  intro j v hj _
                  rw [grownRow_cs hmc] at hj
                  rw [Nat.zero_add]
                  split at hj
                  · rename_i hjm
                    rw [hnew0 j hjm]
                    have h4 := readN_get hrd hjm
                    rw [← hcs j hjm, hj] at h4
                    unfold AHeap.cell at h4
                    rw [addA_block, hview] at h4
                    dsimp only at h4
                    rw [show (addA a j).off = j by simp [addA, hoff], hj] at h4
                    dsimp only at h4
                    split at h4
                    · rename_i hstj
                      obtain ⟨v', h5, h6⟩ := hok.cell j v hj hstj
                      rw [Nat.zero_add] at h5
                      exact ⟨v', h5, h6.mono le⟩
                    · simp at h4
                  · rename_i hjm
                    obtain ⟨v', h5, h6⟩ := VRels.get hxr hj
                    have h7 := hnew1 (j - len * i.size) (List.getElem?_eq_some_iff.1 h5).1
                    rw [show len * i.size + (j - len * i.size) = j by omega] at h7
                    exact ⟨v', by rw [h7]; exact h5, h6.mono le⟩
                · have h3 : β.row a.block k2 = some (b2, o2) := by simpa [Emb.addRow, hk] using h2
                  refine ⟨?_, .inr ⟨k2, o2, h3⟩⟩
                  obtain ⟨c2, fz2, hok2⟩ := h.row _ _ _ _ _ h3 hview
                  by_cases hbb : b2 = b
                  · subst hbb
                    have hb2 := hok2.blk
                    dsimp only at hb2
                    rw [hblk] at hb2
                    obtain ⟨rfl, rfl⟩ : cur = c2 ∧ (0, 0) = fz2 := by simpa using hb2
                    obtain ⟨ho2, _, _⟩ := hok2.own rfl
                    subst ho2
                    exact ⟨nc, (0, 0), hok2.elder le hstl hmc nc hblk' hnewsz (fun j hj => by rw [Nat.zero_add]; exact hnew0 j hj) (by simp [Emb.addRow]) (by simp [Emb.addRow])⟩
                  · exact ⟨c2, fz2, hok2.elder le hstl hmc c2 (by rw [hblko _ hbb]; exact hok2.blk) rfl (fun _ _ => rfl) (by simp [Emb.addRow, hbb]) (by simp [Emb.addRow, hbb])⟩
              · intro r2 hr2; rw [hview] at hr2; obtain rfl := (by simpa using hr2 : _ = r2); rfl
            · refine .slice ⟨b, 0, by simp [agen, Emb.addRow], by simp⟩ (Nat.le_refl _) hroom ?_
              simpa [Emb.addRow] using hl3
          · -- a new row
            have holds : ∃ olds', VRels β olds olds' ∧ olds'.length = len * i.size ∧ ∀ (j : Nat) (u : Value), olds'[j]? = some u → w.cell? (d'.add j) = some u := by
              rcases hd with ⟨hA, _⟩ | ⟨e0, _, _⟩
              · exact h.readN_run hA hrd
              · subst e0
                have : olds = [] := List.eq_nil_of_length_eq_zero (by rw [hol]; simp)
                subst this
                exact ⟨[], .nil, by simp, by simp⟩
            obtain ⟨olds', hor, hol', hoc⟩ := holds
            have hr := run_append_grow (P := P) w t ty e' i z ht hi hz d' len cp' olds' hol' hoc d (n + 1) c xs' hxl hcells (by omega) (by omega) (growslice_fits (by omega) hby)
            have hge := grownCap_ge w (len + (n + 1)) cp' e'
            generalize hgc : grownCap w (len + (n + 1)) cp' e' = gc at hr hge
            have hnewsz : (olds'.toArray ++ xs'.toArray ++ Builtin.zeroCells z.cells (gc - (len + (n + 1)))).size = gc * i.size := by
              simp only [Array.size_append, List.size_toArray, size_zeroCells, hzs, hxl, hol', ← Nat.add_mul]
              congr 1; omega
            have hnew0 : ∀ j, j < len * i.size → (olds'.toArray ++ xs'.toArray ++ Builtin.zeroCells z.cells (gc - (len + (n + 1))))[j]? = olds'[j]? := by
              intro j hj
              rw [Array.append_assoc, Array.getElem?_append_left (by simp; omega)]; simp
            have hnew1 : ∀ j, j < xs'.length → (olds'.toArray ++ xs'.toArray ++ Builtin.zeroCells z.cells (gc - (len + (n + 1))))[len * i.size + j]? = xs'[j]? := by
              intro j hj
              rw [Array.getElem?_append_left (by simp; omega), Array.getElem?_append_right (by simp; omega)]
              simp [hol']
            generalize hnc : olds'.toArray ++ xs'.toArray ++ Builtin.zeroCells z.cells (gc - (len + (n + 1))) = nc at hr hnewsz hnew0 hnew1
            have le : Emb.le β (β.addRow a.block (g + 1) w.heap.size nc.size i.size) := HRel.addRow_le hnone (.inl hidl) (fun i' k' o' e0 => absurd (h.rowblk_lt e0) (by omega))
            have hblk' : (w.drew.alloc (.cells nc e')).heap[w.heap.size]? = some (.cells nc e' (0, 0)) := by
              show (w.heap.push _)[w.heap.size]? = _; simp
            have hblko : ∀ b', b' ≠ w.heap.size → (w.drew.alloc (.cells nc e')).heap[b']? = w.heap[b']? := by
              intro b' hb'; show (w.heap.push _)[b']? = _; rw [Array.getElem?_push, if_neg hb']
            refine ⟨_, _, _, hr, le, ?_, ?_, ⟨by rw [World.size_alloc, World.size_drew]; omega, fun b' hb' => hblko _ (Nat.ne_of_lt (h.base _ hb')), rfl, rfl⟩⟩
            · refine h.change le.u a.block w.heap.size (grownRow cs xs st (len * i.size) g e') hget (hv2 _ rfl) rfl hfreshH (grownRow_stle hstl hstle) hblko (hothr _ _ _) (fun _ => rfl) ?_ ?_ ?_ (fun b' hb' => by rw [World.size_alloc, World.size_drew]; have := h.base b' hb'; omega) ?_ hidM (hnx' _ _ _) (Nat.le_refl _) (by simp [Emb.addRow]) (hliv _ _ _) hidn rfl (fun i2 b2 e0 => ⟨by have := h.loopblk_lt e0; omega, h.loop_ne e0 (.inr ⟨_, hview⟩)⟩)
              · intro i2 k2 b2 o2 _ h2; have := h.rowblk_lt h2; omega
              · intro i2 b2 h2; have := h.mapblk_lt h2; omega
              · intro k2 b2 o2 h2
                by_cases hk : k2 = g + 1
                · subst hk
                  have : w.heap.size = b2 ∧ 0 = o2 := by simpa [Emb.addRow] using h2
                  obtain ⟨rfl, rfl⟩ := this
                  refine ⟨⟨nc, (0, 0), { blk := hblk', size := by simp [Emb.addRow], elem := fun _ => ⟨i, hi, by simp [Emb.addRow]⟩, robes := fun e => by simp [grownRow] at e, cell := ?_, own := fun _ => ⟨rfl, fun hb => Nat.lt_irrefl _ (h.base _ hb), rfl⟩, gen := Nat.le_refl _ }⟩, .inl rfl⟩
                  intro j v hj _
                  rw [grownRow_cs hmc] at hj
                  rw [Nat.zero_add]
                  split at hj
                  · rename_i hjm
                    rw [hcs j hjm] at hj
                    obtain ⟨v', h5, h6⟩ := VRels.get hor hj
                    exact ⟨v', by rw [hnew0 j hjm]; exact h5, h6.mono le⟩
                  · rename_i hjm
                    obtain ⟨v', h5, h6⟩ := VRels.get hxr hj
                    have h7 := hnew1 (j - len * i.size) (List.getElem?_eq_some_iff.1 h5).1
                    rw [show len * i.size + (j - len * i.size) = j by omega] at h7
                    exact ⟨v', by rw [h7]; exact h5, h6.mono le⟩
                · have h3 : β.row a.block k2 = some (b2, o2) := by simpa [Emb.addRow, hk] using h2
                  refine ⟨?_, .inr ⟨k2, o2, h3⟩⟩
                  obtain ⟨c2, fz2, hok2⟩ := h.row _ _ _ _ _ h3 hview
                  have hbb : b2 ≠ w.heap.size := by have := h.rowblk_lt h3; omega
                  exact ⟨c2, fz2, hok2.elder le hstl hmc c2 (by rw [hblko _ hbb]; exact hok2.blk) rfl (fun _ _ => rfl) (by simp [Emb.addRow, hbb]) (by simp [Emb.addRow, hbb])⟩
              · intro r2 hr2; rw [hview] at hr2; obtain rfl := (by simpa using hr2 : _ = r2); rfl
            · refine .slice ⟨w.heap.size, 0, by simp [agen, Emb.addRow], by simp⟩ (Nat.le_refl _) hge fun _ => ?_
              simp [Emb.addRow, hnewsz]
      case _ => simp at ha
    · simp at ha
end

end B
end Go.Proofs.Ytnjoaffnfjlcaaa
