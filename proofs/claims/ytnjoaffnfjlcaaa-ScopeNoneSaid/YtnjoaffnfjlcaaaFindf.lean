/-
  scope.stack.find: the innermost of which something is true.
-/
import Derived.Test.YtnjoaffnfjlcaaaClos
import Derived.Test.YtnjoaffnfjlcaaaB37
namespace Go.Proofs.Ytnjoaffnfjlcaaa
open Go Go.Proofs B
set_option linter.unusedSimpArgs false
theorem zf56 : zeroOf Try.prog 56 = some (.map none) := by unfold zeroOf; rw [inf56]; rfl
theorem zf62 : zeroOf Try.prog 62 = some (.agg #[.string ⟨#[]⟩, .bool false, .int .i64 0]) := by unfold zeroOf; rw [inf62]; rfl
theorem zf4 : zeroOf Try.prog 4 = some (.bool false) := by unfold zeroOf; rw [inf4]; rfl


theorem find26 {ext : CallT} (hx : ∀ f args H, f ≠ 22 → ext f args H = none) {H : AHeap} (hf : H.Fresh) {b n : Nat} {bl tl ts nx : Value} {cells : List Value} (hb : H.get b = some (.box [bl, tl, ts, nx] 55)) (ho : Own H 56 1 bl n cells) (hn : n < 1000000)
    {val : Nat → Value} (hval : ∀ H2, Grown H H2 → ∀ i, i < n → H2.loadV Try.prog 56 (addA (baseOf bl) (i * 1)) = some (val i)) (hvc : ∀ i, i < n → (val i).cells.size = 1 ∧ (val i).cells.toList.all flatV = true ∧ (val i).cells = #[val i])
    {cf : FuncId} {caps : List Value} (hcf : enterB Try.prog cf = true) (p : Nat → Bool)
    (his : ∀ i H1, i < n → Grown H H1 → ∃ H2, theCall Try.prog ext cf (val i :: caps) H1 = some (.ret (.bool (p i)), H2) ∧ Grown H1 H2) :
    ∃ H', theCall Try.prog ext 26 [.pointer (some ⟨b, 0, none⟩), .func (.func cf) #[] caps.toArray] H = some (.ret (.tuple #[(match lastI p n with | some i => val i | none => .map none), .bool (lastI p n).isSome]), H') ∧ Grown H H' := by
  have c1 := ho.vcells
  have c2 := ho.flat
  obtain ⟨H1, e1⟩ : ∃ X, H.push (.box [.func (.func cf) #[] caps.toArray] 60) = X := ⟨_, rfl⟩
  have n1 : H1.next = H.next + 1 := by rw [← e1]; rfl
  have g1 : Grown H H1 := by rw [← e1]; exact Grown.push hf _
  have x1 : H1.get H.next = some (.box [.func (.func cf) #[] caps.toArray] 60) := by rw [← e1]; exact get_push_new
  obtain ⟨H2, e2⟩ : ∃ X, H1.push (.box [.map none] 56) = X := ⟨_, rfl⟩
  have n2 : H2.next = H.next + 2 := by rw [← e2, AHeap.push_next, n1]
  have g2 : Grown H1 H2 := by rw [← e2]; exact Grown.push g1.fresh _
  have x2 : H2.get (H.next + 1) = some (.box [.map none] 56) := by rw [← e2, ← n1]; exact get_push_new
  obtain ⟨H3, e3⟩ : ∃ X, H2.push (.box [.bool false] 4) = X := ⟨_, rfl⟩
  have n3 : H3.next = H.next + 3 := by rw [← e3, AHeap.push_next, n2]
  have g3 : Grown H2 H3 := by rw [← e3]; exact Grown.push g2.fresh _
  have x3 : H3.get (H.next + 2) = some (.box [.bool false] 4) := by rw [← e3, ← n2]; exact get_push_new
  have g03 : Grown H H3 := (g1.trans g2).trans g3
  have hb3 : H3.get b = some (.box [bl, tl, ts, nx] 55) := g03.has hf hb
  have ho3 : Own H3 56 1 bl n cells := g03.own hf ho
  have hbk := bk45 (ext := ext) hx ho3
  obtain ⟨H4, e4⟩ : ∃ X, H3.push (.box [bl] 48) = X := ⟨_, rfl⟩
  have n4 : H4.next = H.next + 4 := by rw [← e4, AHeap.push_next, n3]
  have g4 : Grown H3 H4 := by rw [← e4]; exact Grown.push g3.fresh _
  have x4 : H4.get (H.next + 3) = some (.box [bl] 48) := by rw [← e4, ← n3]; exact get_push_new
  rw [e4, n3] at hbk
  have y1 : H4.get H.next = some (.box [.func (.func cf) #[] caps.toArray] 60) := ((g2.trans g3).trans g4).has g1.fresh x1
  have y2 : H4.get (H.next + 1) = some (.box [.map none] 56) := (g3.trans g4).has g2.fresh x2
  have y3 : H4.get (H.next + 2) = some (.box [.bool false] 4) := g4.has g3.fresh x3
  have g04 : Grown H H4 := g03.trans g4
  refine theCall_goal (F := fun z => ∃ H', z = some (.ret (.tuple #[(match lastI p n with | some i => val i | none => .map none), .bool (lastI p n).isSome]), H') ∧ Grown H H') (hx _ _ _ (by decide)) Try.func26 (rs := [.cell 4 56, .cell 5 4]) rfl rfl rfl (by simp) fun tm hl hi => ?_
  replace hl : tm.length = 21 := hl
  have i0 := hi 0
  have i1 := hi 1
  simp only [List.getD_cons_zero, List.getD_cons_succ] at i0 i1
  simp (config := { decide := true }) only [theCode_seq, theCode_list, theCode_skip, theCode_ret, theCode_exit, theCode_label, theCode_block, theCode_if, evalList_plain, evalList_guard, evalList_nil, nd_move, nd_assign, nd_pick, nd_alloc, nd_box, nd_build, nd_buildSlice, nd_load, nd_store, nd_nilCheck, nd_binOp, nd_unOp, nd_convert, nd_makeInterface, nd_makeFunc, nd_makeMap, nd_slice, nd_fieldAddr, nd_field, nd_indexAddr, nd_index, nd_lookup, nd_mapUpdate, nd_typeAssert, nd_extract, nd_call, nd_panic,
    ok_tmp, ok_const, ok_func, cl_int, cl_bool, cl_string, cl_ptr, cl_map, cl_nilFunc, cl_nilIface, cl_slice, opA_move, opA_assign, opA_pick, opA_load, opA_store, opA_nilCheck, opA_fieldAddr, opA_extract, opA_bin, opA_un, opA_call, opA_call0, opA_build0, opA_len, opA_appendS, opA_makeMap, opA_indexAddr, opA_sliceHi, opA_sliceLo, opA_sliceLH, opA_lookup, opA_mapUpdate, opA_build, opA_box, opA_alloc, opA_makeFunc0, opA_makeFunc00,
    contA_val, contA_skip, contA_enter, contA_panic, contA_ite, callA_ret, callA_panic, callA_ite, putT_some, putT_none, aev_tmp, aev_const, aev_func, rd_same, rd_ne, List.length_set, valA_some, skipA_some, pairA_some,
    thenA_normal, thenA_ret, thenA_exit, thenA_panic, thenA_ite, inBlockA_normal, inBlockA_ret, inBlockA_exit, inBlockA_panic, inBlockA_ite, boolOf_bool, loadS_ptr, storeS_ptr, nilCheckS_ptr, nilCheckS_func, fieldAddrS_eq, extractS_tuple, un_not,
    bin_lss, bin_leq, bin_gtr, bin_geq, bin_eql, bin_neq, bin_add, bin_sub, bin_mul, bin_seql, bin_sneq, bin_ptr_eql, bin_ptr_neq, bin_nil_eql, bin_nil_neq, callS_plain, callS_func, lenS_slice, leaveR_ite, leaveR_ret, leaveR_normal, leaveR_panic, resA_tmp, resA_nil, yieldA_S, slotAt_succ, slotAt_zero, yieldS_some, List.getElem?_toArray, List.getElem?_cons_zero, List.getElem?_cons_succ, resA_cell, cellRes_ptr, Option.bind_some, theCode_rangeS, rangeS_cap, callS_cap, roundA_M, roundM_ready, roundB_N, roundB_R, roundB_E, roundN_none, roundN_some, rangeEnd_M, rangeM_ready, rangeM_ret, setAll_nil, setAll_cons, pack_one, pack_two, pack_none,
    Option.map_some, Option.isSome_some, ne_eq, not_false_eq_true, Nat.reduceEqDiff, Nat.reduceLT, if_true, if_false, Nat.reduceAdd, Nat.add_zero, Nat.zero_add, Option.some.injEq, decide_eq_true_eq, List.map_cons, List.map_nil, List.all_cons, List.all_nil, Bool.and_true, List.nil_append, List.append_nil, List.cons_append,
    hl, i0, i1, vc_func, fl_func, vc_bool, vc_map, vc_agg, info60, info56, info4, zf56, zf4, e1, e2, e3, n1, n2, n3, n4, off50_0, agg48, loadV_flat, cell_eq, hb3, cellO_box, en45, en47, hbk]
  have hf5 : ∀ o, (H4.push o).Fresh := fun o => (AHeap.le_push H4 o).fresh g4.fresh
  have hK5 : ∀ o, (H4.push o).get (H.next + 4) = some o := fun o => by rw [← n4]; exact get_push_new
  have n5 : ∀ o, (H4.push o).next = H.next + 5 := fun o => by rw [AHeap.push_next, n4]
  have hlow : ∀ o Y, Grown (H4.push o) Y → ∀ j x, H4.get j = some x → Y.get j = some x := fun o Y hY j x hx => by
    rw [hY.get j (by have := get_lt g4.fresh hx; rw [n5]; omega), get_push_old (by have := get_lt g4.fresh hx; omega)]; exact hx
  generalize hT : theCall Try.prog ext 47 _ _ = T
  let PX : AHeap → Prop := fun X => match lastI p n with
      | some i => (∃ t ps ac bd, X.get (H.next + 4) = some (.loop ⟨.done, some .ret, t, ps, ac, bd⟩)) ∧ X.get (H.next + 1) = some (.box (val i).cells.toList 56) ∧ X.get (H.next + 2) = some (.box [.bool true] 4) ∧ Grown H X
      | none => (∃ t ps ac bd, X.get (H.next + 4) = some (.loop ⟨.ready, none, t, ps, ac, bd⟩)) ∧ X.get (H.next + 1) = some (.box [.map none] 56) ∧ X.get (H.next + 2) = some (.box [.bool false] 4) ∧ Grown H X
  obtain ⟨X, rfl, hm⟩ : ∃ X, T = some (.ret (.tuple #[]), X) ∧ PX X := by
   rw [← hT]
   refine bw47 hx (F := fun z => ∃ X, z = some (.ret (.tuple #[]), X) ∧ PX X) (bl := bl) (cells := cells) hn (val := val) p (Grown (H4.push (.loop _)))
    (fun i X => (∃ t ps ac bd, X.get (H.next + 4) = some (.loop ⟨.done, some .ret, t, ps, ac, bd⟩)) ∧ X.get (H.next + 1) = some (.box (val i).cells.toList 56) ∧ X.get (H.next + 2) = some (.box [.bool true] 4) ∧ Grown H X)
    ?hJ ?hr (Grown.refl (hf5 _)) ?hF
   case hJ =>
    intro Y hY
    have hGY : Grown H Y := (g04.push2 _).trans hY
    exact ⟨hlow _ _ hY _ _ x4, hGY.own hf ho, ⟨_, hY.has (hf5 _) (hK5 _), rfl⟩, hval Y hGY⟩
   case hr =>
    intro i Y hi hY
    have hGY : Grown H Y := (g04.push2 _).trans hY
    have hK1 := hY.has (hf5 _) (hK5 _)
    have q1 := hlow _ _ hY _ _ y1
    have q2 := hlow _ _ hY _ _ y2
    have q3 := hlow _ _ hY _ _ y3
    have hYn : H.next + 5 ≤ Y.next := by have := hY.next; rw [n5] at this; exact this
    have hv1 := (hvc i hi).1
    have hv2 := (hvc i hi).2.1
    have hv3 := (hvc i hi).2.2
    have hcl : ∀ o, ∃ X, theCall Try.prog ext cf (val i :: caps) (Y.set (H.next + 4) o) = some (.ret (.bool (p i)), X) ∧ Grown (Y.set (H.next + 4) o) X := fun o => his i _ hi (hGY.set2 o hK1 (by omega))
    obtain ⟨G, hG1, hG2⟩ : ∃ G : AObj → AHeap, (∀ o, theCall Try.prog ext cf (val i :: caps) (Y.set (H.next + 4) o) = some (.ret (.bool (p i)), G o)) ∧ ∀ o, Grown (Y.set (H.next + 4) o) (G o) := ⟨fun o => (hcl o).choose, fun o => (hcl o).choose_spec.1, fun o => (hcl o).choose_spec.2⟩
    have lowG : ∀ o j x, j ≠ H.next + 4 → Y.get j = some x → (G o).get j = some x := fun o j x hj hx => by
      rw [(hG2 o).get j (by rw [AHeap.set_next]; exact get_lt hY.fresh hx), get_set_ne hj]; exact hx
    have r1 : ∀ o, (Y.set (H.next + 4) o).get H.next = some (.box [.func (.func cf) #[] caps.toArray] 60) := fun o => by rw [get_set_ne (by omega)]; exact q1
    have r2 : ∀ o, (G o).get (H.next + 4) = some o := fun o => by rw [(hG2 o).get _ (by rw [AHeap.set_next]; omega)]; exact get_set_same
    have r3 : ∀ o, (G o).get (H.next + 1) = some (.box [.map none] 56) := fun o => lowG o _ _ (by omega) q2
    have r4 : ∀ o x, ((G o).set (H.next + 1) x).get (H.next + 2) = some (.box [.bool false] 4) := fun o x => by rw [get_set_ne (by omega)]; exact lowG o _ _ (by omega) q3
    have r5 : ∀ o x y, (((G o).set (H.next + 1) x).set (H.next + 2) y).get (H.next + 4) = some o := fun o x y => by rw [get_set_ne (by omega), get_set_ne (by omega)]; exact r2 o
    have st1 : ∀ o, (G o).storeV Try.prog 56 ⟨H.next + 1, 0, none⟩ (val i) = some ((G o).set (H.next + 1) (.box (val i).cells.toList 56)) := fun o => storeV_box info56 (r3 o) (by rw [cells56]; rfl) (by rw [hv1]; rfl) hv2
    have st2 : ∀ o x, ((G o).set (H.next + 1) x).storeV Try.prog 4 ⟨H.next + 2, 0, none⟩ (.bool true) = some (((G o).set (H.next + 1) x).set (H.next + 2) (.box [.bool true] 4)) := fun o x => by
      rw [storeV_box info4 (r4 o x) (by rw [cells4]; rfl) (by rw [vc_bool]; rfl) (by rw [vc_bool]; rfl), vc_bool]
    cases hp : p i with
    | false =>
      left
      refine ⟨rfl, ?X1, ?h1, ?j1⟩
      case h1 =>
        rw [theCall_round (hx _ _ _ size_ne) hK1]
        simp (config := { decide := true }) only [theCode_seq, theCode_list, theCode_skip, theCode_ret, theCode_exit, theCode_label, theCode_block, theCode_if, evalList_plain, evalList_guard, evalList_nil, nd_move, nd_assign, nd_pick, nd_alloc, nd_box, nd_build, nd_buildSlice, nd_load, nd_store, nd_nilCheck, nd_binOp, nd_unOp, nd_convert, nd_makeInterface, nd_makeFunc, nd_makeMap, nd_slice, nd_fieldAddr, nd_field, nd_indexAddr, nd_index, nd_lookup, nd_mapUpdate, nd_typeAssert, nd_extract, nd_call, nd_panic,
    ok_tmp, ok_const, ok_func, cl_int, cl_bool, cl_string, cl_ptr, cl_map, cl_nilFunc, cl_nilIface, cl_slice, opA_move, opA_assign, opA_pick, opA_load, opA_store, opA_nilCheck, opA_fieldAddr, opA_extract, opA_bin, opA_un, opA_call, opA_call0, opA_build0, opA_len, opA_appendS, opA_makeMap, opA_indexAddr, opA_sliceHi, opA_sliceLo, opA_sliceLH, opA_lookup, opA_mapUpdate, opA_build, opA_box, opA_alloc, opA_makeFunc0, opA_makeFunc00,
    contA_val, contA_skip, contA_enter, contA_panic, contA_ite, callA_ret, callA_panic, callA_ite, putT_some, putT_none, aev_tmp, aev_const, aev_func, rd_same, rd_ne, List.length_set, valA_some, skipA_some, pairA_some,
    thenA_normal, thenA_ret, thenA_exit, thenA_panic, thenA_ite, inBlockA_normal, inBlockA_ret, inBlockA_exit, inBlockA_panic, inBlockA_ite, boolOf_bool, loadS_ptr, storeS_ptr, nilCheckS_ptr, nilCheckS_func, fieldAddrS_eq, extractS_tuple, un_not,
    bin_lss, bin_leq, bin_gtr, bin_geq, bin_eql, bin_neq, bin_add, bin_sub, bin_mul, bin_seql, bin_sneq, bin_ptr_eql, bin_ptr_neq, bin_nil_eql, bin_nil_neq, callS_plain, callS_func, lenS_slice, leaveR_ite, leaveR_ret, leaveR_normal, leaveR_panic, resA_tmp, resA_nil, yieldA_S, slotAt_succ, slotAt_zero, yieldS_some, List.getElem?_toArray, List.getElem?_cons_zero, List.getElem?_cons_succ, resA_cell, cellRes_ptr, Option.bind_some, theCode_rangeS, rangeS_cap, callS_cap, roundA_M, roundM_ready, roundB_N, roundB_R, roundB_E, roundN_none, roundN_some, rangeEnd_M, rangeM_ready, rangeM_ret, setAll_nil, setAll_cons, pack_one, pack_two, pack_none,
    Option.map_some, Option.isSome_some, ne_eq, not_false_eq_true, Nat.reduceEqDiff, Nat.reduceLT, if_true, if_false, Nat.reduceAdd, Nat.add_zero, Nat.zero_add, Option.some.injEq, decide_eq_true_eq, List.map_cons, List.map_nil, List.all_cons, List.all_nil, Bool.and_true, List.nil_append, List.append_nil, List.cons_append, List.toList_toArray, hl, hK1, agg60, loadV_flat, cell_eq, r1, cellO_box, hcf, hG1, hp, r2, Bool.false_eq_true]
        rfl
      case j1 => exact hY.back hK1 (hG2 _) (hK5 _) (by rw [n5]; omega)
    | true =>
      right
      refine ⟨rfl, ?X2, ?h2, ?j2⟩
      case h2 =>
        rw [theCall_round (hx _ _ _ size_ne) hK1]
        simp (config := { decide := true }) only [theCode_seq, theCode_list, theCode_skip, theCode_ret, theCode_exit, theCode_label, theCode_block, theCode_if, evalList_plain, evalList_guard, evalList_nil, nd_move, nd_assign, nd_pick, nd_alloc, nd_box, nd_build, nd_buildSlice, nd_load, nd_store, nd_nilCheck, nd_binOp, nd_unOp, nd_convert, nd_makeInterface, nd_makeFunc, nd_makeMap, nd_slice, nd_fieldAddr, nd_field, nd_indexAddr, nd_index, nd_lookup, nd_mapUpdate, nd_typeAssert, nd_extract, nd_call, nd_panic,
    ok_tmp, ok_const, ok_func, cl_int, cl_bool, cl_string, cl_ptr, cl_map, cl_nilFunc, cl_nilIface, cl_slice, opA_move, opA_assign, opA_pick, opA_load, opA_store, opA_nilCheck, opA_fieldAddr, opA_extract, opA_bin, opA_un, opA_call, opA_call0, opA_build0, opA_len, opA_appendS, opA_makeMap, opA_indexAddr, opA_sliceHi, opA_sliceLo, opA_sliceLH, opA_lookup, opA_mapUpdate, opA_build, opA_box, opA_alloc, opA_makeFunc0, opA_makeFunc00,
    contA_val, contA_skip, contA_enter, contA_panic, contA_ite, callA_ret, callA_panic, callA_ite, putT_some, putT_none, aev_tmp, aev_const, aev_func, rd_same, rd_ne, List.length_set, valA_some, skipA_some, pairA_some,
    thenA_normal, thenA_ret, thenA_exit, thenA_panic, thenA_ite, inBlockA_normal, inBlockA_ret, inBlockA_exit, inBlockA_panic, inBlockA_ite, boolOf_bool, loadS_ptr, storeS_ptr, nilCheckS_ptr, nilCheckS_func, fieldAddrS_eq, extractS_tuple, un_not,
    bin_lss, bin_leq, bin_gtr, bin_geq, bin_eql, bin_neq, bin_add, bin_sub, bin_mul, bin_seql, bin_sneq, bin_ptr_eql, bin_ptr_neq, bin_nil_eql, bin_nil_neq, callS_plain, callS_func, lenS_slice, leaveR_ite, leaveR_ret, leaveR_normal, leaveR_panic, resA_tmp, resA_nil, yieldA_S, slotAt_succ, slotAt_zero, yieldS_some, List.getElem?_toArray, List.getElem?_cons_zero, List.getElem?_cons_succ, resA_cell, cellRes_ptr, Option.bind_some, theCode_rangeS, rangeS_cap, callS_cap, roundA_M, roundM_ready, roundB_N, roundB_R, roundB_E, roundN_none, roundN_some, rangeEnd_M, rangeM_ready, rangeM_ret, setAll_nil, setAll_cons, pack_one, pack_two, pack_none,
    Option.map_some, Option.isSome_some, ne_eq, not_false_eq_true, Nat.reduceEqDiff, Nat.reduceLT, if_true, if_false, Nat.reduceAdd, Nat.add_zero, Nat.zero_add, Option.some.injEq, decide_eq_true_eq, List.map_cons, List.map_nil, List.all_cons, List.all_nil, Bool.and_true, List.nil_append, List.append_nil, List.cons_append, List.toList_toArray, hl, hK1, agg60, loadV_flat, cell_eq, r1, cellO_box, hcf, hG1, hp, r2, st1, st2, r5]
        rfl
      case j2 =>
        refine ⟨⟨_, _, _, _, get_set_same⟩, ?_, ?_, ?_⟩
        · rw [get_set_ne (by omega), get_set_ne (by omega)]; exact get_set_same
        · rw [get_set_ne (by omega)]; exact get_set_same
        · refine Grown.set2 (Grown.set2 (Grown.set2 ((hGY.set2 _ hK1 (by omega)).trans (hG2 _)) _ (r3 _) (by omega)) _ (r4 _ _) (by omega)) _ (r5 _ _ _) (by omega)
   case hF =>
    intro X hm
    refine ⟨X, rfl, ?_⟩
    show match lastI p n with
      | some i => (∃ t ps ac bd, X.get (H.next + 4) = some (.loop ⟨.done, some .ret, t, ps, ac, bd⟩)) ∧ X.get (H.next + 1) = some (.box (val i).cells.toList 56) ∧ X.get (H.next + 2) = some (.box [.bool true] 4) ∧ Grown H X
      | none => (∃ t ps ac bd, X.get (H.next + 4) = some (.loop ⟨.ready, none, t, ps, ac, bd⟩)) ∧ X.get (H.next + 1) = some (.box [.map none] 56) ∧ X.get (H.next + 2) = some (.box [.bool false] 4) ∧ Grown H X
    cases hq : lastI p n with
    | some i => rw [hq] at hm; exact hm
    | none =>
      rw [hq] at hm
      have hX : Grown (H4.push (.loop _)) X := hm
      exact ⟨⟨_, _, _, _, hX.has (hf5 _) (hK5 _)⟩, hlow _ _ hX _ _ y2, hlow _ _ hX _ _ y3, (g04.push2 _).trans hX⟩
  clear hT
  replace hm : match lastI p n with
      | some i => (∃ t ps ac bd, X.get (H.next + 4) = some (.loop ⟨.done, some .ret, t, ps, ac, bd⟩)) ∧ X.get (H.next + 1) = some (.box (val i).cells.toList 56) ∧ X.get (H.next + 2) = some (.box [.bool true] 4) ∧ Grown H X
      | none => (∃ t ps ac bd, X.get (H.next + 4) = some (.loop ⟨.ready, none, t, ps, ac, bd⟩)) ∧ X.get (H.next + 1) = some (.box [.map none] 56) ∧ X.get (H.next + 2) = some (.box [.bool false] 4) ∧ Grown H X := hm
  cases hq : lastI p n with
    | none =>
      rw [hq] at hm
      obtain ⟨⟨t, ps, ac, bd, hK1⟩, q2, q3, hGX⟩ := (hm : _ ∧ _ ∧ _ ∧ _)
      have r2 : ∀ o, (X.set (H.next + 4) o).get (H.next + 1) = some (.box [.map none] 56) := fun o => by rw [get_set_ne (by omega)]; exact q2
      have r3 : ∀ o x, ((X.set (H.next + 4) o).set (H.next + 1) x).get (H.next + 2) = some (.box [.bool false] 4) := fun o x => by rw [get_set_ne (by omega), get_set_ne (by omega)]; exact q3
      have r4 : ∀ o x y, (((X.set (H.next + 4) o).set (H.next + 1) x).set (H.next + 2) y).get (H.next + 1) = some x := fun o x y => by rw [get_set_ne (by omega)]; exact get_set_same
      refine ⟨?X3, ?h3, ?g3⟩
      case h3 =>
        simp (config := { decide := true }) only [theCode_seq, theCode_list, theCode_skip, theCode_ret, theCode_exit, theCode_label, theCode_block, theCode_if, evalList_plain, evalList_guard, evalList_nil, nd_move, nd_assign, nd_pick, nd_alloc, nd_box, nd_build, nd_buildSlice, nd_load, nd_store, nd_nilCheck, nd_binOp, nd_unOp, nd_convert, nd_makeInterface, nd_makeFunc, nd_makeMap, nd_slice, nd_fieldAddr, nd_field, nd_indexAddr, nd_index, nd_lookup, nd_mapUpdate, nd_typeAssert, nd_extract, nd_call, nd_panic,
    ok_tmp, ok_const, ok_func, cl_int, cl_bool, cl_string, cl_ptr, cl_map, cl_nilFunc, cl_nilIface, cl_slice, opA_move, opA_assign, opA_pick, opA_load, opA_store, opA_nilCheck, opA_fieldAddr, opA_extract, opA_bin, opA_un, opA_call, opA_call0, opA_build0, opA_len, opA_appendS, opA_makeMap, opA_indexAddr, opA_sliceHi, opA_sliceLo, opA_sliceLH, opA_lookup, opA_mapUpdate, opA_build, opA_box, opA_alloc, opA_makeFunc0, opA_makeFunc00,
    contA_val, contA_skip, contA_enter, contA_panic, contA_ite, callA_ret, callA_panic, callA_ite, putT_some, putT_none, aev_tmp, aev_const, aev_func, rd_same, rd_ne, List.length_set, valA_some, skipA_some, pairA_some,
    thenA_normal, thenA_ret, thenA_exit, thenA_panic, thenA_ite, inBlockA_normal, inBlockA_ret, inBlockA_exit, inBlockA_panic, inBlockA_ite, boolOf_bool, loadS_ptr, storeS_ptr, nilCheckS_ptr, nilCheckS_func, fieldAddrS_eq, extractS_tuple, un_not,
    bin_lss, bin_leq, bin_gtr, bin_geq, bin_eql, bin_neq, bin_add, bin_sub, bin_mul, bin_seql, bin_sneq, bin_ptr_eql, bin_ptr_neq, bin_nil_eql, bin_nil_neq, callS_plain, callS_func, lenS_slice, leaveR_ite, leaveR_ret, leaveR_normal, leaveR_panic, resA_tmp, resA_nil, yieldA_S, slotAt_succ, slotAt_zero, yieldS_some, List.getElem?_toArray, List.getElem?_cons_zero, List.getElem?_cons_succ, resA_cell, cellRes_ptr, Option.bind_some, theCode_rangeS, rangeS_cap, callS_cap, roundA_M, roundM_ready, roundB_N, roundB_R, roundB_E, roundN_none, roundN_some, rangeEnd_M, rangeM_ready, rangeM_ret, setAll_nil, setAll_cons, pack_one, pack_two, pack_none,
    Option.map_some, Option.isSome_some, ne_eq, not_false_eq_true, Nat.reduceEqDiff, Nat.reduceLT, if_true, if_false, Nat.reduceAdd, Nat.add_zero, Nat.zero_add, Option.some.injEq, decide_eq_true_eq, List.map_cons, List.map_nil, List.all_cons, List.all_nil, Bool.and_true, List.nil_append, List.append_nil, List.cons_append, hl, hK1, storeV_flat, setCell_eq, r2, r3, r4, setCellO_box, vc_map, fl_map, vc_bool, fl_bool, info56, info4, cells56, cells4, Option.getD_none, List.set_cons_zero, get_set_same, agg56, agg4, loadV_flat, cell_eq, cellO_box]
        rfl
      case g3 => exact Grown.set2 (Grown.set2 (Grown.set2 hGX _ hK1 (by omega)) _ (r2 _) (by omega)) _ (r3 _ _) (by omega)
    | some i =>
      rw [hq] at hm
      obtain ⟨⟨t, ps, ac, bd, hK1⟩, q2, q3, hGX⟩ := (hm : _ ∧ _ ∧ _ ∧ _)
      obtain ⟨hin, _, _⟩ := lastI_some hq
      have hv3 := (hvc i hin).2.2
      have r2 : ∀ o, (X.set (H.next + 4) o).get (H.next + 1) = some (.box (val i).cells.toList 56) := fun o => by rw [get_set_ne (by omega)]; exact q2
      have r3 : ∀ o, (X.set (H.next + 4) o).get (H.next + 2) = some (.box [.bool true] 4) := fun o => by rw [get_set_ne (by omega)]; exact q3
      refine ⟨?X4, ?h4, ?g4⟩
      case h4 =>
        simp (config := { decide := true }) only [theCode_seq, theCode_list, theCode_skip, theCode_ret, theCode_exit, theCode_label, theCode_block, theCode_if, evalList_plain, evalList_guard, evalList_nil, nd_move, nd_assign, nd_pick, nd_alloc, nd_box, nd_build, nd_buildSlice, nd_load, nd_store, nd_nilCheck, nd_binOp, nd_unOp, nd_convert, nd_makeInterface, nd_makeFunc, nd_makeMap, nd_slice, nd_fieldAddr, nd_field, nd_indexAddr, nd_index, nd_lookup, nd_mapUpdate, nd_typeAssert, nd_extract, nd_call, nd_panic,
    ok_tmp, ok_const, ok_func, cl_int, cl_bool, cl_string, cl_ptr, cl_map, cl_nilFunc, cl_nilIface, cl_slice, opA_move, opA_assign, opA_pick, opA_load, opA_store, opA_nilCheck, opA_fieldAddr, opA_extract, opA_bin, opA_un, opA_call, opA_call0, opA_build0, opA_len, opA_appendS, opA_makeMap, opA_indexAddr, opA_sliceHi, opA_sliceLo, opA_sliceLH, opA_lookup, opA_mapUpdate, opA_build, opA_box, opA_alloc, opA_makeFunc0, opA_makeFunc00,
    contA_val, contA_skip, contA_enter, contA_panic, contA_ite, callA_ret, callA_panic, callA_ite, putT_some, putT_none, aev_tmp, aev_const, aev_func, rd_same, rd_ne, List.length_set, valA_some, skipA_some, pairA_some,
    thenA_normal, thenA_ret, thenA_exit, thenA_panic, thenA_ite, inBlockA_normal, inBlockA_ret, inBlockA_exit, inBlockA_panic, inBlockA_ite, boolOf_bool, loadS_ptr, storeS_ptr, nilCheckS_ptr, nilCheckS_func, fieldAddrS_eq, extractS_tuple, un_not,
    bin_lss, bin_leq, bin_gtr, bin_geq, bin_eql, bin_neq, bin_add, bin_sub, bin_mul, bin_seql, bin_sneq, bin_ptr_eql, bin_ptr_neq, bin_nil_eql, bin_nil_neq, callS_plain, callS_func, lenS_slice, leaveR_ite, leaveR_ret, leaveR_normal, leaveR_panic, resA_tmp, resA_nil, yieldA_S, slotAt_succ, slotAt_zero, yieldS_some, List.getElem?_toArray, List.getElem?_cons_zero, List.getElem?_cons_succ, resA_cell, cellRes_ptr, Option.bind_some, theCode_rangeS, rangeS_cap, callS_cap, roundA_M, roundM_ready, roundB_N, roundB_R, roundB_E, roundN_none, roundN_some, rangeEnd_M, rangeM_ready, rangeM_ret, setAll_nil, setAll_cons, pack_one, pack_two, pack_none,
    Option.map_some, Option.isSome_some, ne_eq, not_false_eq_true, Nat.reduceEqDiff, Nat.reduceLT, if_true, if_false, Nat.reduceAdd, Nat.add_zero, Nat.zero_add, Option.some.injEq, decide_eq_true_eq, List.map_cons, List.map_nil, List.all_cons, List.all_nil, Bool.and_true, List.nil_append, List.append_nil, List.cons_append, hl, hK1, r2, r3, hv3, List.toList_toArray, agg56, agg4, loadV_flat, cell_eq, cellO_box]
        rfl
      case g4 => exact Grown.set2 hGX _ hK1 (by omega)


theorem find28 {ext : CallT} (hx : ∀ f args H, f ≠ 22 → ext f args H = none) {H : AHeap} (hf : H.Fresh) {b n : Nat} {bl tl ts nx : Value} {cells : List Value} (hb : H.get b = some (.box [bl, tl, ts, nx] 55)) (ho : Own H 62 3 tl n cells) (hn : n < 1000000)
    {val : Nat → Value} (hval : ∀ H2, Grown H H2 → ∀ i, i < n → H2.loadV Try.prog 62 (addA (baseOf tl) (i * 3)) = some (val i)) (hvc : ∀ i, i < n → (val i).cells.size = 3 ∧ (val i).cells.toList.all flatV = true ∧ (.agg (val i).cells.toList.toArray : Value) = val i)
    {cf : FuncId} {caps : List Value} (hcf : enterB Try.prog cf = true) (p : Nat → Bool)
    (his : ∀ i H1, i < n → Grown H H1 → ∃ H2, theCall Try.prog ext cf (val i :: caps) H1 = some (.ret (.bool (p i)), H2) ∧ Grown H1 H2) :
    ∃ H', theCall Try.prog ext 28 [.pointer (some ⟨b, 1, none⟩), .func (.func cf) #[] caps.toArray] H = some (.ret (.tuple #[(match lastI p n with | some i => val i | none => .agg #[.string ⟨#[]⟩, .bool false, .int .i64 0]), .bool (lastI p n).isSome]), H') ∧ Grown H H' := by
  have c1 := ho.vcells
  have c2 := ho.flat
  obtain ⟨H1, e1⟩ : ∃ X, H.push (.box [.func (.func cf) #[] caps.toArray] 65) = X := ⟨_, rfl⟩
  have n1 : H1.next = H.next + 1 := by rw [← e1]; rfl
  have g1 : Grown H H1 := by rw [← e1]; exact Grown.push hf _
  have x1 : H1.get H.next = some (.box [.func (.func cf) #[] caps.toArray] 65) := by rw [← e1]; exact get_push_new
  obtain ⟨H2, e2⟩ : ∃ X, H1.push (.box [.string ⟨#[]⟩, .bool false, .int .i64 0] 62) = X := ⟨_, rfl⟩
  have n2 : H2.next = H.next + 2 := by rw [← e2, AHeap.push_next, n1]
  have g2 : Grown H1 H2 := by rw [← e2]; exact Grown.push g1.fresh _
  have x2 : H2.get (H.next + 1) = some (.box [.string ⟨#[]⟩, .bool false, .int .i64 0] 62) := by rw [← e2, ← n1]; exact get_push_new
  obtain ⟨H3, e3⟩ : ∃ X, H2.push (.box [.bool false] 4) = X := ⟨_, rfl⟩
  have n3 : H3.next = H.next + 3 := by rw [← e3, AHeap.push_next, n2]
  have g3 : Grown H2 H3 := by rw [← e3]; exact Grown.push g2.fresh _
  have x3 : H3.get (H.next + 2) = some (.box [.bool false] 4) := by rw [← e3, ← n2]; exact get_push_new
  have g03 : Grown H H3 := (g1.trans g2).trans g3
  have hb3 : H3.get b = some (.box [bl, tl, ts, nx] 55) := g03.has hf hb
  have ho3 : Own H3 62 3 tl n cells := g03.own hf ho
  have hbk := bk46 (ext := ext) hx ho3
  obtain ⟨H4, e4⟩ : ∃ X, H3.push (.box [tl] 51) = X := ⟨_, rfl⟩
  have n4 : H4.next = H.next + 4 := by rw [← e4, AHeap.push_next, n3]
  have g4 : Grown H3 H4 := by rw [← e4]; exact Grown.push g3.fresh _
  have x4 : H4.get (H.next + 3) = some (.box [tl] 51) := by rw [← e4, ← n3]; exact get_push_new
  rw [e4, n3] at hbk
  have y1 : H4.get H.next = some (.box [.func (.func cf) #[] caps.toArray] 65) := ((g2.trans g3).trans g4).has g1.fresh x1
  have y2 : H4.get (H.next + 1) = some (.box [.string ⟨#[]⟩, .bool false, .int .i64 0] 62) := (g3.trans g4).has g2.fresh x2
  have y3 : H4.get (H.next + 2) = some (.box [.bool false] 4) := g4.has g3.fresh x3
  have g04 : Grown H H4 := g03.trans g4
  refine theCall_goal (F := fun z => ∃ H', z = some (.ret (.tuple #[(match lastI p n with | some i => val i | none => .agg #[.string ⟨#[]⟩, .bool false, .int .i64 0]), .bool (lastI p n).isSome]), H') ∧ Grown H H') (hx _ _ _ (by decide)) Try.func28 (rs := [.cell 4 62, .cell 5 4]) rfl rfl rfl (by simp) fun tm hl hi => ?_
  replace hl : tm.length = 21 := hl
  have i0 := hi 0
  have i1 := hi 1
  simp only [List.getD_cons_zero, List.getD_cons_succ] at i0 i1
  simp (config := { decide := true }) only [theCode_seq, theCode_list, theCode_skip, theCode_ret, theCode_exit, theCode_label, theCode_block, theCode_if, evalList_plain, evalList_guard, evalList_nil, nd_move, nd_assign, nd_pick, nd_alloc, nd_box, nd_build, nd_buildSlice, nd_load, nd_store, nd_nilCheck, nd_binOp, nd_unOp, nd_convert, nd_makeInterface, nd_makeFunc, nd_makeMap, nd_slice, nd_fieldAddr, nd_field, nd_indexAddr, nd_index, nd_lookup, nd_mapUpdate, nd_typeAssert, nd_extract, nd_call, nd_panic,
    ok_tmp, ok_const, ok_func, cl_int, cl_bool, cl_string, cl_ptr, cl_map, cl_nilFunc, cl_nilIface, cl_slice, opA_move, opA_assign, opA_pick, opA_load, opA_store, opA_nilCheck, opA_fieldAddr, opA_extract, opA_bin, opA_un, opA_call, opA_call0, opA_build0, opA_len, opA_appendS, opA_makeMap, opA_indexAddr, opA_sliceHi, opA_sliceLo, opA_sliceLH, opA_lookup, opA_mapUpdate, opA_build, opA_box, opA_alloc, opA_makeFunc0, opA_makeFunc00,
    contA_val, contA_skip, contA_enter, contA_panic, contA_ite, callA_ret, callA_panic, callA_ite, putT_some, putT_none, aev_tmp, aev_const, aev_func, rd_same, rd_ne, List.length_set, valA_some, skipA_some, pairA_some,
    thenA_normal, thenA_ret, thenA_exit, thenA_panic, thenA_ite, inBlockA_normal, inBlockA_ret, inBlockA_exit, inBlockA_panic, inBlockA_ite, boolOf_bool, loadS_ptr, storeS_ptr, nilCheckS_ptr, nilCheckS_func, fieldAddrS_eq, extractS_tuple, un_not,
    bin_lss, bin_leq, bin_gtr, bin_geq, bin_eql, bin_neq, bin_add, bin_sub, bin_mul, bin_seql, bin_sneq, bin_ptr_eql, bin_ptr_neq, bin_nil_eql, bin_nil_neq, callS_plain, callS_func, lenS_slice, leaveR_ite, leaveR_ret, leaveR_normal, leaveR_panic, resA_tmp, resA_nil, yieldA_S, slotAt_succ, slotAt_zero, yieldS_some, List.getElem?_toArray, List.getElem?_cons_zero, List.getElem?_cons_succ, resA_cell, cellRes_ptr, Option.bind_some, theCode_rangeS, rangeS_cap, callS_cap, roundA_M, roundM_ready, roundB_N, roundB_R, roundB_E, roundN_none, roundN_some, rangeEnd_M, rangeM_ready, rangeM_ret, setAll_nil, setAll_cons, pack_one, pack_two, pack_none,
    Option.map_some, Option.isSome_some, ne_eq, not_false_eq_true, Nat.reduceEqDiff, Nat.reduceLT, if_true, if_false, Nat.reduceAdd, Nat.add_zero, Nat.zero_add, Option.some.injEq, decide_eq_true_eq, List.map_cons, List.map_nil, List.all_cons, List.all_nil, Bool.and_true, List.nil_append, List.append_nil, List.cons_append,
    hl, i0, i1, vc_func, fl_func, vc_bool, vc_map, vc_agg, info65, info62, info4, zf62, zf4, e1, e2, e3, n1, n2, n3, n4, off53_0, agg51, loadV_flat, cell_eq, hb3, cellO_box, en46, en48, hbk]
  have hf5 : ∀ o, (H4.push o).Fresh := fun o => (AHeap.le_push H4 o).fresh g4.fresh
  have hK5 : ∀ o, (H4.push o).get (H.next + 4) = some o := fun o => by rw [← n4]; exact get_push_new
  have n5 : ∀ o, (H4.push o).next = H.next + 5 := fun o => by rw [AHeap.push_next, n4]
  have hlow : ∀ o Y, Grown (H4.push o) Y → ∀ j x, H4.get j = some x → Y.get j = some x := fun o Y hY j x hx => by
    rw [hY.get j (by have := get_lt g4.fresh hx; rw [n5]; omega), get_push_old (by have := get_lt g4.fresh hx; omega)]; exact hx
  generalize hT : theCall Try.prog ext 48 _ _ = T
  let PX : AHeap → Prop := fun X => match lastI p n with
      | some i => (∃ t ps ac bd, X.get (H.next + 4) = some (.loop ⟨.done, some .ret, t, ps, ac, bd⟩)) ∧ X.get (H.next + 1) = some (.box (val i).cells.toList 62) ∧ X.get (H.next + 2) = some (.box [.bool true] 4) ∧ Grown H X
      | none => (∃ t ps ac bd, X.get (H.next + 4) = some (.loop ⟨.ready, none, t, ps, ac, bd⟩)) ∧ X.get (H.next + 1) = some (.box [.string ⟨#[]⟩, .bool false, .int .i64 0] 62) ∧ X.get (H.next + 2) = some (.box [.bool false] 4) ∧ Grown H X
  obtain ⟨X, rfl, hm⟩ : ∃ X, T = some (.ret (.tuple #[]), X) ∧ PX X := by
   rw [← hT]
   refine bw48 hx (F := fun z => ∃ X, z = some (.ret (.tuple #[]), X) ∧ PX X) (bl := tl) (cells := cells) hn (val := val) p (Grown (H4.push (.loop _)))
    (fun i X => (∃ t ps ac bd, X.get (H.next + 4) = some (.loop ⟨.done, some .ret, t, ps, ac, bd⟩)) ∧ X.get (H.next + 1) = some (.box (val i).cells.toList 62) ∧ X.get (H.next + 2) = some (.box [.bool true] 4) ∧ Grown H X)
    ?hJ ?hr (Grown.refl (hf5 _)) ?hF
   case hJ =>
    intro Y hY
    have hGY : Grown H Y := (g04.push2 _).trans hY
    exact ⟨hlow _ _ hY _ _ x4, hGY.own hf ho, ⟨_, hY.has (hf5 _) (hK5 _), rfl⟩, hval Y hGY⟩
   case hr =>
    intro i Y hi hY
    have hGY : Grown H Y := (g04.push2 _).trans hY
    have hK1 := hY.has (hf5 _) (hK5 _)
    have q1 := hlow _ _ hY _ _ y1
    have q2 := hlow _ _ hY _ _ y2
    have q3 := hlow _ _ hY _ _ y3
    have hYn : H.next + 5 ≤ Y.next := by have := hY.next; rw [n5] at this; exact this
    have hv1 := (hvc i hi).1
    have hv2 := (hvc i hi).2.1
    have hv3 := (hvc i hi).2.2
    obtain ⟨Z, eZ⟩ : ∃ Z, (Y.push (.box [.string ⟨#[]⟩, .bool false, .int .i64 0] 62)).set Y.next (.box (val i).cells.toList 62) = Z := ⟨_, rfl⟩
    have gZ : Grown Y Z := by rw [← eZ]; exact (Grown.push hY.fresh _).set2 _ get_push_new (Nat.le_refl _)
    have zY : Z.get Y.next = some (.box (val i).cells.toList 62) := by rw [← eZ]; exact get_set_same
    have zN : Z.next = Y.next + 1 := by rw [← eZ]; rfl
    have st0 : (Y.push (.box [.string ⟨#[]⟩, .bool false, .int .i64 0] 62)).storeV Try.prog 62 ⟨Y.next, 0, none⟩ (val i) = some Z := by
      rw [storeV_box info62 get_push_new (by rw [cells62]; rfl) (by rw [hv1]; rfl) hv2, eZ]
    have hK2 := gZ.has hY.fresh hK1
    have hcl : ∀ o, ∃ X, theCall Try.prog ext cf (val i :: caps) (Z.set (H.next + 4) o) = some (.ret (.bool (p i)), X) ∧ Grown (Z.set (H.next + 4) o) X := fun o => his i _ hi ((hGY.trans gZ).set2 o hK2 (by omega))
    obtain ⟨G, hG1, hG2⟩ : ∃ G : AObj → AHeap, (∀ o, theCall Try.prog ext cf (val i :: caps) (Z.set (H.next + 4) o) = some (.ret (.bool (p i)), G o)) ∧ ∀ o, Grown (Z.set (H.next + 4) o) (G o) := ⟨fun o => (hcl o).choose, fun o => (hcl o).choose_spec.1, fun o => (hcl o).choose_spec.2⟩
    have lowG : ∀ o j x, j ≠ H.next + 4 → Z.get j = some x → (G o).get j = some x := fun o j x hj hx => by
      rw [(hG2 o).get j (by rw [AHeap.set_next]; exact get_lt gZ.fresh hx), get_set_ne hj]; exact hx
    have lowY : ∀ j x, Y.get j = some x → Z.get j = some x := fun j x hx => gZ.has hY.fresh hx
    have r1 : ∀ o, (Z.set (H.next + 4) o).get H.next = some (.box [.func (.func cf) #[] caps.toArray] 65) := fun o => by rw [get_set_ne (by omega)]; exact lowY _ _ q1
    have r2 : ∀ o, (G o).get (H.next + 4) = some o := fun o => by rw [(hG2 o).get _ (by rw [AHeap.set_next]; omega)]; exact get_set_same
    have r3 : ∀ o, (G o).get (H.next + 1) = some (.box [.string ⟨#[]⟩, .bool false, .int .i64 0] 62) := fun o => lowG o _ _ (by omega) (lowY _ _ q2)
    have r4 : ∀ o x, ((G o).set (H.next + 1) x).get (H.next + 2) = some (.box [.bool false] 4) := fun o x => by rw [get_set_ne (by omega)]; exact lowG o _ _ (by omega) (lowY _ _ q3)
    have r5 : ∀ o x y, (((G o).set (H.next + 1) x).set (H.next + 2) y).get (H.next + 4) = some o := fun o x y => by rw [get_set_ne (by omega), get_set_ne (by omega)]; exact r2 o
    have ld1 : ∀ o, (Z.set (H.next + 4) o).loadV Try.prog 62 ⟨Y.next, 0, none⟩ = some (val i) := fun o => by
      rw [loadV_box agg62 info62 (by rw [get_set_ne (by omega)]; exact zY) (by rw [cells62]; simp [hv1]), hv3]
    have ld2 : ∀ o, (G o).loadV Try.prog 62 ⟨Y.next, 0, none⟩ = some (val i) := fun o => by
      rw [loadV_box agg62 info62 (lowG o _ _ (by omega) zY) (by rw [cells62]; simp [hv1]), hv3]
    have st1 : ∀ o, (G o).storeV Try.prog 62 ⟨H.next + 1, 0, none⟩ (val i) = some ((G o).set (H.next + 1) (.box (val i).cells.toList 62)) := fun o => storeV_box info62 (r3 o) (by rw [cells62]; rfl) (by rw [hv1]; rfl) hv2
    have st2 : ∀ o x, ((G o).set (H.next + 1) x).storeV Try.prog 4 ⟨H.next + 2, 0, none⟩ (.bool true) = some (((G o).set (H.next + 1) x).set (H.next + 2) (.box [.bool true] 4)) := fun o x => by
      rw [storeV_box info4 (r4 o x) (by rw [cells4]; rfl) (by rw [vc_bool]; rfl) (by rw [vc_bool]; rfl), vc_bool]
    cases hp : p i with
    | false =>
      left
      refine ⟨rfl, ?X1, ?h1, ?j1⟩
      case h1 =>
        rw [theCall_round (hx _ _ _ size_ne) hK1]
        simp (config := { decide := true }) only [theCode_seq, theCode_list, theCode_skip, theCode_ret, theCode_exit, theCode_label, theCode_block, theCode_if, evalList_plain, evalList_guard, evalList_nil, nd_move, nd_assign, nd_pick, nd_alloc, nd_box, nd_build, nd_buildSlice, nd_load, nd_store, nd_nilCheck, nd_binOp, nd_unOp, nd_convert, nd_makeInterface, nd_makeFunc, nd_makeMap, nd_slice, nd_fieldAddr, nd_field, nd_indexAddr, nd_index, nd_lookup, nd_mapUpdate, nd_typeAssert, nd_extract, nd_call, nd_panic,
    ok_tmp, ok_const, ok_func, cl_int, cl_bool, cl_string, cl_ptr, cl_map, cl_nilFunc, cl_nilIface, cl_slice, opA_move, opA_assign, opA_pick, opA_load, opA_store, opA_nilCheck, opA_fieldAddr, opA_extract, opA_bin, opA_un, opA_call, opA_call0, opA_build0, opA_len, opA_appendS, opA_makeMap, opA_indexAddr, opA_sliceHi, opA_sliceLo, opA_sliceLH, opA_lookup, opA_mapUpdate, opA_build, opA_box, opA_alloc, opA_makeFunc0, opA_makeFunc00,
    contA_val, contA_skip, contA_enter, contA_panic, contA_ite, callA_ret, callA_panic, callA_ite, putT_some, putT_none, aev_tmp, aev_const, aev_func, rd_same, rd_ne, List.length_set, valA_some, skipA_some, pairA_some,
    thenA_normal, thenA_ret, thenA_exit, thenA_panic, thenA_ite, inBlockA_normal, inBlockA_ret, inBlockA_exit, inBlockA_panic, inBlockA_ite, boolOf_bool, loadS_ptr, storeS_ptr, nilCheckS_ptr, nilCheckS_func, fieldAddrS_eq, extractS_tuple, un_not,
    bin_lss, bin_leq, bin_gtr, bin_geq, bin_eql, bin_neq, bin_add, bin_sub, bin_mul, bin_seql, bin_sneq, bin_ptr_eql, bin_ptr_neq, bin_nil_eql, bin_nil_neq, callS_plain, callS_func, lenS_slice, leaveR_ite, leaveR_ret, leaveR_normal, leaveR_panic, resA_tmp, resA_nil, yieldA_S, slotAt_succ, slotAt_zero, yieldS_some, List.getElem?_toArray, List.getElem?_cons_zero, List.getElem?_cons_succ, resA_cell, cellRes_ptr, Option.bind_some, theCode_rangeS, rangeS_cap, callS_cap, roundA_M, roundM_ready, roundB_N, roundB_R, roundB_E, roundN_none, roundN_some, rangeEnd_M, rangeM_ready, rangeM_ret, setAll_nil, setAll_cons, pack_one, pack_two, pack_none,
    Option.map_some, Option.isSome_some, ne_eq, not_false_eq_true, Nat.reduceEqDiff, Nat.reduceLT, if_true, if_false, Nat.reduceAdd, Nat.add_zero, Nat.zero_add, Option.some.injEq, decide_eq_true_eq, List.map_cons, List.map_nil, List.all_cons, List.all_nil, Bool.and_true, List.nil_append, List.append_nil, List.cons_append, List.toList_toArray, hl, hK2, zf62, vc_agg, st0, agg65, loadV_flat, cell_eq, r1, cellO_box, ld1, hcf, hG1, hp, r2, Bool.false_eq_true]
        rfl
      case j1 => exact (hY.trans gZ).back hK2 (hG2 _) (hK5 _) (by rw [n5]; omega)
    | true =>
      right
      refine ⟨rfl, ?X2, ?h2, ?j2⟩
      case h2 =>
        rw [theCall_round (hx _ _ _ size_ne) hK1]
        simp (config := { decide := true }) only [theCode_seq, theCode_list, theCode_skip, theCode_ret, theCode_exit, theCode_label, theCode_block, theCode_if, evalList_plain, evalList_guard, evalList_nil, nd_move, nd_assign, nd_pick, nd_alloc, nd_box, nd_build, nd_buildSlice, nd_load, nd_store, nd_nilCheck, nd_binOp, nd_unOp, nd_convert, nd_makeInterface, nd_makeFunc, nd_makeMap, nd_slice, nd_fieldAddr, nd_field, nd_indexAddr, nd_index, nd_lookup, nd_mapUpdate, nd_typeAssert, nd_extract, nd_call, nd_panic,
    ok_tmp, ok_const, ok_func, cl_int, cl_bool, cl_string, cl_ptr, cl_map, cl_nilFunc, cl_nilIface, cl_slice, opA_move, opA_assign, opA_pick, opA_load, opA_store, opA_nilCheck, opA_fieldAddr, opA_extract, opA_bin, opA_un, opA_call, opA_call0, opA_build0, opA_len, opA_appendS, opA_makeMap, opA_indexAddr, opA_sliceHi, opA_sliceLo, opA_sliceLH, opA_lookup, opA_mapUpdate, opA_build, opA_box, opA_alloc, opA_makeFunc0, opA_makeFunc00,
    contA_val, contA_skip, contA_enter, contA_panic, contA_ite, callA_ret, callA_panic, callA_ite, putT_some, putT_none, aev_tmp, aev_const, aev_func, rd_same, rd_ne, List.length_set, valA_some, skipA_some, pairA_some,
    thenA_normal, thenA_ret, thenA_exit, thenA_panic, thenA_ite, inBlockA_normal, inBlockA_ret, inBlockA_exit, inBlockA_panic, inBlockA_ite, boolOf_bool, loadS_ptr, storeS_ptr, nilCheckS_ptr, nilCheckS_func, fieldAddrS_eq, extractS_tuple, un_not,
    bin_lss, bin_leq, bin_gtr, bin_geq, bin_eql, bin_neq, bin_add, bin_sub, bin_mul, bin_seql, bin_sneq, bin_ptr_eql, bin_ptr_neq, bin_nil_eql, bin_nil_neq, callS_plain, callS_func, lenS_slice, leaveR_ite, leaveR_ret, leaveR_normal, leaveR_panic, resA_tmp, resA_nil, yieldA_S, slotAt_succ, slotAt_zero, yieldS_some, List.getElem?_toArray, List.getElem?_cons_zero, List.getElem?_cons_succ, resA_cell, cellRes_ptr, Option.bind_some, theCode_rangeS, rangeS_cap, callS_cap, roundA_M, roundM_ready, roundB_N, roundB_R, roundB_E, roundN_none, roundN_some, rangeEnd_M, rangeM_ready, rangeM_ret, setAll_nil, setAll_cons, pack_one, pack_two, pack_none,
    Option.map_some, Option.isSome_some, ne_eq, not_false_eq_true, Nat.reduceEqDiff, Nat.reduceLT, if_true, if_false, Nat.reduceAdd, Nat.add_zero, Nat.zero_add, Option.some.injEq, decide_eq_true_eq, List.map_cons, List.map_nil, List.all_cons, List.all_nil, Bool.and_true, List.nil_append, List.append_nil, List.cons_append, List.toList_toArray, hl, hK2, zf62, vc_agg, st0, agg65, loadV_flat, cell_eq, r1, cellO_box, ld1, ld2, hcf, hG1, hp, r2, st1, st2, r5]
        rfl
      case j2 =>
        refine ⟨⟨_, _, _, _, get_set_same⟩, ?_, ?_, ?_⟩
        · rw [get_set_ne (by omega), get_set_ne (by omega)]; exact get_set_same
        · rw [get_set_ne (by omega)]; exact get_set_same
        · refine Grown.set2 (Grown.set2 (Grown.set2 (((hGY.trans gZ).set2 _ hK2 (by omega)).trans (hG2 _)) _ (r3 _) (by omega)) _ (r4 _ _) (by omega)) _ (r5 _ _ _) (by omega)
   case hF =>
    intro X hm
    refine ⟨X, rfl, ?_⟩
    show match lastI p n with
      | some i => (∃ t ps ac bd, X.get (H.next + 4) = some (.loop ⟨.done, some .ret, t, ps, ac, bd⟩)) ∧ X.get (H.next + 1) = some (.box (val i).cells.toList 62) ∧ X.get (H.next + 2) = some (.box [.bool true] 4) ∧ Grown H X
      | none => (∃ t ps ac bd, X.get (H.next + 4) = some (.loop ⟨.ready, none, t, ps, ac, bd⟩)) ∧ X.get (H.next + 1) = some (.box [.string ⟨#[]⟩, .bool false, .int .i64 0] 62) ∧ X.get (H.next + 2) = some (.box [.bool false] 4) ∧ Grown H X
    cases hq : lastI p n with
    | some i => rw [hq] at hm; exact hm
    | none =>
      rw [hq] at hm
      have hX : Grown (H4.push (.loop _)) X := hm
      exact ⟨⟨_, _, _, _, hX.has (hf5 _) (hK5 _)⟩, hlow _ _ hX _ _ y2, hlow _ _ hX _ _ y3, (g04.push2 _).trans hX⟩
  clear hT
  replace hm : match lastI p n with
      | some i => (∃ t ps ac bd, X.get (H.next + 4) = some (.loop ⟨.done, some .ret, t, ps, ac, bd⟩)) ∧ X.get (H.next + 1) = some (.box (val i).cells.toList 62) ∧ X.get (H.next + 2) = some (.box [.bool true] 4) ∧ Grown H X
      | none => (∃ t ps ac bd, X.get (H.next + 4) = some (.loop ⟨.ready, none, t, ps, ac, bd⟩)) ∧ X.get (H.next + 1) = some (.box [.string ⟨#[]⟩, .bool false, .int .i64 0] 62) ∧ X.get (H.next + 2) = some (.box [.bool false] 4) ∧ Grown H X := hm
  cases hq : lastI p n with
    | none =>
      rw [hq] at hm
      obtain ⟨⟨t, ps, ac, bd, hK1⟩, q2, q3, hGX⟩ := (hm : _ ∧ _ ∧ _ ∧ _)
      have hXn : H.next + 3 ≤ X.next := by have := get_lt hGX.fresh q3; omega
      have r2 : ∀ o y, ((X.set (H.next + 4) o).push y).get (H.next + 1) = some (.box [.string ⟨#[]⟩, .bool false, .int .i64 0] 62) := fun o y => by rw [get_push_old (by rw [AHeap.set_next]; omega), get_set_ne (by omega)]; exact q2
      have r3 : ∀ o y x, (((X.set (H.next + 4) o).push y).set (H.next + 1) x).get (H.next + 2) = some (.box [.bool false] 4) := fun o y x => by rw [get_set_ne (by omega), get_push_old (by rw [AHeap.set_next]; omega), get_set_ne (by omega)]; exact q3
      have ld1 : ∀ o, ((X.set (H.next + 4) o).push (.box [.string ⟨#[]⟩, .bool false, .int .i64 0] 62)).loadV Try.prog 62 ⟨X.next, 0, none⟩ = some (.agg #[.string ⟨#[]⟩, .bool false, .int .i64 0]) := fun o => by
        rw [loadV_box agg62 info62 (cs := [.string ⟨#[]⟩, .bool false, .int .i64 0]) (e := 62) (by exact get_push_new) (by rw [cells62]; rfl)]
      have st1 : ∀ o y, ((X.set (H.next + 4) o).push y).storeV Try.prog 62 ⟨H.next + 1, 0, none⟩ (.agg #[.string ⟨#[]⟩, .bool false, .int .i64 0]) = some (((X.set (H.next + 4) o).push y).set (H.next + 1) (.box [.string ⟨#[]⟩, .bool false, .int .i64 0] 62)) := fun o y => by
        rw [storeV_box info62 (r2 o y) (by rw [cells62]; rfl) (by rw [vc_agg]; rfl) (by rw [vc_agg]; simp [fl_string, fl_bool, fl_int]), vc_agg]
      have st2 : ∀ o y x, (((X.set (H.next + 4) o).push y).set (H.next + 1) x).storeV Try.prog 4 ⟨H.next + 2, 0, none⟩ (.bool false) = some ((((X.set (H.next + 4) o).push y).set (H.next + 1) x).set (H.next + 2) (.box [.bool false] 4)) := fun o y x => by
        rw [storeV_box info4 (r3 o y x) (by rw [cells4]; rfl) (by rw [vc_bool]; rfl) (by rw [vc_bool]; rfl), vc_bool]
      have ld3 : ∀ o y z, ((((X.set (H.next + 4) o).push y).set (H.next + 1) (.box [.string ⟨#[]⟩, .bool false, .int .i64 0] 62)).set (H.next + 2) z).loadV Try.prog 62 ⟨H.next + 1, 0, none⟩ = some (.agg #[.string ⟨#[]⟩, .bool false, .int .i64 0]) := fun o y z => by
        rw [loadV_box agg62 info62 (cs := [.string ⟨#[]⟩, .bool false, .int .i64 0]) (e := 62) (by rw [get_set_ne (by omega)]; exact get_set_same) (by rw [cells62]; rfl)]
      refine ⟨?X3, ?h3, ?g3⟩
      case h3 =>
        simp (config := { decide := true }) only [theCode_seq, theCode_list, theCode_skip, theCode_ret, theCode_exit, theCode_label, theCode_block, theCode_if, evalList_plain, evalList_guard, evalList_nil, nd_move, nd_assign, nd_pick, nd_alloc, nd_box, nd_build, nd_buildSlice, nd_load, nd_store, nd_nilCheck, nd_binOp, nd_unOp, nd_convert, nd_makeInterface, nd_makeFunc, nd_makeMap, nd_slice, nd_fieldAddr, nd_field, nd_indexAddr, nd_index, nd_lookup, nd_mapUpdate, nd_typeAssert, nd_extract, nd_call, nd_panic,
    ok_tmp, ok_const, ok_func, cl_int, cl_bool, cl_string, cl_ptr, cl_map, cl_nilFunc, cl_nilIface, cl_slice, opA_move, opA_assign, opA_pick, opA_load, opA_store, opA_nilCheck, opA_fieldAddr, opA_extract, opA_bin, opA_un, opA_call, opA_call0, opA_build0, opA_len, opA_appendS, opA_makeMap, opA_indexAddr, opA_sliceHi, opA_sliceLo, opA_sliceLH, opA_lookup, opA_mapUpdate, opA_build, opA_box, opA_alloc, opA_makeFunc0, opA_makeFunc00,
    contA_val, contA_skip, contA_enter, contA_panic, contA_ite, callA_ret, callA_panic, callA_ite, putT_some, putT_none, aev_tmp, aev_const, aev_func, rd_same, rd_ne, List.length_set, valA_some, skipA_some, pairA_some,
    thenA_normal, thenA_ret, thenA_exit, thenA_panic, thenA_ite, inBlockA_normal, inBlockA_ret, inBlockA_exit, inBlockA_panic, inBlockA_ite, boolOf_bool, loadS_ptr, storeS_ptr, nilCheckS_ptr, nilCheckS_func, fieldAddrS_eq, extractS_tuple, un_not,
    bin_lss, bin_leq, bin_gtr, bin_geq, bin_eql, bin_neq, bin_add, bin_sub, bin_mul, bin_seql, bin_sneq, bin_ptr_eql, bin_ptr_neq, bin_nil_eql, bin_nil_neq, callS_plain, callS_func, lenS_slice, leaveR_ite, leaveR_ret, leaveR_normal, leaveR_panic, resA_tmp, resA_nil, yieldA_S, slotAt_succ, slotAt_zero, yieldS_some, List.getElem?_toArray, List.getElem?_cons_zero, List.getElem?_cons_succ, resA_cell, cellRes_ptr, Option.bind_some, theCode_rangeS, rangeS_cap, callS_cap, roundA_M, roundM_ready, roundB_N, roundB_R, roundB_E, roundN_none, roundN_some, rangeEnd_M, rangeM_ready, rangeM_ret, setAll_nil, setAll_cons, pack_one, pack_two, pack_none,
    Option.map_some, Option.isSome_some, ne_eq, not_false_eq_true, Nat.reduceEqDiff, Nat.reduceLT, if_true, if_false, Nat.reduceAdd, Nat.add_zero, Nat.zero_add, Option.some.injEq, decide_eq_true_eq, List.map_cons, List.map_nil, List.all_cons, List.all_nil, Bool.and_true, List.nil_append, List.append_nil, List.cons_append, hl, hK1, zf62, vc_agg, AHeap.set_next, ld1, st1, st2, ld3, get_set_same, agg4, loadV_flat, cell_eq, cellO_box, Option.getD_none]
        rfl
      case g3 => exact Grown.set2 (Grown.set2 ((Grown.set2 hGX _ hK1 (by omega)).push2 _) _ (r2 _ _) (by omega)) _ (r3 _ _ _) (by omega)
    | some i =>
      rw [hq] at hm
      obtain ⟨⟨t, ps, ac, bd, hK1⟩, q2, q3, hGX⟩ := (hm : _ ∧ _ ∧ _ ∧ _)
      obtain ⟨hin, _, _⟩ := lastI_some hq
      have hv3 := (hvc i hin).2.2
      have r2 : ∀ o, (X.set (H.next + 4) o).get (H.next + 1) = some (.box (val i).cells.toList 62) := fun o => by rw [get_set_ne (by omega)]; exact q2
      have r3 : ∀ o, (X.set (H.next + 4) o).get (H.next + 2) = some (.box [.bool true] 4) := fun o => by rw [get_set_ne (by omega)]; exact q3
      have hv1 := (hvc i hin).1
      have ld1 : ∀ o, (X.set (H.next + 4) o).loadV Try.prog 62 ⟨H.next + 1, 0, none⟩ = some (val i) := fun o => by
        rw [loadV_box agg62 info62 (r2 o) (by rw [cells62]; simp [hv1]), hv3]
      refine ⟨?X4, ?h4, ?g4⟩
      case h4 =>
        simp (config := { decide := true }) only [theCode_seq, theCode_list, theCode_skip, theCode_ret, theCode_exit, theCode_label, theCode_block, theCode_if, evalList_plain, evalList_guard, evalList_nil, nd_move, nd_assign, nd_pick, nd_alloc, nd_box, nd_build, nd_buildSlice, nd_load, nd_store, nd_nilCheck, nd_binOp, nd_unOp, nd_convert, nd_makeInterface, nd_makeFunc, nd_makeMap, nd_slice, nd_fieldAddr, nd_field, nd_indexAddr, nd_index, nd_lookup, nd_mapUpdate, nd_typeAssert, nd_extract, nd_call, nd_panic,
    ok_tmp, ok_const, ok_func, cl_int, cl_bool, cl_string, cl_ptr, cl_map, cl_nilFunc, cl_nilIface, cl_slice, opA_move, opA_assign, opA_pick, opA_load, opA_store, opA_nilCheck, opA_fieldAddr, opA_extract, opA_bin, opA_un, opA_call, opA_call0, opA_build0, opA_len, opA_appendS, opA_makeMap, opA_indexAddr, opA_sliceHi, opA_sliceLo, opA_sliceLH, opA_lookup, opA_mapUpdate, opA_build, opA_box, opA_alloc, opA_makeFunc0, opA_makeFunc00,
    contA_val, contA_skip, contA_enter, contA_panic, contA_ite, callA_ret, callA_panic, callA_ite, putT_some, putT_none, aev_tmp, aev_const, aev_func, rd_same, rd_ne, List.length_set, valA_some, skipA_some, pairA_some,
    thenA_normal, thenA_ret, thenA_exit, thenA_panic, thenA_ite, inBlockA_normal, inBlockA_ret, inBlockA_exit, inBlockA_panic, inBlockA_ite, boolOf_bool, loadS_ptr, storeS_ptr, nilCheckS_ptr, nilCheckS_func, fieldAddrS_eq, extractS_tuple, un_not,
    bin_lss, bin_leq, bin_gtr, bin_geq, bin_eql, bin_neq, bin_add, bin_sub, bin_mul, bin_seql, bin_sneq, bin_ptr_eql, bin_ptr_neq, bin_nil_eql, bin_nil_neq, callS_plain, callS_func, lenS_slice, leaveR_ite, leaveR_ret, leaveR_normal, leaveR_panic, resA_tmp, resA_nil, yieldA_S, slotAt_succ, slotAt_zero, yieldS_some, List.getElem?_toArray, List.getElem?_cons_zero, List.getElem?_cons_succ, resA_cell, cellRes_ptr, Option.bind_some, theCode_rangeS, rangeS_cap, callS_cap, roundA_M, roundM_ready, roundB_N, roundB_R, roundB_E, roundN_none, roundN_some, rangeEnd_M, rangeM_ready, rangeM_ret, setAll_nil, setAll_cons, pack_one, pack_two, pack_none,
    Option.map_some, Option.isSome_some, ne_eq, not_false_eq_true, Nat.reduceEqDiff, Nat.reduceLT, if_true, if_false, Nat.reduceAdd, Nat.add_zero, Nat.zero_add, Option.some.injEq, decide_eq_true_eq, List.map_cons, List.map_nil, List.all_cons, List.all_nil, Bool.and_true, List.nil_append, List.append_nil, List.cons_append, hl, hK1, r2, r3, ld1, List.toList_toArray, agg4, loadV_flat, cell_eq, cellO_box]
        rfl
      case g4 => exact Grown.set2 hGX _ hK1 (by omega)

end Go.Proofs.Ytnjoaffnfjlcaaa
