/-
  scope: Close, Leave, walked.
-/
import Derived.Test.YtnjoaffnfjlcaaaOps1
namespace Go.Proofs.Ytnjoaffnfjlcaaa
open Go Go.Proofs B
set_option linter.unusedSimpArgs false


theorem pop34 {ext : CallT} (hx : ∀ f args H, f ≠ 22 → ext f args H = none) {H : AHeap} (hf : H.Fresh) {b : Nat} {σ : Sc} {bl tl ts : Value} {rs : List Nat} (h : SAt H b σ bl tl ts rs) {m : Nat} (hm : σ.blocks.length = m + 1) (hml : 1 < m + 1) (hn : m < 1000000) :
    ∃ H', theCall Try.prog ext 34 [.pointer (some ⟨b, 0, none⟩), .int .i64 1] H = some (.ret (.bool true), H') ∧ H'.get b = some (.box [.slice (some (baseOf bl)) m (capOf bl), tl, ts, .int .i64 σ.next] 55) ∧ Own H' 56 1 (.slice (some (baseOf bl)) m (capOf bl)) m ((rs.map fun r => Value.map (some r)).take (m * 1)) ∧
      (∀ j, j < H.next → j ≠ b → idOf bl ≠ some j → H'.get j = H.get j) ∧ H.next ≤ H'.next ∧ H'.Fresh := by
  have hbl : b < H.next := get_lt hf h.box
  have hnb : idOf bl ≠ some b := h.ob.id_ne h.box

  obtain ⟨Ha, ha1, ha2, ha3, ha4⟩ := h.ob.set1 (o := m * 1) (x := .map none) (by rw [hm]; omega) (by simp [fl_map])
  have hst : H.storeV Try.prog 56 (addA (baseOf bl) (m * 1)) (.map none) = some Ha := by
    rw [storeV_flat cells56 info56 vc_map]; exact ha1
  have hnx : H.next ≤ Ha.next := by rw [ha3]; exact Nat.le_refl _
  have hfa : ∀ j, j < H.next → idOf bl ≠ some j → Ha.get j = H.get j := fun j _ hji => ha4 j hji
  have hfra : Ha.Fresh := fun j hj => by
    rw [ha3] at hj
    rw [ha4 j (fun e => by have := h.ob.id_lt hf j e; omega)]; exact hf j hj

  have hba : Ha.get b = some (.box [bl, tl, ts, .int .i64 σ.next] 55) := by rw [hfa b hbl hnb]; exact h.box
  rw [hm] at ha2
  have hcut := ha2.cutLast
  have c3 := fun H2 => h.ob.lenS isl48 H2
  have hw : IntKind.i64.wrap ((σ.blocks.length : Int) - 1) = (m : Int) := by rw [hm, IntWalk.i64_in _ (by omega)]; omega
  have hix := fun H2 => indexAddrS_own (j := m) (k := .i64) h.ob (by omega) (by omega) es48 H2
  simp only [Int.toNat_natCast] at hix
  have hsl := fun H2 => sliceS_upto (k := .i64) (m := m) h.ob (by omega) sli48 (by omega) (by omega) H2
  simp only [Int.toNat_natCast] at hsl
  have hle : ¬ ((σ.blocks.length : Int) ≤ 1) := by omega
  refine ⟨Ha.set b (.box [.slice (some (baseOf bl)) m (capOf bl), tl, ts, .int .i64 σ.next] 55), ?_, get_set_same, ?_, ?_, hnx, (AHeap.le_set hba).fresh hfra⟩
  · refine theCall_run (hx _ _ _ (by decide)) Try.func34 (rs := [.tmp 4]) rfl rfl rfl (by simp) fun tm hl hi => ?_
    replace hl : tm.length = 39 := hl
    have i0 := hi 0
    have i1 := hi 1
    simp only [List.getD_cons_zero, List.getD_cons_succ] at i0 i1
    simp (config := { decide := true }) only [theCode_seq, theCode_list, theCode_skip, theCode_ret, theCode_exit, theCode_label, theCode_block, theCode_if, evalList_plain, evalList_guard, evalList_nil, nd_move, nd_assign, nd_pick, nd_alloc, nd_box, nd_build, nd_buildSlice, nd_load, nd_store, nd_nilCheck, nd_binOp, nd_unOp, nd_convert, nd_makeInterface, nd_makeFunc, nd_makeMap, nd_slice, nd_fieldAddr, nd_field, nd_indexAddr, nd_index, nd_lookup, nd_mapUpdate, nd_typeAssert, nd_extract, nd_call, nd_panic,
    ok_tmp, ok_const, ok_func, cl_int, cl_bool, cl_string, cl_ptr, cl_map, cl_nilFunc, cl_nilIface, cl_slice, opA_move, opA_assign, opA_pick, opA_load, opA_store, opA_nilCheck, opA_fieldAddr, opA_extract, opA_bin, opA_un, opA_call, opA_call0, opA_build0, opA_len, opA_appendS, opA_makeMap, opA_indexAddr, opA_sliceHi, opA_sliceLo, opA_sliceLH, opA_lookup, opA_mapUpdate, opA_build, opA_box, opA_alloc, opA_makeFunc0, opA_makeFunc00,
    contA_val, contA_skip, contA_enter, contA_panic, contA_ite, callA_ret, callA_panic, callA_ite, putT_some, putT_none, aev_tmp, aev_const, aev_func, rd_same, rd_ne, List.length_set, valA_some, skipA_some, pairA_some,
    thenA_normal, thenA_ret, thenA_exit, thenA_panic, thenA_ite, inBlockA_normal, inBlockA_ret, inBlockA_exit, inBlockA_panic, inBlockA_ite, boolOf_bool, loadS_ptr, storeS_ptr, nilCheckS_ptr, nilCheckS_func, fieldAddrS_eq, extractS_tuple, un_not,
    bin_lss, bin_leq, bin_gtr, bin_geq, bin_eql, bin_neq, bin_add, bin_sub, bin_mul, bin_seql, bin_sneq, bin_ptr_eql, bin_ptr_neq, bin_nil_eql, bin_nil_neq, callS_plain, callS_func, lenS_slice, leaveR_ite, leaveR_ret, leaveR_normal, leaveR_panic, resA_tmp, resA_nil, yieldA_S, slotAt_succ, slotAt_zero, yieldS_some, List.getElem?_toArray, List.getElem?_cons_zero, List.getElem?_cons_succ, resA_cell, cellRes_ptr, Option.bind_some, theCode_rangeS, rangeS_cap, callS_cap, roundA_M, roundM_ready, roundB_N, roundB_R, roundB_E, roundN_none, roundN_some, rangeEnd_M, rangeM_ready, rangeM_ret, setAll_nil, setAll_cons, pack_one, pack_two, pack_none,
    Option.map_some, Option.isSome_some, ne_eq, not_false_eq_true, Nat.reduceEqDiff, Nat.reduceLT, if_true, if_false, Nat.reduceAdd, Nat.add_zero, Nat.zero_add, Option.some.injEq, decide_eq_true_eq, List.map_cons, List.map_nil, List.all_cons, List.all_nil, Bool.and_true, List.nil_append, List.append_nil, List.cons_append,
      hl, i0, i1, off50_0, agg48, loadV_flat, cell_eq, h.box, cellO_box, c3, hle, Bool.false_eq_true]
    rw [theCode_text (by kernel_rfl)]
    simp (config := { decide := true }) only [theCode_seq, theCode_list, theCode_skip, theCode_ret, theCode_exit, theCode_label, theCode_block, theCode_if, evalList_plain, evalList_guard, evalList_nil, nd_move, nd_assign, nd_pick, nd_alloc, nd_box, nd_build, nd_buildSlice, nd_load, nd_store, nd_nilCheck, nd_binOp, nd_unOp, nd_convert, nd_makeInterface, nd_makeFunc, nd_makeMap, nd_slice, nd_fieldAddr, nd_field, nd_indexAddr, nd_index, nd_lookup, nd_mapUpdate, nd_typeAssert, nd_extract, nd_call, nd_panic,
    ok_tmp, ok_const, ok_func, cl_int, cl_bool, cl_string, cl_ptr, cl_map, cl_nilFunc, cl_nilIface, cl_slice, opA_move, opA_assign, opA_pick, opA_load, opA_store, opA_nilCheck, opA_fieldAddr, opA_extract, opA_bin, opA_un, opA_call, opA_call0, opA_build0, opA_len, opA_appendS, opA_makeMap, opA_indexAddr, opA_sliceHi, opA_sliceLo, opA_sliceLH, opA_lookup, opA_mapUpdate, opA_build, opA_box, opA_alloc, opA_makeFunc0, opA_makeFunc00,
    contA_val, contA_skip, contA_enter, contA_panic, contA_ite, callA_ret, callA_panic, callA_ite, putT_some, putT_none, aev_tmp, aev_const, aev_func, rd_same, rd_ne, List.length_set, valA_some, skipA_some, pairA_some,
    thenA_normal, thenA_ret, thenA_exit, thenA_panic, thenA_ite, inBlockA_normal, inBlockA_ret, inBlockA_exit, inBlockA_panic, inBlockA_ite, boolOf_bool, loadS_ptr, storeS_ptr, nilCheckS_ptr, nilCheckS_func, fieldAddrS_eq, extractS_tuple, un_not,
    bin_lss, bin_leq, bin_gtr, bin_geq, bin_eql, bin_neq, bin_add, bin_sub, bin_mul, bin_seql, bin_sneq, bin_ptr_eql, bin_ptr_neq, bin_nil_eql, bin_nil_neq, callS_plain, callS_func, lenS_slice, leaveR_ite, leaveR_ret, leaveR_normal, leaveR_panic, resA_tmp, resA_nil, yieldA_S, slotAt_succ, slotAt_zero, yieldS_some, List.getElem?_toArray, List.getElem?_cons_zero, List.getElem?_cons_succ, resA_cell, cellRes_ptr, Option.bind_some, theCode_rangeS, rangeS_cap, callS_cap, roundA_M, roundM_ready, roundB_N, roundB_R, roundB_E, roundN_none, roundN_some, rangeEnd_M, rangeM_ready, rangeM_ret, setAll_nil, setAll_cons, pack_one, pack_two, pack_none,
    Option.map_some, Option.isSome_some, ne_eq, not_false_eq_true, Nat.reduceEqDiff, Nat.reduceLT, if_true, if_false, Nat.reduceAdd, Nat.add_zero, Nat.zero_add, Option.some.injEq, decide_eq_true_eq, List.map_cons, List.map_nil, List.all_cons, List.all_nil, Bool.and_true, List.nil_append, List.append_nil, List.cons_append, dropP_normal,
      hl, i0, i1, off50_0, agg48, loadV_flat, cell_eq, h.box, cellO_box, c3, hw, hix, sli48, vc_map, fl_map, info56, cells56, storeV_flat, ha1, List.length_cons]
    rw [theCode_text (by kernel_rfl)]
    simp (config := { decide := true }) only [theCode_seq, theCode_list, theCode_skip, theCode_ret, theCode_exit, theCode_label, theCode_block, theCode_if, evalList_plain, evalList_guard, evalList_nil, nd_move, nd_assign, nd_pick, nd_alloc, nd_box, nd_build, nd_buildSlice, nd_load, nd_store, nd_nilCheck, nd_binOp, nd_unOp, nd_convert, nd_makeInterface, nd_makeFunc, nd_makeMap, nd_slice, nd_fieldAddr, nd_field, nd_indexAddr, nd_index, nd_lookup, nd_mapUpdate, nd_typeAssert, nd_extract, nd_call, nd_panic,
    ok_tmp, ok_const, ok_func, cl_int, cl_bool, cl_string, cl_ptr, cl_map, cl_nilFunc, cl_nilIface, cl_slice, opA_move, opA_assign, opA_pick, opA_load, opA_store, opA_nilCheck, opA_fieldAddr, opA_extract, opA_bin, opA_un, opA_call, opA_call0, opA_build0, opA_len, opA_appendS, opA_makeMap, opA_indexAddr, opA_sliceHi, opA_sliceLo, opA_sliceLH, opA_lookup, opA_mapUpdate, opA_build, opA_box, opA_alloc, opA_makeFunc0, opA_makeFunc00,
    contA_val, contA_skip, contA_enter, contA_panic, contA_ite, callA_ret, callA_panic, callA_ite, putT_some, putT_none, aev_tmp, aev_const, aev_func, rd_same, rd_ne, List.length_set, valA_some, skipA_some, pairA_some,
    thenA_normal, thenA_ret, thenA_exit, thenA_panic, thenA_ite, inBlockA_normal, inBlockA_ret, inBlockA_exit, inBlockA_panic, inBlockA_ite, boolOf_bool, loadS_ptr, storeS_ptr, nilCheckS_ptr, nilCheckS_func, fieldAddrS_eq, extractS_tuple, un_not,
    bin_lss, bin_leq, bin_gtr, bin_geq, bin_eql, bin_neq, bin_add, bin_sub, bin_mul, bin_seql, bin_sneq, bin_ptr_eql, bin_ptr_neq, bin_nil_eql, bin_nil_neq, callS_plain, callS_func, lenS_slice, leaveR_ite, leaveR_ret, leaveR_normal, leaveR_panic, resA_tmp, resA_nil, yieldA_S, slotAt_succ, slotAt_zero, yieldS_some, List.getElem?_toArray, List.getElem?_cons_zero, List.getElem?_cons_succ, resA_cell, cellRes_ptr, Option.bind_some, theCode_rangeS, rangeS_cap, callS_cap, roundA_M, roundM_ready, roundB_N, roundB_R, roundB_E, roundN_none, roundN_some, rangeEnd_M, rangeM_ready, rangeM_ret, setAll_nil, setAll_cons, pack_one, pack_two, pack_none,
    Option.map_some, Option.isSome_some, ne_eq, not_false_eq_true, Nat.reduceEqDiff, Nat.reduceLT, if_true, if_false, Nat.reduceAdd, Nat.add_zero, Nat.zero_add, Option.some.injEq, decide_eq_true_eq, List.map_cons, List.map_nil, List.all_cons, List.all_nil, Bool.and_true, List.nil_append, List.append_nil, List.cons_append, dropP_normal,
      hl, i0, i1, off50_0, agg48, loadV_flat, cell_eq, hba, cellO_box, c3, hw, hsl, sli48, Option.toArray_some, Option.toArray_none, vc_slice, fl_slice, info48, cells48, storeV_flat, setCell_eq, setCellO_box, Option.getD_none, List.set_cons_zero, List.set_cons_succ, List.length_cons]
  · have := hcut.mono (H2 := Ha.set b (.box [.slice (some (baseOf bl)) m (capOf bl), tl, ts, .int .i64 σ.next] 55)) fun i hi => get_set_ne (by
      rintro rfl
      rw [idOf_cut ha2] at hi
      exact hnb hi)
    rw [List.take_set_of_le (Nat.le_refl _)] at this
    exact this
  · intro j hj hjb hji
    rw [get_set_ne hjb]; exact hfa j hj hji

theorem pop34n {ext : CallT} (hx : ∀ f args H, f ≠ 22 → ext f args H = none) {H : AHeap} {b : Nat} {σ : Sc} {bl tl ts : Value} {rs : List Nat} (h : SAt H b σ bl tl ts rs) (hm : σ.blocks.length ≤ 1) :
    theCall Try.prog ext 34 [.pointer (some ⟨b, 0, none⟩), .int .i64 1] H = some (.ret (.bool false), H) := by
  have c3 := fun H2 => h.ob.lenS isl48 H2
  have hle : ((σ.blocks.length : Int) ≤ 1) := by omega
  refine theCall_run (hx _ _ _ (by decide)) Try.func34 (rs := [.tmp 4]) rfl rfl rfl (by simp) fun tm hl hi => ?_
  replace hl : tm.length = 39 := hl
  have i0 := hi 0
  have i1 := hi 1
  simp only [List.getD_cons_zero, List.getD_cons_succ] at i0 i1
  simp (config := { decide := true }) only [theCode_seq, theCode_list, theCode_skip, theCode_ret, theCode_exit, theCode_label, theCode_block, theCode_if, evalList_plain, evalList_guard, evalList_nil, nd_move, nd_assign, nd_pick, nd_alloc, nd_box, nd_build, nd_buildSlice, nd_load, nd_store, nd_nilCheck, nd_binOp, nd_unOp, nd_convert, nd_makeInterface, nd_makeFunc, nd_makeMap, nd_slice, nd_fieldAddr, nd_field, nd_indexAddr, nd_index, nd_lookup, nd_mapUpdate, nd_typeAssert, nd_extract, nd_call, nd_panic,
    ok_tmp, ok_const, ok_func, cl_int, cl_bool, cl_string, cl_ptr, cl_map, cl_nilFunc, cl_nilIface, cl_slice, opA_move, opA_assign, opA_pick, opA_load, opA_store, opA_nilCheck, opA_fieldAddr, opA_extract, opA_bin, opA_un, opA_call, opA_call0, opA_build0, opA_len, opA_appendS, opA_makeMap, opA_indexAddr, opA_sliceHi, opA_sliceLo, opA_sliceLH, opA_lookup, opA_mapUpdate, opA_build, opA_box, opA_alloc, opA_makeFunc0, opA_makeFunc00,
    contA_val, contA_skip, contA_enter, contA_panic, contA_ite, callA_ret, callA_panic, callA_ite, putT_some, putT_none, aev_tmp, aev_const, aev_func, rd_same, rd_ne, List.length_set, valA_some, skipA_some, pairA_some,
    thenA_normal, thenA_ret, thenA_exit, thenA_panic, thenA_ite, inBlockA_normal, inBlockA_ret, inBlockA_exit, inBlockA_panic, inBlockA_ite, boolOf_bool, loadS_ptr, storeS_ptr, nilCheckS_ptr, nilCheckS_func, fieldAddrS_eq, extractS_tuple, un_not,
    bin_lss, bin_leq, bin_gtr, bin_geq, bin_eql, bin_neq, bin_add, bin_sub, bin_mul, bin_seql, bin_sneq, bin_ptr_eql, bin_ptr_neq, bin_nil_eql, bin_nil_neq, callS_plain, callS_func, lenS_slice, leaveR_ite, leaveR_ret, leaveR_normal, leaveR_panic, resA_tmp, resA_nil, yieldA_S, slotAt_succ, slotAt_zero, yieldS_some, List.getElem?_toArray, List.getElem?_cons_zero, List.getElem?_cons_succ, resA_cell, cellRes_ptr, Option.bind_some, theCode_rangeS, rangeS_cap, callS_cap, roundA_M, roundM_ready, roundB_N, roundB_R, roundB_E, roundN_none, roundN_some, rangeEnd_M, rangeM_ready, rangeM_ret, setAll_nil, setAll_cons, pack_one, pack_two, pack_none,
    Option.map_some, Option.isSome_some, ne_eq, not_false_eq_true, Nat.reduceEqDiff, Nat.reduceLT, if_true, if_false, Nat.reduceAdd, Nat.add_zero, Nat.zero_add, Option.some.injEq, decide_eq_true_eq, List.map_cons, List.map_nil, List.all_cons, List.all_nil, Bool.and_true, List.nil_append, List.append_nil, List.cons_append,
      hl, i0, i1, off50_0, agg48, loadV_flat, cell_eq, h.box, cellO_box, c3, hle]


theorem pop35 {ext : CallT} (hx : ∀ f args H, f ≠ 22 → ext f args H = none) {H : AHeap} (hf : H.Fresh) {b : Nat} {σ : Sc} {bl tl ts : Value} {rs : List Nat} (h : SAt H b σ bl tl ts rs) {m : Nat} (hm : σ.turns.length = m + 1) (hml : 0 < m + 1) (hn : m < 1000000) :
    ∃ H', theCall Try.prog ext 35 [.pointer (some ⟨b, 1, none⟩), .int .i64 0] H = some (.ret (.bool true), H') ∧ H'.get b = some (.box [bl, .slice (some (baseOf tl)) m (capOf tl), ts, .int .i64 σ.next] 55) ∧ Own H' 62 3 (.slice (some (baseOf tl)) m (capOf tl)) m ((σ.turns.flatMap trnC).take (m * 3)) ∧
      (∀ j, j < H.next → j ≠ b → idOf tl ≠ some j → H'.get j = H.get j) ∧ H.next ≤ H'.next ∧ H'.Fresh := by
  have hbl : b < H.next := get_lt hf h.box
  have hnb : idOf tl ≠ some b := h.ot.id_ne h.box

  have g0 : Grown H (H.push (.box [.string ⟨#[]⟩, .bool false, .int .i64 0] 62)) := Grown.push hf _
  have h0 := h.grown hf g0
  have hz : (H.push (.box [.string ⟨#[]⟩, .bool false, .int .i64 0] 62)).loadV Try.prog 62 ⟨H.next, 0, none⟩ = some (.agg ([.string ⟨#[]⟩, .bool false, .int .i64 0] : List Value).toArray) := loadV_box agg62 info62 get_push_new (by rw [cells62]; rfl)
  obtain ⟨Ha, ha1, ha2, ha3, ha4⟩ := Own.setN (xs := [.string ⟨#[]⟩, .bool false, .int .i64 0]) (o := m * 3) h0.ot (by simp only [List.length_cons, List.length_nil]; rw [hm]; omega) (by simp [fl_string, fl_bool, fl_int])
  have hst : (H.push (.box [.string ⟨#[]⟩, .bool false, .int .i64 0] 62)).storeV Try.prog 62 (addA (baseOf tl) (m * 3)) (.agg ([.string ⟨#[]⟩, .bool false, .int .i64 0] : List Value).toArray) = some Ha := by
    rw [storeV_agg info62 (by rw [cells62, vc_agg]; rfl), vc_agg]; exact ha1
  have hnx : H.next ≤ Ha.next := by rw [ha3]; exact g0.next
  have hfa : ∀ j, j < H.next → idOf tl ≠ some j → Ha.get j = H.get j := fun j hj hji => by rw [ha4 j hji]; exact g0.get j hj
  have hfra : Ha.Fresh := fun j hj => by
    rw [ha3] at hj
    rw [ha4 j (fun e => by have := h0.ot.id_lt g0.fresh j e; omega)]; exact g0.fresh j hj

  have hba : Ha.get b = some (.box [bl, tl, ts, .int .i64 σ.next] 55) := by rw [hfa b hbl hnb]; exact h.box
  rw [hm] at ha2
  have hcut := ha2.cutLast
  have c3 := fun H2 => h.ot.lenS isl51 H2
  have hw : IntKind.i64.wrap ((σ.turns.length : Int) - 1) = (m : Int) := by rw [hm, IntWalk.i64_in _ (by omega)]; omega
  have hix := fun H2 => indexAddrS_own (j := m) (k := .i64) h.ot (by omega) (by omega) es51 H2
  simp only [Int.toNat_natCast] at hix
  have hsl := fun H2 => sliceS_upto (k := .i64) (m := m) h.ot (by omega) sli51 (by omega) (by omega) H2
  simp only [Int.toNat_natCast] at hsl
  have hle : ¬ ((σ.turns.length : Int) ≤ 0) := by omega
  refine ⟨Ha.set b (.box [bl, .slice (some (baseOf tl)) m (capOf tl), ts, .int .i64 σ.next] 55), ?_, get_set_same, ?_, ?_, hnx, (AHeap.le_set hba).fresh hfra⟩
  · refine theCall_run (hx _ _ _ (by decide)) Try.func35 (rs := [.tmp 4]) rfl rfl rfl (by simp) fun tm hl hi => ?_
    replace hl : tm.length = 39 := hl
    have i0 := hi 0
    have i1 := hi 1
    simp only [List.getD_cons_zero, List.getD_cons_succ] at i0 i1
    simp (config := { decide := true }) only [theCode_seq, theCode_list, theCode_skip, theCode_ret, theCode_exit, theCode_label, theCode_block, theCode_if, evalList_plain, evalList_guard, evalList_nil, nd_move, nd_assign, nd_pick, nd_alloc, nd_box, nd_build, nd_buildSlice, nd_load, nd_store, nd_nilCheck, nd_binOp, nd_unOp, nd_convert, nd_makeInterface, nd_makeFunc, nd_makeMap, nd_slice, nd_fieldAddr, nd_field, nd_indexAddr, nd_index, nd_lookup, nd_mapUpdate, nd_typeAssert, nd_extract, nd_call, nd_panic,
    ok_tmp, ok_const, ok_func, cl_int, cl_bool, cl_string, cl_ptr, cl_map, cl_nilFunc, cl_nilIface, cl_slice, opA_move, opA_assign, opA_pick, opA_load, opA_store, opA_nilCheck, opA_fieldAddr, opA_extract, opA_bin, opA_un, opA_call, opA_call0, opA_build0, opA_len, opA_appendS, opA_makeMap, opA_indexAddr, opA_sliceHi, opA_sliceLo, opA_sliceLH, opA_lookup, opA_mapUpdate, opA_build, opA_box, opA_alloc, opA_makeFunc0, opA_makeFunc00,
    contA_val, contA_skip, contA_enter, contA_panic, contA_ite, callA_ret, callA_panic, callA_ite, putT_some, putT_none, aev_tmp, aev_const, aev_func, rd_same, rd_ne, List.length_set, valA_some, skipA_some, pairA_some,
    thenA_normal, thenA_ret, thenA_exit, thenA_panic, thenA_ite, inBlockA_normal, inBlockA_ret, inBlockA_exit, inBlockA_panic, inBlockA_ite, boolOf_bool, loadS_ptr, storeS_ptr, nilCheckS_ptr, nilCheckS_func, fieldAddrS_eq, extractS_tuple, un_not,
    bin_lss, bin_leq, bin_gtr, bin_geq, bin_eql, bin_neq, bin_add, bin_sub, bin_mul, bin_seql, bin_sneq, bin_ptr_eql, bin_ptr_neq, bin_nil_eql, bin_nil_neq, callS_plain, callS_func, lenS_slice, leaveR_ite, leaveR_ret, leaveR_normal, leaveR_panic, resA_tmp, resA_nil, yieldA_S, slotAt_succ, slotAt_zero, yieldS_some, List.getElem?_toArray, List.getElem?_cons_zero, List.getElem?_cons_succ, resA_cell, cellRes_ptr, Option.bind_some, theCode_rangeS, rangeS_cap, callS_cap, roundA_M, roundM_ready, roundB_N, roundB_R, roundB_E, roundN_none, roundN_some, rangeEnd_M, rangeM_ready, rangeM_ret, setAll_nil, setAll_cons, pack_one, pack_two, pack_none,
    Option.map_some, Option.isSome_some, ne_eq, not_false_eq_true, Nat.reduceEqDiff, Nat.reduceLT, if_true, if_false, Nat.reduceAdd, Nat.add_zero, Nat.zero_add, Option.some.injEq, decide_eq_true_eq, List.map_cons, List.map_nil, List.all_cons, List.all_nil, Bool.and_true, List.nil_append, List.append_nil, List.cons_append,
      hl, i0, i1, off53_0, agg51, loadV_flat, cell_eq, h.box, cellO_box, c3, hle, zf62, vc_agg, Bool.false_eq_true]
    rw [theCode_text (by kernel_rfl)]
    simp (config := { decide := true }) only [theCode_seq, theCode_list, theCode_skip, theCode_ret, theCode_exit, theCode_label, theCode_block, theCode_if, evalList_plain, evalList_guard, evalList_nil, nd_move, nd_assign, nd_pick, nd_alloc, nd_box, nd_build, nd_buildSlice, nd_load, nd_store, nd_nilCheck, nd_binOp, nd_unOp, nd_convert, nd_makeInterface, nd_makeFunc, nd_makeMap, nd_slice, nd_fieldAddr, nd_field, nd_indexAddr, nd_index, nd_lookup, nd_mapUpdate, nd_typeAssert, nd_extract, nd_call, nd_panic,
    ok_tmp, ok_const, ok_func, cl_int, cl_bool, cl_string, cl_ptr, cl_map, cl_nilFunc, cl_nilIface, cl_slice, opA_move, opA_assign, opA_pick, opA_load, opA_store, opA_nilCheck, opA_fieldAddr, opA_extract, opA_bin, opA_un, opA_call, opA_call0, opA_build0, opA_len, opA_appendS, opA_makeMap, opA_indexAddr, opA_sliceHi, opA_sliceLo, opA_sliceLH, opA_lookup, opA_mapUpdate, opA_build, opA_box, opA_alloc, opA_makeFunc0, opA_makeFunc00,
    contA_val, contA_skip, contA_enter, contA_panic, contA_ite, callA_ret, callA_panic, callA_ite, putT_some, putT_none, aev_tmp, aev_const, aev_func, rd_same, rd_ne, List.length_set, valA_some, skipA_some, pairA_some,
    thenA_normal, thenA_ret, thenA_exit, thenA_panic, thenA_ite, inBlockA_normal, inBlockA_ret, inBlockA_exit, inBlockA_panic, inBlockA_ite, boolOf_bool, loadS_ptr, storeS_ptr, nilCheckS_ptr, nilCheckS_func, fieldAddrS_eq, extractS_tuple, un_not,
    bin_lss, bin_leq, bin_gtr, bin_geq, bin_eql, bin_neq, bin_add, bin_sub, bin_mul, bin_seql, bin_sneq, bin_ptr_eql, bin_ptr_neq, bin_nil_eql, bin_nil_neq, callS_plain, callS_func, lenS_slice, leaveR_ite, leaveR_ret, leaveR_normal, leaveR_panic, resA_tmp, resA_nil, yieldA_S, slotAt_succ, slotAt_zero, yieldS_some, List.getElem?_toArray, List.getElem?_cons_zero, List.getElem?_cons_succ, resA_cell, cellRes_ptr, Option.bind_some, theCode_rangeS, rangeS_cap, callS_cap, roundA_M, roundM_ready, roundB_N, roundB_R, roundB_E, roundN_none, roundN_some, rangeEnd_M, rangeM_ready, rangeM_ret, setAll_nil, setAll_cons, pack_one, pack_two, pack_none,
    Option.map_some, Option.isSome_some, ne_eq, not_false_eq_true, Nat.reduceEqDiff, Nat.reduceLT, if_true, if_false, Nat.reduceAdd, Nat.add_zero, Nat.zero_add, Option.some.injEq, decide_eq_true_eq, List.map_cons, List.map_nil, List.all_cons, List.all_nil, Bool.and_true, List.nil_append, List.append_nil, List.cons_append, dropP_normal,
      hl, i0, i1, off53_0, agg51, loadV_flat, cell_eq, h.box, h0.box, cellO_box, c3, hw, hix, sli51, vc_map, fl_map, info62, cells62, storeV_flat, zf62, vc_agg, hz, hst, List.length_cons]
    rw [theCode_text (by kernel_rfl)]
    simp (config := { decide := true }) only [theCode_seq, theCode_list, theCode_skip, theCode_ret, theCode_exit, theCode_label, theCode_block, theCode_if, evalList_plain, evalList_guard, evalList_nil, nd_move, nd_assign, nd_pick, nd_alloc, nd_box, nd_build, nd_buildSlice, nd_load, nd_store, nd_nilCheck, nd_binOp, nd_unOp, nd_convert, nd_makeInterface, nd_makeFunc, nd_makeMap, nd_slice, nd_fieldAddr, nd_field, nd_indexAddr, nd_index, nd_lookup, nd_mapUpdate, nd_typeAssert, nd_extract, nd_call, nd_panic,
    ok_tmp, ok_const, ok_func, cl_int, cl_bool, cl_string, cl_ptr, cl_map, cl_nilFunc, cl_nilIface, cl_slice, opA_move, opA_assign, opA_pick, opA_load, opA_store, opA_nilCheck, opA_fieldAddr, opA_extract, opA_bin, opA_un, opA_call, opA_call0, opA_build0, opA_len, opA_appendS, opA_makeMap, opA_indexAddr, opA_sliceHi, opA_sliceLo, opA_sliceLH, opA_lookup, opA_mapUpdate, opA_build, opA_box, opA_alloc, opA_makeFunc0, opA_makeFunc00,
    contA_val, contA_skip, contA_enter, contA_panic, contA_ite, callA_ret, callA_panic, callA_ite, putT_some, putT_none, aev_tmp, aev_const, aev_func, rd_same, rd_ne, List.length_set, valA_some, skipA_some, pairA_some,
    thenA_normal, thenA_ret, thenA_exit, thenA_panic, thenA_ite, inBlockA_normal, inBlockA_ret, inBlockA_exit, inBlockA_panic, inBlockA_ite, boolOf_bool, loadS_ptr, storeS_ptr, nilCheckS_ptr, nilCheckS_func, fieldAddrS_eq, extractS_tuple, un_not,
    bin_lss, bin_leq, bin_gtr, bin_geq, bin_eql, bin_neq, bin_add, bin_sub, bin_mul, bin_seql, bin_sneq, bin_ptr_eql, bin_ptr_neq, bin_nil_eql, bin_nil_neq, callS_plain, callS_func, lenS_slice, leaveR_ite, leaveR_ret, leaveR_normal, leaveR_panic, resA_tmp, resA_nil, yieldA_S, slotAt_succ, slotAt_zero, yieldS_some, List.getElem?_toArray, List.getElem?_cons_zero, List.getElem?_cons_succ, resA_cell, cellRes_ptr, Option.bind_some, theCode_rangeS, rangeS_cap, callS_cap, roundA_M, roundM_ready, roundB_N, roundB_R, roundB_E, roundN_none, roundN_some, rangeEnd_M, rangeM_ready, rangeM_ret, setAll_nil, setAll_cons, pack_one, pack_two, pack_none,
    Option.map_some, Option.isSome_some, ne_eq, not_false_eq_true, Nat.reduceEqDiff, Nat.reduceLT, if_true, if_false, Nat.reduceAdd, Nat.add_zero, Nat.zero_add, Option.some.injEq, decide_eq_true_eq, List.map_cons, List.map_nil, List.all_cons, List.all_nil, Bool.and_true, List.nil_append, List.append_nil, List.cons_append, dropP_normal,
      hl, i0, i1, off53_0, agg51, loadV_flat, cell_eq, hba, cellO_box, c3, hw, hsl, sli51, Option.toArray_some, Option.toArray_none, vc_slice, fl_slice, info51, cells51, storeV_flat, setCell_eq, setCellO_box, Option.getD_none, List.set_cons_zero, List.set_cons_succ, List.length_cons]
  · have := hcut.mono (H2 := Ha.set b (.box [bl, .slice (some (baseOf tl)) m (capOf tl), ts, .int .i64 σ.next] 55)) fun i hi => get_set_ne (by
      rintro rfl
      rw [idOf_cut ha2] at hi
      exact hnb hi)
    rw [setL_take _ _ _ _ (Nat.le_refl _)] at this
    exact this
  · intro j hj hjb hji
    rw [get_set_ne hjb]; exact hfa j hj hji

theorem pop35n {ext : CallT} (hx : ∀ f args H, f ≠ 22 → ext f args H = none) {H : AHeap} {b : Nat} {σ : Sc} {bl tl ts : Value} {rs : List Nat} (h : SAt H b σ bl tl ts rs) (hm : σ.turns.length ≤ 0) :
    theCall Try.prog ext 35 [.pointer (some ⟨b, 1, none⟩), .int .i64 0] H = some (.ret (.bool false), H) := by
  have c3 := fun H2 => h.ot.lenS isl51 H2
  have hle : ((σ.turns.length : Int) ≤ 0) := by omega
  refine theCall_run (hx _ _ _ (by decide)) Try.func35 (rs := [.tmp 4]) rfl rfl rfl (by simp) fun tm hl hi => ?_
  replace hl : tm.length = 39 := hl
  have i0 := hi 0
  have i1 := hi 1
  simp only [List.getD_cons_zero, List.getD_cons_succ] at i0 i1
  simp (config := { decide := true }) only [theCode_seq, theCode_list, theCode_skip, theCode_ret, theCode_exit, theCode_label, theCode_block, theCode_if, evalList_plain, evalList_guard, evalList_nil, nd_move, nd_assign, nd_pick, nd_alloc, nd_box, nd_build, nd_buildSlice, nd_load, nd_store, nd_nilCheck, nd_binOp, nd_unOp, nd_convert, nd_makeInterface, nd_makeFunc, nd_makeMap, nd_slice, nd_fieldAddr, nd_field, nd_indexAddr, nd_index, nd_lookup, nd_mapUpdate, nd_typeAssert, nd_extract, nd_call, nd_panic,
    ok_tmp, ok_const, ok_func, cl_int, cl_bool, cl_string, cl_ptr, cl_map, cl_nilFunc, cl_nilIface, cl_slice, opA_move, opA_assign, opA_pick, opA_load, opA_store, opA_nilCheck, opA_fieldAddr, opA_extract, opA_bin, opA_un, opA_call, opA_call0, opA_build0, opA_len, opA_appendS, opA_makeMap, opA_indexAddr, opA_sliceHi, opA_sliceLo, opA_sliceLH, opA_lookup, opA_mapUpdate, opA_build, opA_box, opA_alloc, opA_makeFunc0, opA_makeFunc00,
    contA_val, contA_skip, contA_enter, contA_panic, contA_ite, callA_ret, callA_panic, callA_ite, putT_some, putT_none, aev_tmp, aev_const, aev_func, rd_same, rd_ne, List.length_set, valA_some, skipA_some, pairA_some,
    thenA_normal, thenA_ret, thenA_exit, thenA_panic, thenA_ite, inBlockA_normal, inBlockA_ret, inBlockA_exit, inBlockA_panic, inBlockA_ite, boolOf_bool, loadS_ptr, storeS_ptr, nilCheckS_ptr, nilCheckS_func, fieldAddrS_eq, extractS_tuple, un_not,
    bin_lss, bin_leq, bin_gtr, bin_geq, bin_eql, bin_neq, bin_add, bin_sub, bin_mul, bin_seql, bin_sneq, bin_ptr_eql, bin_ptr_neq, bin_nil_eql, bin_nil_neq, callS_plain, callS_func, lenS_slice, leaveR_ite, leaveR_ret, leaveR_normal, leaveR_panic, resA_tmp, resA_nil, yieldA_S, slotAt_succ, slotAt_zero, yieldS_some, List.getElem?_toArray, List.getElem?_cons_zero, List.getElem?_cons_succ, resA_cell, cellRes_ptr, Option.bind_some, theCode_rangeS, rangeS_cap, callS_cap, roundA_M, roundM_ready, roundB_N, roundB_R, roundB_E, roundN_none, roundN_some, rangeEnd_M, rangeM_ready, rangeM_ret, setAll_nil, setAll_cons, pack_one, pack_two, pack_none,
    Option.map_some, Option.isSome_some, ne_eq, not_false_eq_true, Nat.reduceEqDiff, Nat.reduceLT, if_true, if_false, Nat.reduceAdd, Nat.add_zero, Nat.zero_add, Option.some.injEq, decide_eq_true_eq, List.map_cons, List.map_nil, List.all_cons, List.all_nil, Bool.and_true, List.nil_append, List.append_nil, List.cons_append,
      hl, i0, i1, off53_0, agg51, loadV_flat, cell_eq, h.box, cellO_box, c3, hle]


theorem close17 {ext : CallT} (hx : ∀ f args H, f ≠ 22 → ext f args H = none) {H : AHeap} (hf : H.Fresh) {b : Nat} {σ : Sc} {F : Nat → Prop} (h : ScopeAt H b σ F) (hn : σ.blocks.length < 1000000) :
    ∃ H' F', theCall Try.prog ext 17 [.pointer (some ⟨b, 0, none⟩)] H = some (.ret (.bool (decide (1 < σ.blocks.length))), H') ∧ ScopeAt H' b σ.close F' ∧ Upd H F H' F' := by
  obtain ⟨bl, tl, ts, rs, h, rfl⟩ := h
  rcases Nat.lt_or_ge 1 σ.blocks.length with hlt | hge
  · obtain ⟨m, hm⟩ : ∃ m, σ.blocks.length = m + 1 := ⟨σ.blocks.length - 1, by omega⟩
    obtain ⟨H', h1, h2, h3, h4, h5, h6⟩ := pop34 (ext := ext) hx hf h hm (by omega) (by omega)
    have hS : SAt H' b { σ with blocks := σ.blocks.take m } (.slice (some (baseOf bl)) m (capOf bl)) tl ts (rs.take m) := by
      refine h.repB hf (fun j hj hjb hji _ => h4 j hj hjb hji) h2 ?_ ?_ ?_
      · rw [List.length_take, hm, Nat.min_eq_left (by omega), List.map_take]
        rw [Nat.mul_one] at h3; exact h3
      · intro i hi
        rw [List.length_take, hm, Nat.min_eq_left (by omega)] at hi
        obtain ⟨r, g1, g2⟩ := h.maps i (by omega)
        have hr := List.mem_of_getElem? g1
        refine ⟨r, by rw [List.getElem?_take_of_lt hi]; exact g1, ?_⟩
        rw [h4 r (get_lt hf g2) (fun e => by subst e; have := h.kb; have := h.kr hr; omega) (fun e => by have := h.ob.kind e; have := h.kr hr; omega), g2]
        rw [List.getD_eq_getElem?_getD, List.getD_eq_getElem?_getD, List.getElem?_take_of_lt hi]
      · exact h.nd.sublist (List.take_sublist _ _)
    have hc : σ.close = { σ with blocks := σ.blocks.take m } := by unfold Sc.close; rw [if_neg (by omega), hm]; rfl
    refine ⟨H', _, ?_, ⟨_, _, _, _, by rw [hc]; exact hS, rfl⟩, fun j hj hlt' => h4 j hlt' (fun e => hj (.inl e)) (fun e => hj (.inr (.inl e))), fun j hj => ?_, h6, h5⟩
    · rw [decide_eq_true hlt]
      refine theCall_run (hx _ _ _ (by decide)) Try.func17 (rs := [.tmp 2]) rfl rfl rfl (by simp) fun tm hl hi => ?_
      replace hl : tm.length = 11 := hl
      have i0 := hi 0
      simp only [List.getD_cons_zero, List.getD_cons_succ] at i0
      simp (config := { decide := true }) only [theCode_seq, theCode_list, theCode_skip, theCode_ret, theCode_exit, theCode_label, theCode_block, theCode_if, evalList_plain, evalList_guard, evalList_nil, nd_move, nd_assign, nd_pick, nd_alloc, nd_box, nd_build, nd_buildSlice, nd_load, nd_store, nd_nilCheck, nd_binOp, nd_unOp, nd_convert, nd_makeInterface, nd_makeFunc, nd_makeMap, nd_slice, nd_fieldAddr, nd_field, nd_indexAddr, nd_index, nd_lookup, nd_mapUpdate, nd_typeAssert, nd_extract, nd_call, nd_panic,
    ok_tmp, ok_const, ok_func, cl_int, cl_bool, cl_string, cl_ptr, cl_map, cl_nilFunc, cl_nilIface, cl_slice, opA_move, opA_assign, opA_pick, opA_load, opA_store, opA_nilCheck, opA_fieldAddr, opA_extract, opA_bin, opA_un, opA_call, opA_call0, opA_build0, opA_len, opA_appendS, opA_makeMap, opA_indexAddr, opA_sliceHi, opA_sliceLo, opA_sliceLH, opA_lookup, opA_mapUpdate, opA_build, opA_box, opA_alloc, opA_makeFunc0, opA_makeFunc00,
    contA_val, contA_skip, contA_enter, contA_panic, contA_ite, callA_ret, callA_panic, callA_ite, putT_some, putT_none, aev_tmp, aev_const, aev_func, rd_same, rd_ne, List.length_set, valA_some, skipA_some, pairA_some,
    thenA_normal, thenA_ret, thenA_exit, thenA_panic, thenA_ite, inBlockA_normal, inBlockA_ret, inBlockA_exit, inBlockA_panic, inBlockA_ite, boolOf_bool, loadS_ptr, storeS_ptr, nilCheckS_ptr, nilCheckS_func, fieldAddrS_eq, extractS_tuple, un_not,
    bin_lss, bin_leq, bin_gtr, bin_geq, bin_eql, bin_neq, bin_add, bin_sub, bin_mul, bin_seql, bin_sneq, bin_ptr_eql, bin_ptr_neq, bin_nil_eql, bin_nil_neq, callS_plain, callS_func, lenS_slice, leaveR_ite, leaveR_ret, leaveR_normal, leaveR_panic, resA_tmp, resA_nil, yieldA_S, slotAt_succ, slotAt_zero, yieldS_some, List.getElem?_toArray, List.getElem?_cons_zero, List.getElem?_cons_succ, resA_cell, cellRes_ptr, Option.bind_some, theCode_rangeS, rangeS_cap, callS_cap, roundA_M, roundM_ready, roundB_N, roundB_R, roundB_E, roundN_none, roundN_some, rangeEnd_M, rangeM_ready, rangeM_ret, setAll_nil, setAll_cons, pack_one, pack_two, pack_none,
    Option.map_some, Option.isSome_some, ne_eq, not_false_eq_true, Nat.reduceEqDiff, Nat.reduceLT, if_true, if_false, Nat.reduceAdd, Nat.add_zero, Nat.zero_add, Option.some.injEq, decide_eq_true_eq, List.map_cons, List.map_nil, List.all_cons, List.all_nil, Bool.and_true, List.nil_append, List.append_nil, List.cons_append,
        hl, i0, off55_0, isp23, en34, h1]
    · rcases hj with rfl | hj | hj | hj | hj
      · exact .inl (.inl rfl)
      · have hid := idOf_cut (n := m) (c := capOf bl) (hm ▸ h.ob)
        rw [hid] at hj; exact .inl (.inr (.inl hj))
      · exact .inl (.inr (.inr (.inl hj)))
      · exact .inl (.inr (.inr (.inr (.inl hj))))
      · exact .inl (.inr (.inr (.inr (.inr (List.mem_of_mem_take hj)))))
  · have h1 := pop34n (ext := ext) hx h hge
    have hc : σ.close = σ := by unfold Sc.close; rw [if_pos hge]
    refine ⟨H, _, ?_, ⟨_, _, _, _, by rw [hc]; exact h, rfl⟩, Upd.refl hf⟩
    rw [decide_eq_false (by omega)]
    refine theCall_run (hx _ _ _ (by decide)) Try.func17 (rs := [.tmp 2]) rfl rfl rfl (by simp) fun tm hl hi => ?_
    replace hl : tm.length = 11 := hl
    have i0 := hi 0
    simp only [List.getD_cons_zero, List.getD_cons_succ] at i0
    simp (config := { decide := true }) only [theCode_seq, theCode_list, theCode_skip, theCode_ret, theCode_exit, theCode_label, theCode_block, theCode_if, evalList_plain, evalList_guard, evalList_nil, nd_move, nd_assign, nd_pick, nd_alloc, nd_box, nd_build, nd_buildSlice, nd_load, nd_store, nd_nilCheck, nd_binOp, nd_unOp, nd_convert, nd_makeInterface, nd_makeFunc, nd_makeMap, nd_slice, nd_fieldAddr, nd_field, nd_indexAddr, nd_index, nd_lookup, nd_mapUpdate, nd_typeAssert, nd_extract, nd_call, nd_panic,
    ok_tmp, ok_const, ok_func, cl_int, cl_bool, cl_string, cl_ptr, cl_map, cl_nilFunc, cl_nilIface, cl_slice, opA_move, opA_assign, opA_pick, opA_load, opA_store, opA_nilCheck, opA_fieldAddr, opA_extract, opA_bin, opA_un, opA_call, opA_call0, opA_build0, opA_len, opA_appendS, opA_makeMap, opA_indexAddr, opA_sliceHi, opA_sliceLo, opA_sliceLH, opA_lookup, opA_mapUpdate, opA_build, opA_box, opA_alloc, opA_makeFunc0, opA_makeFunc00,
    contA_val, contA_skip, contA_enter, contA_panic, contA_ite, callA_ret, callA_panic, callA_ite, putT_some, putT_none, aev_tmp, aev_const, aev_func, rd_same, rd_ne, List.length_set, valA_some, skipA_some, pairA_some,
    thenA_normal, thenA_ret, thenA_exit, thenA_panic, thenA_ite, inBlockA_normal, inBlockA_ret, inBlockA_exit, inBlockA_panic, inBlockA_ite, boolOf_bool, loadS_ptr, storeS_ptr, nilCheckS_ptr, nilCheckS_func, fieldAddrS_eq, extractS_tuple, un_not,
    bin_lss, bin_leq, bin_gtr, bin_geq, bin_eql, bin_neq, bin_add, bin_sub, bin_mul, bin_seql, bin_sneq, bin_ptr_eql, bin_ptr_neq, bin_nil_eql, bin_nil_neq, callS_plain, callS_func, lenS_slice, leaveR_ite, leaveR_ret, leaveR_normal, leaveR_panic, resA_tmp, resA_nil, yieldA_S, slotAt_succ, slotAt_zero, yieldS_some, List.getElem?_toArray, List.getElem?_cons_zero, List.getElem?_cons_succ, resA_cell, cellRes_ptr, Option.bind_some, theCode_rangeS, rangeS_cap, callS_cap, roundA_M, roundM_ready, roundB_N, roundB_R, roundB_E, roundN_none, roundN_some, rangeEnd_M, rangeM_ready, rangeM_ret, setAll_nil, setAll_cons, pack_one, pack_two, pack_none,
    Option.map_some, Option.isSome_some, ne_eq, not_false_eq_true, Nat.reduceEqDiff, Nat.reduceLT, if_true, if_false, Nat.reduceAdd, Nat.add_zero, Nat.zero_add, Option.some.injEq, decide_eq_true_eq, List.map_cons, List.map_nil, List.all_cons, List.all_nil, Bool.and_true, List.nil_append, List.append_nil, List.cons_append,
        hl, i0, off55_0, isp23, en34, h1]

theorem flatMap_take : ∀ (l : List Trn) (m : Nat), (l.flatMap trnC).take (m * 3) = (l.take m).flatMap trnC
  | [], m => by simp
  | t :: l, 0 => by simp
  | t :: l, m + 1 => by
    have h3 : ∀ X : List Value, (trnC t ++ X).take (m * 3 + 3) = trnC t ++ X.take (m * 3) := fun X => rfl
    rw [List.flatMap_cons, show (m + 1) * 3 = m * 3 + 3 by omega, h3, flatMap_take l m]
    rfl

theorem leave18 {ext : CallT} (hx : ∀ f args H, f ≠ 22 → ext f args H = none) {H : AHeap} (hf : H.Fresh) {b : Nat} {σ : Sc} {F : Nat → Prop} (h : ScopeAt H b σ F) (hn : σ.turns.length < 1000000) :
    ∃ H' F', theCall Try.prog ext 18 [.pointer (some ⟨b, 0, none⟩)] H = some (.ret (.bool (decide (0 < σ.turns.length))), H') ∧ ScopeAt H' b σ.leave F' ∧ Upd H F H' F' := by
  obtain ⟨bl, tl, ts, rs, h, rfl⟩ := h
  rcases Nat.lt_or_ge 0 σ.turns.length with hlt | hge
  · obtain ⟨m, hm⟩ : ∃ m, σ.turns.length = m + 1 := ⟨σ.turns.length - 1, by omega⟩
    obtain ⟨H', h1, h2, h3, h4, h5, h6⟩ := pop35 (ext := ext) hx hf h hm (by omega) (by omega)
    have hS : SAt H' b { σ with turns := σ.turns.take m, next := σ.next } bl (.slice (some (baseOf tl)) m (capOf tl)) ts rs := by
      refine h.repT hf (fun j hj hjb hji => h4 j hj hjb hji) h2 ?_
      rw [List.length_take, hm, Nat.min_eq_left (by omega), ← flatMap_take]
      exact h3
    have hc : σ.leave = { σ with turns := σ.turns.take m, next := σ.next } := by unfold Sc.leave; rw [if_neg (by omega), hm]; rfl
    refine ⟨H', _, ?_, ⟨_, _, _, _, by rw [hc]; exact hS, rfl⟩, fun j hj hlt' => h4 j hlt' (fun e => hj (.inl e)) (fun e => hj (.inr (.inr (.inl e)))), fun j hj => ?_, h6, h5⟩
    · rw [decide_eq_true hlt]
      refine theCall_run (hx _ _ _ (by decide)) Try.func18 (rs := [.tmp 2]) rfl rfl rfl (by simp) fun tm hl hi => ?_
      replace hl : tm.length = 11 := hl
      have i0 := hi 0
      simp only [List.getD_cons_zero, List.getD_cons_succ] at i0
      simp (config := { decide := true }) only [theCode_seq, theCode_list, theCode_skip, theCode_ret, theCode_exit, theCode_label, theCode_block, theCode_if, evalList_plain, evalList_guard, evalList_nil, nd_move, nd_assign, nd_pick, nd_alloc, nd_box, nd_build, nd_buildSlice, nd_load, nd_store, nd_nilCheck, nd_binOp, nd_unOp, nd_convert, nd_makeInterface, nd_makeFunc, nd_makeMap, nd_slice, nd_fieldAddr, nd_field, nd_indexAddr, nd_index, nd_lookup, nd_mapUpdate, nd_typeAssert, nd_extract, nd_call, nd_panic,
    ok_tmp, ok_const, ok_func, cl_int, cl_bool, cl_string, cl_ptr, cl_map, cl_nilFunc, cl_nilIface, cl_slice, opA_move, opA_assign, opA_pick, opA_load, opA_store, opA_nilCheck, opA_fieldAddr, opA_extract, opA_bin, opA_un, opA_call, opA_call0, opA_build0, opA_len, opA_appendS, opA_makeMap, opA_indexAddr, opA_sliceHi, opA_sliceLo, opA_sliceLH, opA_lookup, opA_mapUpdate, opA_build, opA_box, opA_alloc, opA_makeFunc0, opA_makeFunc00,
    contA_val, contA_skip, contA_enter, contA_panic, contA_ite, callA_ret, callA_panic, callA_ite, putT_some, putT_none, aev_tmp, aev_const, aev_func, rd_same, rd_ne, List.length_set, valA_some, skipA_some, pairA_some,
    thenA_normal, thenA_ret, thenA_exit, thenA_panic, thenA_ite, inBlockA_normal, inBlockA_ret, inBlockA_exit, inBlockA_panic, inBlockA_ite, boolOf_bool, loadS_ptr, storeS_ptr, nilCheckS_ptr, nilCheckS_func, fieldAddrS_eq, extractS_tuple, un_not,
    bin_lss, bin_leq, bin_gtr, bin_geq, bin_eql, bin_neq, bin_add, bin_sub, bin_mul, bin_seql, bin_sneq, bin_ptr_eql, bin_ptr_neq, bin_nil_eql, bin_nil_neq, callS_plain, callS_func, lenS_slice, leaveR_ite, leaveR_ret, leaveR_normal, leaveR_panic, resA_tmp, resA_nil, yieldA_S, slotAt_succ, slotAt_zero, yieldS_some, List.getElem?_toArray, List.getElem?_cons_zero, List.getElem?_cons_succ, resA_cell, cellRes_ptr, Option.bind_some, theCode_rangeS, rangeS_cap, callS_cap, roundA_M, roundM_ready, roundB_N, roundB_R, roundB_E, roundN_none, roundN_some, rangeEnd_M, rangeM_ready, rangeM_ret, setAll_nil, setAll_cons, pack_one, pack_two, pack_none,
    Option.map_some, Option.isSome_some, ne_eq, not_false_eq_true, Nat.reduceEqDiff, Nat.reduceLT, if_true, if_false, Nat.reduceAdd, Nat.add_zero, Nat.zero_add, Option.some.injEq, decide_eq_true_eq, List.map_cons, List.map_nil, List.all_cons, List.all_nil, Bool.and_true, List.nil_append, List.append_nil, List.cons_append,
        hl, i0, off55_1, isp23, en35, h1]
    · rcases hj with rfl | hj | hj | hj | hj
      · exact .inl (.inl rfl)
      · exact .inl (.inr (.inl hj))
      · have hid := idOf_cut (n := m) (c := capOf tl) (hm ▸ h.ot)
        rw [hid] at hj; exact .inl (.inr (.inr (.inl hj)))
      · exact .inl (.inr (.inr (.inr (.inl hj))))
      · exact .inl (.inr (.inr (.inr (.inr hj))))
  · have h1 := pop35n (ext := ext) hx h hge
    have hc : σ.leave = σ := by unfold Sc.leave; rw [if_pos (by omega)]
    refine ⟨H, _, ?_, ⟨_, _, _, _, by rw [hc]; exact h, rfl⟩, Upd.refl hf⟩
    rw [decide_eq_false (by omega)]
    refine theCall_run (hx _ _ _ (by decide)) Try.func18 (rs := [.tmp 2]) rfl rfl rfl (by simp) fun tm hl hi => ?_
    replace hl : tm.length = 11 := hl
    have i0 := hi 0
    simp only [List.getD_cons_zero, List.getD_cons_succ] at i0
    simp (config := { decide := true }) only [theCode_seq, theCode_list, theCode_skip, theCode_ret, theCode_exit, theCode_label, theCode_block, theCode_if, evalList_plain, evalList_guard, evalList_nil, nd_move, nd_assign, nd_pick, nd_alloc, nd_box, nd_build, nd_buildSlice, nd_load, nd_store, nd_nilCheck, nd_binOp, nd_unOp, nd_convert, nd_makeInterface, nd_makeFunc, nd_makeMap, nd_slice, nd_fieldAddr, nd_field, nd_indexAddr, nd_index, nd_lookup, nd_mapUpdate, nd_typeAssert, nd_extract, nd_call, nd_panic,
    ok_tmp, ok_const, ok_func, cl_int, cl_bool, cl_string, cl_ptr, cl_map, cl_nilFunc, cl_nilIface, cl_slice, opA_move, opA_assign, opA_pick, opA_load, opA_store, opA_nilCheck, opA_fieldAddr, opA_extract, opA_bin, opA_un, opA_call, opA_call0, opA_build0, opA_len, opA_appendS, opA_makeMap, opA_indexAddr, opA_sliceHi, opA_sliceLo, opA_sliceLH, opA_lookup, opA_mapUpdate, opA_build, opA_box, opA_alloc, opA_makeFunc0, opA_makeFunc00,
    contA_val, contA_skip, contA_enter, contA_panic, contA_ite, callA_ret, callA_panic, callA_ite, putT_some, putT_none, aev_tmp, aev_const, aev_func, rd_same, rd_ne, List.length_set, valA_some, skipA_some, pairA_some,
    thenA_normal, thenA_ret, thenA_exit, thenA_panic, thenA_ite, inBlockA_normal, inBlockA_ret, inBlockA_exit, inBlockA_panic, inBlockA_ite, boolOf_bool, loadS_ptr, storeS_ptr, nilCheckS_ptr, nilCheckS_func, fieldAddrS_eq, extractS_tuple, un_not,
    bin_lss, bin_leq, bin_gtr, bin_geq, bin_eql, bin_neq, bin_add, bin_sub, bin_mul, bin_seql, bin_sneq, bin_ptr_eql, bin_ptr_neq, bin_nil_eql, bin_nil_neq, callS_plain, callS_func, lenS_slice, leaveR_ite, leaveR_ret, leaveR_normal, leaveR_panic, resA_tmp, resA_nil, yieldA_S, slotAt_succ, slotAt_zero, yieldS_some, List.getElem?_toArray, List.getElem?_cons_zero, List.getElem?_cons_succ, resA_cell, cellRes_ptr, Option.bind_some, theCode_rangeS, rangeS_cap, callS_cap, roundA_M, roundM_ready, roundB_N, roundB_R, roundB_E, roundN_none, roundN_some, rangeEnd_M, rangeM_ready, rangeM_ret, setAll_nil, setAll_cons, pack_one, pack_two, pack_none,
    Option.map_some, Option.isSome_some, ne_eq, not_false_eq_true, Nat.reduceEqDiff, Nat.reduceLT, if_true, if_false, Nat.reduceAdd, Nat.add_zero, Nat.zero_add, Option.some.injEq, decide_eq_true_eq, List.map_cons, List.map_nil, List.all_cons, List.all_nil, Bool.and_true, List.nil_append, List.append_nil, List.cons_append,
        hl, i0, off55_1, isp23, en35, h1]

end Go.Proofs.Ytnjoaffnfjlcaaa
