/-
  The closures that scope.stack.find is given.
-/
import Derived.Test.YtnjoaffnfjlcaaaFind
namespace Go.Proofs.Ytnjoaffnfjlcaaa
open Go Go.Proofs B
set_option linter.unusedSimpArgs false


theorem zero3 : zeroV Try.prog 3 = some (.int .i64 0) := by unfold zeroV; rw [inf3]; rfl
theorem is27 {ext : CallT} (hx : ∀ f args H, f ≠ 22 → ext f args H = none) {H : AHeap} {r c : Nat} {nm : ByteArray} {l : List (ByteArray × Value)} (hc : H.get c = some (.box [.string nm] 9)) (hr : H.get r = some (.map (strE l))) :
    theCall Try.prog ext 27 [.map (some r), .pointer (some ⟨c, 0, none⟩)] H = some (.ret (.bool (lookB l nm).isSome), H) := by
  have hlk := lookS_str2 (P := Try.prog) (t := 56) (k := nm) (und_of Try.underlying56) us9 zero3 hr
  refine theCall_run (hx _ _ _ (by decide)) Try.func27 (rs := [.tmp 3]) rfl rfl rfl (by simp) fun tm hl hi => ?_
  replace hl : tm.length = 13 := hl
  have i0 := hi 0
  have i1 := hi 1
  simp only [List.getD_cons_zero, List.getD_cons_succ] at i0 i1
  simp (config := { decide := true }) only [theCode_seq, theCode_list, theCode_skip, theCode_ret, theCode_exit, theCode_label, theCode_block, theCode_if, evalList_plain, evalList_guard, evalList_nil, nd_move, nd_assign, nd_pick, nd_alloc, nd_box, nd_build, nd_buildSlice, nd_load, nd_store, nd_nilCheck, nd_binOp, nd_unOp, nd_convert, nd_makeInterface, nd_makeFunc, nd_makeMap, nd_slice, nd_fieldAddr, nd_field, nd_indexAddr, nd_index, nd_lookup, nd_mapUpdate, nd_typeAssert, nd_extract, nd_call, nd_panic,
    ok_tmp, ok_const, ok_func, cl_int, cl_bool, cl_string, cl_ptr, cl_map, cl_nilFunc, cl_nilIface, cl_slice, opA_move, opA_assign, opA_pick, opA_load, opA_store, opA_nilCheck, opA_fieldAddr, opA_extract, opA_bin, opA_un, opA_call, opA_call0, opA_build0, opA_len, opA_appendS, opA_makeMap, opA_indexAddr, opA_sliceHi, opA_sliceLo, opA_sliceLH, opA_lookup, opA_mapUpdate, opA_build, opA_box, opA_alloc, opA_makeFunc0, opA_makeFunc00,
    contA_val, contA_skip, contA_enter, contA_panic, contA_ite, callA_ret, callA_panic, callA_ite, putT_some, putT_none, aev_tmp, aev_const, aev_func, rd_same, rd_ne, List.length_set, valA_some, skipA_some, pairA_some,
    thenA_normal, thenA_ret, thenA_exit, thenA_panic, thenA_ite, inBlockA_normal, inBlockA_ret, inBlockA_exit, inBlockA_panic, inBlockA_ite, boolOf_bool, loadS_ptr, storeS_ptr, nilCheckS_ptr, nilCheckS_func, fieldAddrS_eq, extractS_tuple, un_not,
    bin_lss, bin_leq, bin_gtr, bin_geq, bin_eql, bin_neq, bin_add, bin_sub, bin_mul, bin_seql, bin_sneq, bin_ptr_eql, bin_ptr_neq, bin_nil_eql, bin_nil_neq, callS_plain, callS_func, lenS_slice, leaveR_ite, leaveR_ret, leaveR_normal, leaveR_panic, resA_tmp, resA_nil, yieldA_S, slotAt_succ, slotAt_zero, yieldS_some, List.getElem?_toArray, List.getElem?_cons_zero, List.getElem?_cons_succ, resA_cell, cellRes_ptr, Option.bind_some, theCode_rangeS, rangeS_cap, callS_cap, roundA_M, roundM_ready, roundB_N, roundB_R, roundB_E, roundN_none, roundN_some, rangeEnd_M, rangeM_ready, rangeM_ret, setAll_nil, setAll_cons, pack_one, pack_two, pack_none,
    Option.map_some, Option.isSome_some, ne_eq, not_false_eq_true, Nat.reduceEqDiff, Nat.reduceLT, if_true, if_false, Nat.reduceAdd, Nat.add_zero, Nat.zero_add, Option.some.injEq, decide_eq_true_eq, List.map_cons, List.map_nil, List.all_cons, List.all_nil, Bool.and_true, List.nil_append, List.append_nil, List.cons_append,
    hl, i0, i1, agg9, loadV_flat, cell_eq, hc, cellO_box, List.getElem?_cons_zero, List.getElem?_cons_succ, hlk]


theorem is29_true_true {ext : CallT} (hx : ∀ f args H, f ≠ 22 → ext f args H = none) {H : AHeap} {c1 c2 : Nat} {nm s : ByteArray} {no : Int} (hf : H.Fresh) (hc : H.get c1 = some (.box [.string nm] 9)) (hc2 : H.get c2 = some (.box [.bool true] 4)) :
    theCall Try.prog ext 29 [.agg #[.string s, .bool true, .int .i64 no], .pointer (some ⟨c1, 0, none⟩), .pointer (some ⟨c2, 0, none⟩)] H =
      some (.ret (.bool ((decide (nm = ⟨#[]⟩) || decide (s = nm)) && (true || !true))), H.push (.box [.string s, .bool true, .int .i64 no] 62)) := by
  have g1 : (H.push (.box [.string s, .bool true, .int .i64 no] 62)).get c1 = some (.box [.string nm] 9) := by rw [get_push_old (by have := get_lt hf hc; omega)]; exact hc
  have g2 : (H.push (.box [.string s, .bool true, .int .i64 no] 62)).get c2 = some (.box [.bool true] 4) := by rw [get_push_old (by have := get_lt hf hc2; omega)]; exact hc2
  have g3 : (H.push (.box [.string s, .bool true, .int .i64 no] 62)).get H.next = some (.box [.string s, .bool true, .int .i64 no] 62) := get_push_new
  refine theCall_run (hx _ _ _ (by decide)) Try.func29 (rs := [.tmp 4]) rfl rfl rfl (by simp) fun tm hl hi => ?_
  replace hl : tm.length = 21 := hl
  have i0 := hi 0
  have i1 := hi 1
  have i2 := hi 2
  simp only [List.getD_cons_zero, List.getD_cons_succ] at i0 i1 i2
  obtain ⟨q1, hq1⟩ : ∃ q, decide (nm = ⟨#[]⟩) = q := ⟨_, rfl⟩
  obtain ⟨q2, hq2⟩ : ∃ q, decide (s = nm) = q := ⟨_, rfl⟩
  cases q1 <;> cases q2 <;>
  simp (config := { decide := true }) only [theCode_seq, theCode_list, theCode_skip, theCode_ret, theCode_exit, theCode_label, theCode_block, theCode_if, evalList_plain, evalList_guard, evalList_nil, nd_move, nd_assign, nd_pick, nd_alloc, nd_box, nd_build, nd_buildSlice, nd_load, nd_store, nd_nilCheck, nd_binOp, nd_unOp, nd_convert, nd_makeInterface, nd_makeFunc, nd_makeMap, nd_slice, nd_fieldAddr, nd_field, nd_indexAddr, nd_index, nd_lookup, nd_mapUpdate, nd_typeAssert, nd_extract, nd_call, nd_panic,
    ok_tmp, ok_const, ok_func, cl_int, cl_bool, cl_string, cl_ptr, cl_map, cl_nilFunc, cl_nilIface, cl_slice, opA_move, opA_assign, opA_pick, opA_load, opA_store, opA_nilCheck, opA_fieldAddr, opA_extract, opA_bin, opA_un, opA_call, opA_call0, opA_build0, opA_len, opA_appendS, opA_makeMap, opA_indexAddr, opA_sliceHi, opA_sliceLo, opA_sliceLH, opA_lookup, opA_mapUpdate, opA_build, opA_box, opA_alloc, opA_makeFunc0, opA_makeFunc00,
    contA_val, contA_skip, contA_enter, contA_panic, contA_ite, callA_ret, callA_panic, callA_ite, putT_some, putT_none, aev_tmp, aev_const, aev_func, rd_same, rd_ne, List.length_set, valA_some, skipA_some, pairA_some,
    thenA_normal, thenA_ret, thenA_exit, thenA_panic, thenA_ite, inBlockA_normal, inBlockA_ret, inBlockA_exit, inBlockA_panic, inBlockA_ite, boolOf_bool, loadS_ptr, storeS_ptr, nilCheckS_ptr, nilCheckS_func, fieldAddrS_eq, extractS_tuple, un_not,
    bin_lss, bin_leq, bin_gtr, bin_geq, bin_eql, bin_neq, bin_add, bin_sub, bin_mul, bin_seql, bin_sneq, bin_ptr_eql, bin_ptr_neq, bin_nil_eql, bin_nil_neq, callS_plain, callS_func, lenS_slice, leaveR_ite, leaveR_ret, leaveR_normal, leaveR_panic, resA_tmp, resA_nil, yieldA_S, slotAt_succ, slotAt_zero, yieldS_some, List.getElem?_toArray, List.getElem?_cons_zero, List.getElem?_cons_succ, resA_cell, cellRes_ptr, Option.bind_some, theCode_rangeS, rangeS_cap, callS_cap, roundA_M, roundM_ready, roundB_N, roundB_R, roundB_E, roundN_none, roundN_some, rangeEnd_M, rangeM_ready, rangeM_ret, setAll_nil, setAll_cons, pack_one, pack_two, pack_none,
    Option.map_some, Option.isSome_some, ne_eq, not_false_eq_true, Nat.reduceEqDiff, Nat.reduceLT, if_true, if_false, Nat.reduceAdd, Nat.add_zero, Nat.zero_add, Option.some.injEq, decide_eq_true_eq, List.map_cons, List.map_nil, List.all_cons, List.all_nil, Bool.and_true, List.nil_append, List.append_nil, List.cons_append,
    hl, i0, i1, i2, vc_agg, fl_string, fl_bool, fl_int, info62, off62_0, off62_1, agg9, agg4, loadV_flat, cell_eq, g1, g2, g3, cellO_box, List.getElem?_cons_zero, List.getElem?_cons_succ, hq1, hq2, Bool.not_true, Bool.not_false, Bool.false_eq_true, Bool.true_eq_false, Bool.or_true, Bool.true_or, Bool.or_false, Bool.false_or, Bool.and_false, Bool.false_and, Bool.true_and]


theorem is29_true_false {ext : CallT} (hx : ∀ f args H, f ≠ 22 → ext f args H = none) {H : AHeap} {c1 c2 : Nat} {nm s : ByteArray} {no : Int} (hf : H.Fresh) (hc : H.get c1 = some (.box [.string nm] 9)) (hc2 : H.get c2 = some (.box [.bool false] 4)) :
    theCall Try.prog ext 29 [.agg #[.string s, .bool true, .int .i64 no], .pointer (some ⟨c1, 0, none⟩), .pointer (some ⟨c2, 0, none⟩)] H =
      some (.ret (.bool ((decide (nm = ⟨#[]⟩) || decide (s = nm)) && (true || !false))), H.push (.box [.string s, .bool true, .int .i64 no] 62)) := by
  have g1 : (H.push (.box [.string s, .bool true, .int .i64 no] 62)).get c1 = some (.box [.string nm] 9) := by rw [get_push_old (by have := get_lt hf hc; omega)]; exact hc
  have g2 : (H.push (.box [.string s, .bool true, .int .i64 no] 62)).get c2 = some (.box [.bool false] 4) := by rw [get_push_old (by have := get_lt hf hc2; omega)]; exact hc2
  have g3 : (H.push (.box [.string s, .bool true, .int .i64 no] 62)).get H.next = some (.box [.string s, .bool true, .int .i64 no] 62) := get_push_new
  refine theCall_run (hx _ _ _ (by decide)) Try.func29 (rs := [.tmp 4]) rfl rfl rfl (by simp) fun tm hl hi => ?_
  replace hl : tm.length = 21 := hl
  have i0 := hi 0
  have i1 := hi 1
  have i2 := hi 2
  simp only [List.getD_cons_zero, List.getD_cons_succ] at i0 i1 i2
  obtain ⟨q1, hq1⟩ : ∃ q, decide (nm = ⟨#[]⟩) = q := ⟨_, rfl⟩
  obtain ⟨q2, hq2⟩ : ∃ q, decide (s = nm) = q := ⟨_, rfl⟩
  cases q1 <;> cases q2 <;>
  simp (config := { decide := true }) only [theCode_seq, theCode_list, theCode_skip, theCode_ret, theCode_exit, theCode_label, theCode_block, theCode_if, evalList_plain, evalList_guard, evalList_nil, nd_move, nd_assign, nd_pick, nd_alloc, nd_box, nd_build, nd_buildSlice, nd_load, nd_store, nd_nilCheck, nd_binOp, nd_unOp, nd_convert, nd_makeInterface, nd_makeFunc, nd_makeMap, nd_slice, nd_fieldAddr, nd_field, nd_indexAddr, nd_index, nd_lookup, nd_mapUpdate, nd_typeAssert, nd_extract, nd_call, nd_panic,
    ok_tmp, ok_const, ok_func, cl_int, cl_bool, cl_string, cl_ptr, cl_map, cl_nilFunc, cl_nilIface, cl_slice, opA_move, opA_assign, opA_pick, opA_load, opA_store, opA_nilCheck, opA_fieldAddr, opA_extract, opA_bin, opA_un, opA_call, opA_call0, opA_build0, opA_len, opA_appendS, opA_makeMap, opA_indexAddr, opA_sliceHi, opA_sliceLo, opA_sliceLH, opA_lookup, opA_mapUpdate, opA_build, opA_box, opA_alloc, opA_makeFunc0, opA_makeFunc00,
    contA_val, contA_skip, contA_enter, contA_panic, contA_ite, callA_ret, callA_panic, callA_ite, putT_some, putT_none, aev_tmp, aev_const, aev_func, rd_same, rd_ne, List.length_set, valA_some, skipA_some, pairA_some,
    thenA_normal, thenA_ret, thenA_exit, thenA_panic, thenA_ite, inBlockA_normal, inBlockA_ret, inBlockA_exit, inBlockA_panic, inBlockA_ite, boolOf_bool, loadS_ptr, storeS_ptr, nilCheckS_ptr, nilCheckS_func, fieldAddrS_eq, extractS_tuple, un_not,
    bin_lss, bin_leq, bin_gtr, bin_geq, bin_eql, bin_neq, bin_add, bin_sub, bin_mul, bin_seql, bin_sneq, bin_ptr_eql, bin_ptr_neq, bin_nil_eql, bin_nil_neq, callS_plain, callS_func, lenS_slice, leaveR_ite, leaveR_ret, leaveR_normal, leaveR_panic, resA_tmp, resA_nil, yieldA_S, slotAt_succ, slotAt_zero, yieldS_some, List.getElem?_toArray, List.getElem?_cons_zero, List.getElem?_cons_succ, resA_cell, cellRes_ptr, Option.bind_some, theCode_rangeS, rangeS_cap, callS_cap, roundA_M, roundM_ready, roundB_N, roundB_R, roundB_E, roundN_none, roundN_some, rangeEnd_M, rangeM_ready, rangeM_ret, setAll_nil, setAll_cons, pack_one, pack_two, pack_none,
    Option.map_some, Option.isSome_some, ne_eq, not_false_eq_true, Nat.reduceEqDiff, Nat.reduceLT, if_true, if_false, Nat.reduceAdd, Nat.add_zero, Nat.zero_add, Option.some.injEq, decide_eq_true_eq, List.map_cons, List.map_nil, List.all_cons, List.all_nil, Bool.and_true, List.nil_append, List.append_nil, List.cons_append,
    hl, i0, i1, i2, vc_agg, fl_string, fl_bool, fl_int, info62, off62_0, off62_1, agg9, agg4, loadV_flat, cell_eq, g1, g2, g3, cellO_box, List.getElem?_cons_zero, List.getElem?_cons_succ, hq1, hq2, Bool.not_true, Bool.not_false, Bool.false_eq_true, Bool.true_eq_false, Bool.or_true, Bool.true_or, Bool.or_false, Bool.false_or, Bool.and_false, Bool.false_and, Bool.true_and]


theorem is29_false_true {ext : CallT} (hx : ∀ f args H, f ≠ 22 → ext f args H = none) {H : AHeap} {c1 c2 : Nat} {nm s : ByteArray} {no : Int} (hf : H.Fresh) (hc : H.get c1 = some (.box [.string nm] 9)) (hc2 : H.get c2 = some (.box [.bool true] 4)) :
    theCall Try.prog ext 29 [.agg #[.string s, .bool false, .int .i64 no], .pointer (some ⟨c1, 0, none⟩), .pointer (some ⟨c2, 0, none⟩)] H =
      some (.ret (.bool ((decide (nm = ⟨#[]⟩) || decide (s = nm)) && (false || !true))), H.push (.box [.string s, .bool false, .int .i64 no] 62)) := by
  have g1 : (H.push (.box [.string s, .bool false, .int .i64 no] 62)).get c1 = some (.box [.string nm] 9) := by rw [get_push_old (by have := get_lt hf hc; omega)]; exact hc
  have g2 : (H.push (.box [.string s, .bool false, .int .i64 no] 62)).get c2 = some (.box [.bool true] 4) := by rw [get_push_old (by have := get_lt hf hc2; omega)]; exact hc2
  have g3 : (H.push (.box [.string s, .bool false, .int .i64 no] 62)).get H.next = some (.box [.string s, .bool false, .int .i64 no] 62) := get_push_new
  refine theCall_run (hx _ _ _ (by decide)) Try.func29 (rs := [.tmp 4]) rfl rfl rfl (by simp) fun tm hl hi => ?_
  replace hl : tm.length = 21 := hl
  have i0 := hi 0
  have i1 := hi 1
  have i2 := hi 2
  simp only [List.getD_cons_zero, List.getD_cons_succ] at i0 i1 i2
  obtain ⟨q1, hq1⟩ : ∃ q, decide (nm = ⟨#[]⟩) = q := ⟨_, rfl⟩
  obtain ⟨q2, hq2⟩ : ∃ q, decide (s = nm) = q := ⟨_, rfl⟩
  cases q1 <;> cases q2 <;>
  simp (config := { decide := true }) only [theCode_seq, theCode_list, theCode_skip, theCode_ret, theCode_exit, theCode_label, theCode_block, theCode_if, evalList_plain, evalList_guard, evalList_nil, nd_move, nd_assign, nd_pick, nd_alloc, nd_box, nd_build, nd_buildSlice, nd_load, nd_store, nd_nilCheck, nd_binOp, nd_unOp, nd_convert, nd_makeInterface, nd_makeFunc, nd_makeMap, nd_slice, nd_fieldAddr, nd_field, nd_indexAddr, nd_index, nd_lookup, nd_mapUpdate, nd_typeAssert, nd_extract, nd_call, nd_panic,
    ok_tmp, ok_const, ok_func, cl_int, cl_bool, cl_string, cl_ptr, cl_map, cl_nilFunc, cl_nilIface, cl_slice, opA_move, opA_assign, opA_pick, opA_load, opA_store, opA_nilCheck, opA_fieldAddr, opA_extract, opA_bin, opA_un, opA_call, opA_call0, opA_build0, opA_len, opA_appendS, opA_makeMap, opA_indexAddr, opA_sliceHi, opA_sliceLo, opA_sliceLH, opA_lookup, opA_mapUpdate, opA_build, opA_box, opA_alloc, opA_makeFunc0, opA_makeFunc00,
    contA_val, contA_skip, contA_enter, contA_panic, contA_ite, callA_ret, callA_panic, callA_ite, putT_some, putT_none, aev_tmp, aev_const, aev_func, rd_same, rd_ne, List.length_set, valA_some, skipA_some, pairA_some,
    thenA_normal, thenA_ret, thenA_exit, thenA_panic, thenA_ite, inBlockA_normal, inBlockA_ret, inBlockA_exit, inBlockA_panic, inBlockA_ite, boolOf_bool, loadS_ptr, storeS_ptr, nilCheckS_ptr, nilCheckS_func, fieldAddrS_eq, extractS_tuple, un_not,
    bin_lss, bin_leq, bin_gtr, bin_geq, bin_eql, bin_neq, bin_add, bin_sub, bin_mul, bin_seql, bin_sneq, bin_ptr_eql, bin_ptr_neq, bin_nil_eql, bin_nil_neq, callS_plain, callS_func, lenS_slice, leaveR_ite, leaveR_ret, leaveR_normal, leaveR_panic, resA_tmp, resA_nil, yieldA_S, slotAt_succ, slotAt_zero, yieldS_some, List.getElem?_toArray, List.getElem?_cons_zero, List.getElem?_cons_succ, resA_cell, cellRes_ptr, Option.bind_some, theCode_rangeS, rangeS_cap, callS_cap, roundA_M, roundM_ready, roundB_N, roundB_R, roundB_E, roundN_none, roundN_some, rangeEnd_M, rangeM_ready, rangeM_ret, setAll_nil, setAll_cons, pack_one, pack_two, pack_none,
    Option.map_some, Option.isSome_some, ne_eq, not_false_eq_true, Nat.reduceEqDiff, Nat.reduceLT, if_true, if_false, Nat.reduceAdd, Nat.add_zero, Nat.zero_add, Option.some.injEq, decide_eq_true_eq, List.map_cons, List.map_nil, List.all_cons, List.all_nil, Bool.and_true, List.nil_append, List.append_nil, List.cons_append,
    hl, i0, i1, i2, vc_agg, fl_string, fl_bool, fl_int, info62, off62_0, off62_1, agg9, agg4, loadV_flat, cell_eq, g1, g2, g3, cellO_box, List.getElem?_cons_zero, List.getElem?_cons_succ, hq1, hq2, Bool.not_true, Bool.not_false, Bool.false_eq_true, Bool.true_eq_false, Bool.or_true, Bool.true_or, Bool.or_false, Bool.false_or, Bool.and_false, Bool.false_and, Bool.true_and]


theorem is29_false_false {ext : CallT} (hx : ∀ f args H, f ≠ 22 → ext f args H = none) {H : AHeap} {c1 c2 : Nat} {nm s : ByteArray} {no : Int} (hf : H.Fresh) (hc : H.get c1 = some (.box [.string nm] 9)) (hc2 : H.get c2 = some (.box [.bool false] 4)) :
    theCall Try.prog ext 29 [.agg #[.string s, .bool false, .int .i64 no], .pointer (some ⟨c1, 0, none⟩), .pointer (some ⟨c2, 0, none⟩)] H =
      some (.ret (.bool ((decide (nm = ⟨#[]⟩) || decide (s = nm)) && (false || !false))), H.push (.box [.string s, .bool false, .int .i64 no] 62)) := by
  have g1 : (H.push (.box [.string s, .bool false, .int .i64 no] 62)).get c1 = some (.box [.string nm] 9) := by rw [get_push_old (by have := get_lt hf hc; omega)]; exact hc
  have g2 : (H.push (.box [.string s, .bool false, .int .i64 no] 62)).get c2 = some (.box [.bool false] 4) := by rw [get_push_old (by have := get_lt hf hc2; omega)]; exact hc2
  have g3 : (H.push (.box [.string s, .bool false, .int .i64 no] 62)).get H.next = some (.box [.string s, .bool false, .int .i64 no] 62) := get_push_new
  refine theCall_run (hx _ _ _ (by decide)) Try.func29 (rs := [.tmp 4]) rfl rfl rfl (by simp) fun tm hl hi => ?_
  replace hl : tm.length = 21 := hl
  have i0 := hi 0
  have i1 := hi 1
  have i2 := hi 2
  simp only [List.getD_cons_zero, List.getD_cons_succ] at i0 i1 i2
  obtain ⟨q1, hq1⟩ : ∃ q, decide (nm = ⟨#[]⟩) = q := ⟨_, rfl⟩
  obtain ⟨q2, hq2⟩ : ∃ q, decide (s = nm) = q := ⟨_, rfl⟩
  cases q1 <;> cases q2 <;>
  simp (config := { decide := true }) only [theCode_seq, theCode_list, theCode_skip, theCode_ret, theCode_exit, theCode_label, theCode_block, theCode_if, evalList_plain, evalList_guard, evalList_nil, nd_move, nd_assign, nd_pick, nd_alloc, nd_box, nd_build, nd_buildSlice, nd_load, nd_store, nd_nilCheck, nd_binOp, nd_unOp, nd_convert, nd_makeInterface, nd_makeFunc, nd_makeMap, nd_slice, nd_fieldAddr, nd_field, nd_indexAddr, nd_index, nd_lookup, nd_mapUpdate, nd_typeAssert, nd_extract, nd_call, nd_panic,
    ok_tmp, ok_const, ok_func, cl_int, cl_bool, cl_string, cl_ptr, cl_map, cl_nilFunc, cl_nilIface, cl_slice, opA_move, opA_assign, opA_pick, opA_load, opA_store, opA_nilCheck, opA_fieldAddr, opA_extract, opA_bin, opA_un, opA_call, opA_call0, opA_build0, opA_len, opA_appendS, opA_makeMap, opA_indexAddr, opA_sliceHi, opA_sliceLo, opA_sliceLH, opA_lookup, opA_mapUpdate, opA_build, opA_box, opA_alloc, opA_makeFunc0, opA_makeFunc00,
    contA_val, contA_skip, contA_enter, contA_panic, contA_ite, callA_ret, callA_panic, callA_ite, putT_some, putT_none, aev_tmp, aev_const, aev_func, rd_same, rd_ne, List.length_set, valA_some, skipA_some, pairA_some,
    thenA_normal, thenA_ret, thenA_exit, thenA_panic, thenA_ite, inBlockA_normal, inBlockA_ret, inBlockA_exit, inBlockA_panic, inBlockA_ite, boolOf_bool, loadS_ptr, storeS_ptr, nilCheckS_ptr, nilCheckS_func, fieldAddrS_eq, extractS_tuple, un_not,
    bin_lss, bin_leq, bin_gtr, bin_geq, bin_eql, bin_neq, bin_add, bin_sub, bin_mul, bin_seql, bin_sneq, bin_ptr_eql, bin_ptr_neq, bin_nil_eql, bin_nil_neq, callS_plain, callS_func, lenS_slice, leaveR_ite, leaveR_ret, leaveR_normal, leaveR_panic, resA_tmp, resA_nil, yieldA_S, slotAt_succ, slotAt_zero, yieldS_some, List.getElem?_toArray, List.getElem?_cons_zero, List.getElem?_cons_succ, resA_cell, cellRes_ptr, Option.bind_some, theCode_rangeS, rangeS_cap, callS_cap, roundA_M, roundM_ready, roundB_N, roundB_R, roundB_E, roundN_none, roundN_some, rangeEnd_M, rangeM_ready, rangeM_ret, setAll_nil, setAll_cons, pack_one, pack_two, pack_none,
    Option.map_some, Option.isSome_some, ne_eq, not_false_eq_true, Nat.reduceEqDiff, Nat.reduceLT, if_true, if_false, Nat.reduceAdd, Nat.add_zero, Nat.zero_add, Option.some.injEq, decide_eq_true_eq, List.map_cons, List.map_nil, List.all_cons, List.all_nil, Bool.and_true, List.nil_append, List.append_nil, List.cons_append,
    hl, i0, i1, i2, vc_agg, fl_string, fl_bool, fl_int, info62, off62_0, off62_1, agg9, agg4, loadV_flat, cell_eq, g1, g2, g3, cellO_box, List.getElem?_cons_zero, List.getElem?_cons_succ, hq1, hq2, Bool.not_true, Bool.not_false, Bool.false_eq_true, Bool.true_eq_false, Bool.or_true, Bool.true_or, Bool.or_false, Bool.false_or, Bool.and_false, Bool.false_and, Bool.true_and]


theorem is29 {ext : CallT} (hx : ∀ f args H, f ≠ 22 → ext f args H = none) {H : AHeap} {c1 c2 : Nat} {nm s : ByteArray} {tn lp : Bool} {no : Int} (hf : H.Fresh) (hc : H.get c1 = some (.box [.string nm] 9)) (hc2 : H.get c2 = some (.box [.bool tn] 4)) :
    theCall Try.prog ext 29 [.agg #[.string s, .bool lp, .int .i64 no], .pointer (some ⟨c1, 0, none⟩), .pointer (some ⟨c2, 0, none⟩)] H =
      some (.ret (.bool ((decide (nm = ⟨#[]⟩) || decide (s = nm)) && (lp || !tn))), H.push (.box [.string s, .bool lp, .int .i64 no] 62)) := by
  cases lp <;> cases tn
  · exact is29_false_false hx hf hc hc2
  · exact is29_false_true hx hf hc hc2
  · exact is29_true_false hx hf hc hc2
  · exact is29_true_true hx hf hc hc2

theorem is32 {ext : CallT} (hx : ∀ f args H, f ≠ 22 → ext f args H = none) {H : AHeap} {c1 : Nat} {nm s : ByteArray} {lp : Bool} {no : Int} (hf : H.Fresh) (hc : H.get c1 = some (.box [.string nm] 9)) :
    theCall Try.prog ext 32 [.agg #[.string s, .bool lp, .int .i64 no], .pointer (some ⟨c1, 0, none⟩)] H =
      some (.ret (.bool (!decide (nm = ⟨#[]⟩) && decide (s = nm))), H.push (.box [.string s, .bool lp, .int .i64 no] 62)) := by
  have g1 : (H.push (.box [.string s, .bool lp, .int .i64 no] 62)).get c1 = some (.box [.string nm] 9) := by rw [get_push_old (by have := get_lt hf hc; omega)]; exact hc
  have g3 : (H.push (.box [.string s, .bool lp, .int .i64 no] 62)).get H.next = some (.box [.string s, .bool lp, .int .i64 no] 62) := get_push_new
  refine theCall_run (hx _ _ _ (by decide)) Try.func32 (rs := [.tmp 3]) rfl rfl rfl (by simp) fun tm hl hi => ?_
  replace hl : tm.length = 12 := hl
  have i0 := hi 0
  have i1 := hi 1
  simp only [List.getD_cons_zero, List.getD_cons_succ] at i0 i1
  obtain ⟨q1, hq1⟩ : ∃ q, decide (nm = ⟨#[]⟩) = q := ⟨_, rfl⟩
  obtain ⟨q2, hq2⟩ : ∃ q, decide (s = nm) = q := ⟨_, rfl⟩
  cases q1 <;> cases q2 <;>
  simp (config := { decide := true }) only [theCode_seq, theCode_list, theCode_skip, theCode_ret, theCode_exit, theCode_label, theCode_block, theCode_if, evalList_plain, evalList_guard, evalList_nil, nd_move, nd_assign, nd_pick, nd_alloc, nd_box, nd_build, nd_buildSlice, nd_load, nd_store, nd_nilCheck, nd_binOp, nd_unOp, nd_convert, nd_makeInterface, nd_makeFunc, nd_makeMap, nd_slice, nd_fieldAddr, nd_field, nd_indexAddr, nd_index, nd_lookup, nd_mapUpdate, nd_typeAssert, nd_extract, nd_call, nd_panic,
    ok_tmp, ok_const, ok_func, cl_int, cl_bool, cl_string, cl_ptr, cl_map, cl_nilFunc, cl_nilIface, cl_slice, opA_move, opA_assign, opA_pick, opA_load, opA_store, opA_nilCheck, opA_fieldAddr, opA_extract, opA_bin, opA_un, opA_call, opA_call0, opA_build0, opA_len, opA_appendS, opA_makeMap, opA_indexAddr, opA_sliceHi, opA_sliceLo, opA_sliceLH, opA_lookup, opA_mapUpdate, opA_build, opA_box, opA_alloc, opA_makeFunc0, opA_makeFunc00,
    contA_val, contA_skip, contA_enter, contA_panic, contA_ite, callA_ret, callA_panic, callA_ite, putT_some, putT_none, aev_tmp, aev_const, aev_func, rd_same, rd_ne, List.length_set, valA_some, skipA_some, pairA_some,
    thenA_normal, thenA_ret, thenA_exit, thenA_panic, thenA_ite, inBlockA_normal, inBlockA_ret, inBlockA_exit, inBlockA_panic, inBlockA_ite, boolOf_bool, loadS_ptr, storeS_ptr, nilCheckS_ptr, nilCheckS_func, fieldAddrS_eq, extractS_tuple, un_not,
    bin_lss, bin_leq, bin_gtr, bin_geq, bin_eql, bin_neq, bin_add, bin_sub, bin_mul, bin_seql, bin_sneq, bin_ptr_eql, bin_ptr_neq, bin_nil_eql, bin_nil_neq, callS_plain, callS_func, lenS_slice, leaveR_ite, leaveR_ret, leaveR_normal, leaveR_panic, resA_tmp, resA_nil, yieldA_S, slotAt_succ, slotAt_zero, yieldS_some, List.getElem?_toArray, List.getElem?_cons_zero, List.getElem?_cons_succ, resA_cell, cellRes_ptr, Option.bind_some, theCode_rangeS, rangeS_cap, callS_cap, roundA_M, roundM_ready, roundB_N, roundB_R, roundB_E, roundN_none, roundN_some, rangeEnd_M, rangeM_ready, rangeM_ret, setAll_nil, setAll_cons, pack_one, pack_two, pack_none,
    Option.map_some, Option.isSome_some, ne_eq, not_false_eq_true, Nat.reduceEqDiff, Nat.reduceLT, if_true, if_false, Nat.reduceAdd, Nat.add_zero, Nat.zero_add, Option.some.injEq, decide_eq_true_eq, List.map_cons, List.map_nil, List.all_cons, List.all_nil, Bool.and_true, List.nil_append, List.append_nil, List.cons_append,
    hl, i0, i1, vc_agg, fl_string, fl_bool, fl_int, info62, off62_0, off62_1, agg9, agg4, loadV_flat, cell_eq, g1, g3, cellO_box, List.getElem?_cons_zero, List.getElem?_cons_succ, hq1, hq2, Bool.not_true, Bool.not_false, Bool.false_eq_true, Bool.true_eq_false, Bool.or_true, Bool.true_or, Bool.or_false, Bool.false_or, Bool.and_false, Bool.false_and, Bool.true_and]

end Go.Proofs.Ytnjoaffnfjlcaaa
