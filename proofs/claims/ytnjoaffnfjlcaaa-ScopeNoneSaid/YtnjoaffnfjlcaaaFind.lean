/-
  slices.Backward, ranged over; scope.stack.find.
-/
import Derived.Test.YtnjoaffnfjlcaaaFacts
import Derived.Test.YtnjoaffnfjlcaaaB37
import Derived.IntWalk
namespace Go.Proofs.Ytnjoaffnfjlcaaa
open Go Go.Proofs B
set_option linter.unusedSimpArgs false


theorem size_ne {K : Nat} : Try.prog.funcs.size + K ≠ 22 := by
  have : Try.prog.funcs.size = 66 := by kernel_rfl
  omega


theorem bw47 {ext : CallT} (hx : ∀ f args H, f ≠ 22 → ext f args H = none) {F : Option (AEnd × AHeap) → Prop} {H : AHeap} {K c n : Nat} {bl : Value} {cells : List Value} (hn : n < 1000000) {val : Nat → Value} (p : Nat → Bool) (J : AHeap → Prop) (Good : Nat → AHeap → Prop)
    (hJ : ∀ H, J H → H.get c = some (.box [bl] 48) ∧ Own H 56 1 bl n cells ∧ (∃ r0, H.get K = some (.loop r0) ∧ r0.params.size = 2) ∧ ∀ i, i < n → H.loadV Try.prog 56 (addA (baseOf bl) (i * 1)) = some (val i))
    (hr : ∀ (i : Nat) (H : AHeap), i < n → J H → (p i = false ∧ ∃ H', theCall Try.prog ext (Try.prog.funcs.size + K) [.int .i64 i, val i] H = some (.ret (.bool true), H') ∧ J H') ∨ (p i = true ∧ ∃ H', theCall Try.prog ext (Try.prog.funcs.size + K) [.int .i64 i, val i] H = some (.ret (.bool false), H') ∧ Good i H'))
    (h0 : J H) (hF : ∀ H', (match lastI p n with | some i => Good i H' | none => J H') → F (some (.ret (.tuple #[]), H'))) :
    F (theCall Try.prog ext 47 [.func (.yield K) #[] #[], .pointer (some ⟨c, 0, none⟩)] H) := by
  suffices hs : ∃ H', theCall Try.prog ext 47 [.func (.yield K) #[] #[], .pointer (some ⟨c, 0, none⟩)] H = some (.ret (.tuple #[]), H') ∧ (match lastI p n with | some i => Good i H' | none => J H') by
    obtain ⟨H', h1, h2⟩ := hs
    rw [h1]; exact hF H' h2
  obtain ⟨hc, ho, ⟨r0, hK, hp⟩, hval⟩ := hJ H h0
  have c3 := fun H2 => ho.lenS isl48 H2
  refine theCall_goal (F := fun z => ∃ H', z = some (.ret (.tuple #[]), H') ∧ (match lastI p n with | some i => Good i H' | none => J H')) (hx _ _ _ (by decide)) Try.func47 (rs := []) rfl rfl rfl (by simp) fun tm hl hi => ?_
  replace hl : tm.length = 19 := hl
  have i0 := hi 0
  have i1 := hi 1
  simp only [List.getD_cons_zero, List.getD_cons_succ] at i0 i1
  simp (config := { decide := true }) only [theCode_seq, theCode_list, theCode_skip, theCode_ret, theCode_exit, theCode_label, theCode_block, theCode_if, evalList_plain, evalList_guard, evalList_nil, nd_move, nd_assign, nd_pick, nd_alloc, nd_box, nd_build, nd_buildSlice, nd_load, nd_store, nd_nilCheck, nd_binOp, nd_unOp, nd_convert, nd_makeInterface, nd_makeFunc, nd_makeMap, nd_slice, nd_fieldAddr, nd_field, nd_indexAddr, nd_index, nd_lookup, nd_mapUpdate, nd_typeAssert, nd_extract, nd_call, nd_panic,
    ok_tmp, ok_const, ok_func, cl_int, cl_bool, cl_string, cl_ptr, cl_map, cl_nilFunc, cl_nilIface, cl_slice, opA_move, opA_assign, opA_pick, opA_load, opA_store, opA_nilCheck, opA_fieldAddr, opA_extract, opA_bin, opA_un, opA_call, opA_call0, opA_build0, opA_len, opA_appendS, opA_makeMap, opA_indexAddr, opA_sliceHi, opA_sliceLo, opA_sliceLH, opA_lookup, opA_mapUpdate, opA_build, opA_box, opA_alloc, opA_makeFunc0, opA_makeFunc00,
    contA_val, contA_skip, contA_enter, contA_panic, contA_ite, callA_ret, callA_panic, callA_ite, putT_some, putT_none, aev_tmp, aev_const, aev_func, rd_same, rd_ne, List.length_set, valA_some, skipA_some, pairA_some,
    thenA_normal, thenA_ret, thenA_exit, thenA_panic, thenA_ite, inBlockA_normal, inBlockA_ret, inBlockA_exit, inBlockA_panic, inBlockA_ite, boolOf_bool, loadS_ptr, storeS_ptr, nilCheckS_ptr, nilCheckS_func, fieldAddrS_eq, extractS_tuple, un_not,
    bin_lss, bin_leq, bin_gtr, bin_geq, bin_eql, bin_neq, bin_add, bin_sub, bin_mul, bin_seql, bin_sneq, bin_ptr_eql, bin_ptr_neq, bin_nil_eql, bin_nil_neq, callS_plain, callS_func, lenS_slice, leaveR_ite, leaveR_ret, leaveR_normal, leaveR_panic, resA_tmp, resA_nil, yieldA_S, slotAt_succ, slotAt_zero, yieldS_some, List.getElem?_toArray, List.getElem?_cons_zero, List.getElem?_cons_succ, resA_cell, cellRes_ptr, Option.bind_some, theCode_rangeS, rangeS_cap, callS_cap, roundA_M, roundM_ready, roundB_N, roundB_R, roundB_E, roundN_none, roundN_some, rangeEnd_M, rangeM_ready, rangeM_ret, setAll_nil, setAll_cons, pack_one, pack_two, pack_none,
    Option.map_some, Option.isSome_some, ne_eq, not_false_eq_true, Nat.reduceEqDiff, Nat.reduceLT, if_true, if_false, Nat.reduceAdd, Nat.add_zero, Nat.zero_add, Option.some.injEq, decide_eq_true_eq, List.map_cons, List.map_nil, List.all_cons, List.all_nil, Bool.and_true, List.nil_append, List.append_nil, List.cons_append,
    hl, i0, i1, agg48, loadV_flat, cell_eq, hc, cellO_box, List.getElem?_cons_zero, c3]
  refine loop_goal (F := fun z => ∃ H', leaveR Try.prog [] (inBlockA 0 z) = some (.ret (.tuple #[]), H') ∧ (match lastI p n with | some i => Good i H' | none => J H'))
    (fun k s => ∃ tm H, s = ⟨tm, [], H⟩ ∧ tm.length = 19 ∧ tm.getD 0 undef = .func (.yield K) #[] #[] ∧ tm.getD 1 undef = .pointer (some ⟨c, 0, none⟩) ∧ tm.getD 3 undef = .int .i64 ((k : Int) - 1) ∧ k ≤ n ∧ lastI p n = lastI p k ∧ J H)
    (fun x s => ∃ tm H', s = ⟨tm, [], H'⟩ ∧ (x = .exit 0 ∨ x = .ret) ∧ (match lastI p n with | some i => Good i H' | none => J H')) n ?_ ?_ ?_
  · refine ⟨_, _, rfl, ?_, ?_, ?_, ?_, Nat.le_refl _, rfl, h0⟩
    · simp only [List.length_set, hl]
    · simp (config := { decide := true }) only [rd_ne, ne_eq, not_false_eq_true, i0]
    · simp (config := { decide := true }) only [rd_ne, ne_eq, not_false_eq_true, i1]
    · simp (config := { decide := true }) only [rd_same, List.length_set, hl]
      rw [IntWalk.i64_in _ (by omega)]
  · rintro k _ ⟨tm, H, rfl, hl, i0, i1, i3, hk, hlast, hJH⟩
    obtain ⟨hc, ho, ⟨r0, hK, hp⟩, hval⟩ := hJ H hJH
    cases k with
    | zero =>
      right
      refine ⟨?x0, ?s0, ?h0, ?hx0, ?hq0⟩
      case h0 =>
        simp (config := { decide := true }) only [theCode_seq, theCode_list, theCode_skip, theCode_ret, theCode_exit, theCode_label, theCode_block, theCode_if, evalList_plain, evalList_guard, evalList_nil, nd_move, nd_assign, nd_pick, nd_alloc, nd_box, nd_build, nd_buildSlice, nd_load, nd_store, nd_nilCheck, nd_binOp, nd_unOp, nd_convert, nd_makeInterface, nd_makeFunc, nd_makeMap, nd_slice, nd_fieldAddr, nd_field, nd_indexAddr, nd_index, nd_lookup, nd_mapUpdate, nd_typeAssert, nd_extract, nd_call, nd_panic,
    ok_tmp, ok_const, ok_func, cl_int, cl_bool, cl_string, cl_ptr, cl_map, cl_nilFunc, cl_nilIface, cl_slice, opA_move, opA_assign, opA_pick, opA_load, opA_store, opA_nilCheck, opA_fieldAddr, opA_extract, opA_bin, opA_un, opA_call, opA_call0, opA_build0, opA_len, opA_appendS, opA_makeMap, opA_indexAddr, opA_sliceHi, opA_sliceLo, opA_sliceLH, opA_lookup, opA_mapUpdate, opA_build, opA_box, opA_alloc, opA_makeFunc0, opA_makeFunc00,
    contA_val, contA_skip, contA_enter, contA_panic, contA_ite, callA_ret, callA_panic, callA_ite, putT_some, putT_none, aev_tmp, aev_const, aev_func, rd_same, rd_ne, List.length_set, valA_some, skipA_some, pairA_some,
    thenA_normal, thenA_ret, thenA_exit, thenA_panic, thenA_ite, inBlockA_normal, inBlockA_ret, inBlockA_exit, inBlockA_panic, inBlockA_ite, boolOf_bool, loadS_ptr, storeS_ptr, nilCheckS_ptr, nilCheckS_func, fieldAddrS_eq, extractS_tuple, un_not,
    bin_lss, bin_leq, bin_gtr, bin_geq, bin_eql, bin_neq, bin_add, bin_sub, bin_mul, bin_seql, bin_sneq, bin_ptr_eql, bin_ptr_neq, bin_nil_eql, bin_nil_neq, callS_plain, callS_func, lenS_slice, leaveR_ite, leaveR_ret, leaveR_normal, leaveR_panic, resA_tmp, resA_nil, yieldA_S, slotAt_succ, slotAt_zero, yieldS_some, List.getElem?_toArray, List.getElem?_cons_zero, List.getElem?_cons_succ, resA_cell, cellRes_ptr, Option.bind_some, theCode_rangeS, rangeS_cap, callS_cap, roundA_M, roundM_ready, roundB_N, roundB_R, roundB_E, roundN_none, roundN_some, rangeEnd_M, rangeM_ready, rangeM_ret, setAll_nil, setAll_cons, pack_one, pack_two, pack_none,
    Option.map_some, Option.isSome_some, ne_eq, not_false_eq_true, Nat.reduceEqDiff, Nat.reduceLT, if_true, if_false, Nat.reduceAdd, Nat.add_zero, Nat.zero_add, Option.some.injEq, decide_eq_true_eq, List.map_cons, List.map_nil, List.all_cons, List.all_nil, Bool.and_true, List.nil_append, List.append_nil, List.cons_append, hl, i0, i1, i3]
        rfl
      case hx0 => exact fun h => by cases h
      case hq0 =>
        refine ⟨_, _, rfl, .inl rfl, ?_⟩
        rw [hlast]; exact hJH
    | succ k =>
      have i3' : tm.getD 3 undef = .int .i64 k := by rw [i3]; congr 1; omega
      have hge : (0 : Int) ≤ k := by omega
      have hix := indexAddrS_own (j := k) (k := .i64) ho (by omega) (by omega) es48 H
      rw [Int.toNat_natCast] at hix
      have hv := hval k (by omega)
      rw [loadV_flat agg56] at hv
      have hcs := callS_yield (P := Try.prog) (args := [.int .i64 k, val k]) hK (by rw [hp]; rfl)
      rcases hr k H (by omega) hJH with ⟨hpk, H', hrd, hJ'⟩ | ⟨hpk, H', hrd, hg⟩
      · left
        refine ⟨?s1, ?h1, k, Nat.lt_succ_self _, ?hq1⟩
        case h1 =>
          simp (config := { decide := true }) only [theCode_seq, theCode_list, theCode_skip, theCode_ret, theCode_exit, theCode_label, theCode_block, theCode_if, evalList_plain, evalList_guard, evalList_nil, nd_move, nd_assign, nd_pick, nd_alloc, nd_box, nd_build, nd_buildSlice, nd_load, nd_store, nd_nilCheck, nd_binOp, nd_unOp, nd_convert, nd_makeInterface, nd_makeFunc, nd_makeMap, nd_slice, nd_fieldAddr, nd_field, nd_indexAddr, nd_index, nd_lookup, nd_mapUpdate, nd_typeAssert, nd_extract, nd_call, nd_panic,
    ok_tmp, ok_const, ok_func, cl_int, cl_bool, cl_string, cl_ptr, cl_map, cl_nilFunc, cl_nilIface, cl_slice, opA_move, opA_assign, opA_pick, opA_load, opA_store, opA_nilCheck, opA_fieldAddr, opA_extract, opA_bin, opA_un, opA_call, opA_call0, opA_build0, opA_len, opA_appendS, opA_makeMap, opA_indexAddr, opA_sliceHi, opA_sliceLo, opA_sliceLH, opA_lookup, opA_mapUpdate, opA_build, opA_box, opA_alloc, opA_makeFunc0, opA_makeFunc00,
    contA_val, contA_skip, contA_enter, contA_panic, contA_ite, callA_ret, callA_panic, callA_ite, putT_some, putT_none, aev_tmp, aev_const, aev_func, rd_same, rd_ne, List.length_set, valA_some, skipA_some, pairA_some,
    thenA_normal, thenA_ret, thenA_exit, thenA_panic, thenA_ite, inBlockA_normal, inBlockA_ret, inBlockA_exit, inBlockA_panic, inBlockA_ite, boolOf_bool, loadS_ptr, storeS_ptr, nilCheckS_ptr, nilCheckS_func, fieldAddrS_eq, extractS_tuple, un_not,
    bin_lss, bin_leq, bin_gtr, bin_geq, bin_eql, bin_neq, bin_add, bin_sub, bin_mul, bin_seql, bin_sneq, bin_ptr_eql, bin_ptr_neq, bin_nil_eql, bin_nil_neq, callS_plain, callS_func, lenS_slice, leaveR_ite, leaveR_ret, leaveR_normal, leaveR_panic, resA_tmp, resA_nil, yieldA_S, slotAt_succ, slotAt_zero, yieldS_some, List.getElem?_toArray, List.getElem?_cons_zero, List.getElem?_cons_succ, resA_cell, cellRes_ptr, Option.bind_some, theCode_rangeS, rangeS_cap, callS_cap, roundA_M, roundM_ready, roundB_N, roundB_R, roundB_E, roundN_none, roundN_some, rangeEnd_M, rangeM_ready, rangeM_ret, setAll_nil, setAll_cons, pack_one, pack_two, pack_none,
    Option.map_some, Option.isSome_some, ne_eq, not_false_eq_true, Nat.reduceEqDiff, Nat.reduceLT, if_true, if_false, Nat.reduceAdd, Nat.add_zero, Nat.zero_add, Option.some.injEq, decide_eq_true_eq, List.map_cons, List.map_nil, List.all_cons, List.all_nil, Bool.and_true, List.nil_append, List.append_nil, List.cons_append, hl, i0, i1, i3', hge, agg48, loadV_flat, cell_eq, hc, cellO_box, List.getElem?_cons_zero, hix, hv, hcs, hrd, sli48, Bool.not_true, Bool.not_false, Bool.false_eq_true]
          rfl
        case hq1 =>
          refine ⟨_, _, rfl, ?_, ?_, ?_, ?_, by omega, ?_, hJ'⟩
          · simp only [List.length_set, hl]
          · simp (config := { decide := true }) only [rd_ne, ne_eq, not_false_eq_true, i0]
          · simp (config := { decide := true }) only [rd_ne, ne_eq, not_false_eq_true, i1]
          · simp (config := { decide := true }) only [rd_same, List.length_set, hl]
            rw [IntWalk.i64_in _ (by omega)]
          · rw [hlast, lastI_succ, hpk]; rfl
      · right
        refine ⟨?x2, ?s2, ?h2, ?hx2, ?hq2⟩
        case h2 =>
          simp (config := { decide := true }) only [theCode_seq, theCode_list, theCode_skip, theCode_ret, theCode_exit, theCode_label, theCode_block, theCode_if, evalList_plain, evalList_guard, evalList_nil, nd_move, nd_assign, nd_pick, nd_alloc, nd_box, nd_build, nd_buildSlice, nd_load, nd_store, nd_nilCheck, nd_binOp, nd_unOp, nd_convert, nd_makeInterface, nd_makeFunc, nd_makeMap, nd_slice, nd_fieldAddr, nd_field, nd_indexAddr, nd_index, nd_lookup, nd_mapUpdate, nd_typeAssert, nd_extract, nd_call, nd_panic,
    ok_tmp, ok_const, ok_func, cl_int, cl_bool, cl_string, cl_ptr, cl_map, cl_nilFunc, cl_nilIface, cl_slice, opA_move, opA_assign, opA_pick, opA_load, opA_store, opA_nilCheck, opA_fieldAddr, opA_extract, opA_bin, opA_un, opA_call, opA_call0, opA_build0, opA_len, opA_appendS, opA_makeMap, opA_indexAddr, opA_sliceHi, opA_sliceLo, opA_sliceLH, opA_lookup, opA_mapUpdate, opA_build, opA_box, opA_alloc, opA_makeFunc0, opA_makeFunc00,
    contA_val, contA_skip, contA_enter, contA_panic, contA_ite, callA_ret, callA_panic, callA_ite, putT_some, putT_none, aev_tmp, aev_const, aev_func, rd_same, rd_ne, List.length_set, valA_some, skipA_some, pairA_some,
    thenA_normal, thenA_ret, thenA_exit, thenA_panic, thenA_ite, inBlockA_normal, inBlockA_ret, inBlockA_exit, inBlockA_panic, inBlockA_ite, boolOf_bool, loadS_ptr, storeS_ptr, nilCheckS_ptr, nilCheckS_func, fieldAddrS_eq, extractS_tuple, un_not,
    bin_lss, bin_leq, bin_gtr, bin_geq, bin_eql, bin_neq, bin_add, bin_sub, bin_mul, bin_seql, bin_sneq, bin_ptr_eql, bin_ptr_neq, bin_nil_eql, bin_nil_neq, callS_plain, callS_func, lenS_slice, leaveR_ite, leaveR_ret, leaveR_normal, leaveR_panic, resA_tmp, resA_nil, yieldA_S, slotAt_succ, slotAt_zero, yieldS_some, List.getElem?_toArray, List.getElem?_cons_zero, List.getElem?_cons_succ, resA_cell, cellRes_ptr, Option.bind_some, theCode_rangeS, rangeS_cap, callS_cap, roundA_M, roundM_ready, roundB_N, roundB_R, roundB_E, roundN_none, roundN_some, rangeEnd_M, rangeM_ready, rangeM_ret, setAll_nil, setAll_cons, pack_one, pack_two, pack_none,
    Option.map_some, Option.isSome_some, ne_eq, not_false_eq_true, Nat.reduceEqDiff, Nat.reduceLT, if_true, if_false, Nat.reduceAdd, Nat.add_zero, Nat.zero_add, Option.some.injEq, decide_eq_true_eq, List.map_cons, List.map_nil, List.all_cons, List.all_nil, Bool.and_true, List.nil_append, List.append_nil, List.cons_append, hl, i0, i1, i3', hge, agg48, loadV_flat, cell_eq, hc, cellO_box, List.getElem?_cons_zero, hix, hv, hcs, hrd, sli48, Bool.not_true, Bool.not_false, Bool.false_eq_true]
          rfl
        case hx2 => exact fun h => by cases h
        case hq2 =>
          refine ⟨_, _, rfl, .inr rfl, ?_⟩
          rw [hlast, lastI_succ, if_pos hpk]; exact hg
  · rintro x _ hx' ⟨tm, H', rfl, hxx, hm⟩
    refine ⟨H', ?_, hm⟩
    rcases hxx with rfl | rfl
    · simp only [theCode_seq, theCode_list, theCode_skip, theCode_ret, theCode_exit, theCode_label, theCode_block, theCode_if, evalList_plain, evalList_guard, evalList_nil, nd_move, nd_assign, nd_pick, nd_alloc, nd_box, nd_build, nd_buildSlice, nd_load, nd_store, nd_nilCheck, nd_binOp, nd_unOp, nd_convert, nd_makeInterface, nd_makeFunc, nd_makeMap, nd_slice, nd_fieldAddr, nd_field, nd_indexAddr, nd_index, nd_lookup, nd_mapUpdate, nd_typeAssert, nd_extract, nd_call, nd_panic,
    ok_tmp, ok_const, ok_func, cl_int, cl_bool, cl_string, cl_ptr, cl_map, cl_nilFunc, cl_nilIface, cl_slice, opA_move, opA_assign, opA_pick, opA_load, opA_store, opA_nilCheck, opA_fieldAddr, opA_extract, opA_bin, opA_un, opA_call, opA_call0, opA_build0, opA_len, opA_appendS, opA_makeMap, opA_indexAddr, opA_sliceHi, opA_sliceLo, opA_sliceLH, opA_lookup, opA_mapUpdate, opA_build, opA_box, opA_alloc, opA_makeFunc0, opA_makeFunc00,
    contA_val, contA_skip, contA_enter, contA_panic, contA_ite, callA_ret, callA_panic, callA_ite, putT_some, putT_none, aev_tmp, aev_const, aev_func, rd_same, rd_ne, List.length_set, valA_some, skipA_some, pairA_some,
    thenA_normal, thenA_ret, thenA_exit, thenA_panic, thenA_ite, inBlockA_normal, inBlockA_ret, inBlockA_exit, inBlockA_panic, inBlockA_ite, boolOf_bool, loadS_ptr, storeS_ptr, nilCheckS_ptr, nilCheckS_func, fieldAddrS_eq, extractS_tuple, un_not,
    bin_lss, bin_leq, bin_gtr, bin_geq, bin_eql, bin_neq, bin_add, bin_sub, bin_mul, bin_seql, bin_sneq, bin_ptr_eql, bin_ptr_neq, bin_nil_eql, bin_nil_neq, callS_plain, callS_func, lenS_slice, leaveR_ite, leaveR_ret, leaveR_normal, leaveR_panic, resA_tmp, resA_nil, yieldA_S, slotAt_succ, slotAt_zero, yieldS_some, List.getElem?_toArray, List.getElem?_cons_zero, List.getElem?_cons_succ, resA_cell, cellRes_ptr, Option.bind_some, theCode_rangeS, rangeS_cap, callS_cap, roundA_M, roundM_ready, roundB_N, roundB_R, roundB_E, roundN_none, roundN_some, rangeEnd_M, rangeM_ready, rangeM_ret, setAll_nil, setAll_cons, pack_one, pack_two, pack_none,
    Option.map_some, Option.isSome_some, ne_eq, not_false_eq_true, Nat.reduceEqDiff, Nat.reduceLT, if_true, if_false, Nat.reduceAdd, Nat.add_zero, Nat.zero_add, Option.some.injEq, decide_eq_true_eq, List.map_cons, List.map_nil, List.all_cons, List.all_nil, Bool.and_true, List.nil_append, List.append_nil, List.cons_append]
    · simp only [theCode_seq, theCode_list, theCode_skip, theCode_ret, theCode_exit, theCode_label, theCode_block, theCode_if, evalList_plain, evalList_guard, evalList_nil, nd_move, nd_assign, nd_pick, nd_alloc, nd_box, nd_build, nd_buildSlice, nd_load, nd_store, nd_nilCheck, nd_binOp, nd_unOp, nd_convert, nd_makeInterface, nd_makeFunc, nd_makeMap, nd_slice, nd_fieldAddr, nd_field, nd_indexAddr, nd_index, nd_lookup, nd_mapUpdate, nd_typeAssert, nd_extract, nd_call, nd_panic,
    ok_tmp, ok_const, ok_func, cl_int, cl_bool, cl_string, cl_ptr, cl_map, cl_nilFunc, cl_nilIface, cl_slice, opA_move, opA_assign, opA_pick, opA_load, opA_store, opA_nilCheck, opA_fieldAddr, opA_extract, opA_bin, opA_un, opA_call, opA_call0, opA_build0, opA_len, opA_appendS, opA_makeMap, opA_indexAddr, opA_sliceHi, opA_sliceLo, opA_sliceLH, opA_lookup, opA_mapUpdate, opA_build, opA_box, opA_alloc, opA_makeFunc0, opA_makeFunc00,
    contA_val, contA_skip, contA_enter, contA_panic, contA_ite, callA_ret, callA_panic, callA_ite, putT_some, putT_none, aev_tmp, aev_const, aev_func, rd_same, rd_ne, List.length_set, valA_some, skipA_some, pairA_some,
    thenA_normal, thenA_ret, thenA_exit, thenA_panic, thenA_ite, inBlockA_normal, inBlockA_ret, inBlockA_exit, inBlockA_panic, inBlockA_ite, boolOf_bool, loadS_ptr, storeS_ptr, nilCheckS_ptr, nilCheckS_func, fieldAddrS_eq, extractS_tuple, un_not,
    bin_lss, bin_leq, bin_gtr, bin_geq, bin_eql, bin_neq, bin_add, bin_sub, bin_mul, bin_seql, bin_sneq, bin_ptr_eql, bin_ptr_neq, bin_nil_eql, bin_nil_neq, callS_plain, callS_func, lenS_slice, leaveR_ite, leaveR_ret, leaveR_normal, leaveR_panic, resA_tmp, resA_nil, yieldA_S, slotAt_succ, slotAt_zero, yieldS_some, List.getElem?_toArray, List.getElem?_cons_zero, List.getElem?_cons_succ, resA_cell, cellRes_ptr, Option.bind_some, theCode_rangeS, rangeS_cap, callS_cap, roundA_M, roundM_ready, roundB_N, roundB_R, roundB_E, roundN_none, roundN_some, rangeEnd_M, rangeM_ready, rangeM_ret, setAll_nil, setAll_cons, pack_one, pack_two, pack_none,
    Option.map_some, Option.isSome_some, ne_eq, not_false_eq_true, Nat.reduceEqDiff, Nat.reduceLT, if_true, if_false, Nat.reduceAdd, Nat.add_zero, Nat.zero_add, Option.some.injEq, decide_eq_true_eq, List.map_cons, List.map_nil, List.all_cons, List.all_nil, Bool.and_true, List.nil_append, List.append_nil, List.cons_append]


theorem bw48 {ext : CallT} (hx : ∀ f args H, f ≠ 22 → ext f args H = none) {F : Option (AEnd × AHeap) → Prop} {H : AHeap} {K c n : Nat} {bl : Value} {cells : List Value} (hn : n < 1000000) {val : Nat → Value} (p : Nat → Bool) (J : AHeap → Prop) (Good : Nat → AHeap → Prop)
    (hJ : ∀ H, J H → H.get c = some (.box [bl] 51) ∧ Own H 62 3 bl n cells ∧ (∃ r0, H.get K = some (.loop r0) ∧ r0.params.size = 2) ∧ ∀ i, i < n → H.loadV Try.prog 62 (addA (baseOf bl) (i * 3)) = some (val i))
    (hr : ∀ (i : Nat) (H : AHeap), i < n → J H → (p i = false ∧ ∃ H', theCall Try.prog ext (Try.prog.funcs.size + K) [.int .i64 i, val i] H = some (.ret (.bool true), H') ∧ J H') ∨ (p i = true ∧ ∃ H', theCall Try.prog ext (Try.prog.funcs.size + K) [.int .i64 i, val i] H = some (.ret (.bool false), H') ∧ Good i H'))
    (h0 : J H) (hF : ∀ H', (match lastI p n with | some i => Good i H' | none => J H') → F (some (.ret (.tuple #[]), H'))) :
    F (theCall Try.prog ext 48 [.func (.yield K) #[] #[], .pointer (some ⟨c, 0, none⟩)] H) := by
  suffices hs : ∃ H', theCall Try.prog ext 48 [.func (.yield K) #[] #[], .pointer (some ⟨c, 0, none⟩)] H = some (.ret (.tuple #[]), H') ∧ (match lastI p n with | some i => Good i H' | none => J H') by
    obtain ⟨H', h1, h2⟩ := hs
    rw [h1]; exact hF H' h2
  obtain ⟨hc, ho, ⟨r0, hK, hp⟩, hval⟩ := hJ H h0
  have c3 := fun H2 => ho.lenS isl51 H2
  refine theCall_goal (F := fun z => ∃ H', z = some (.ret (.tuple #[]), H') ∧ (match lastI p n with | some i => Good i H' | none => J H')) (hx _ _ _ (by decide)) Try.func48 (rs := []) rfl rfl rfl (by simp) fun tm hl hi => ?_
  replace hl : tm.length = 19 := hl
  have i0 := hi 0
  have i1 := hi 1
  simp only [List.getD_cons_zero, List.getD_cons_succ] at i0 i1
  simp (config := { decide := true }) only [theCode_seq, theCode_list, theCode_skip, theCode_ret, theCode_exit, theCode_label, theCode_block, theCode_if, evalList_plain, evalList_guard, evalList_nil, nd_move, nd_assign, nd_pick, nd_alloc, nd_box, nd_build, nd_buildSlice, nd_load, nd_store, nd_nilCheck, nd_binOp, nd_unOp, nd_convert, nd_makeInterface, nd_makeFunc, nd_makeMap, nd_slice, nd_fieldAddr, nd_field, nd_indexAddr, nd_index, nd_lookup, nd_mapUpdate, nd_typeAssert, nd_extract, nd_call, nd_panic,
    ok_tmp, ok_const, ok_func, cl_int, cl_bool, cl_string, cl_ptr, cl_map, cl_nilFunc, cl_nilIface, cl_slice, opA_move, opA_assign, opA_pick, opA_load, opA_store, opA_nilCheck, opA_fieldAddr, opA_extract, opA_bin, opA_un, opA_call, opA_call0, opA_build0, opA_len, opA_appendS, opA_makeMap, opA_indexAddr, opA_sliceHi, opA_sliceLo, opA_sliceLH, opA_lookup, opA_mapUpdate, opA_build, opA_box, opA_alloc, opA_makeFunc0, opA_makeFunc00,
    contA_val, contA_skip, contA_enter, contA_panic, contA_ite, callA_ret, callA_panic, callA_ite, putT_some, putT_none, aev_tmp, aev_const, aev_func, rd_same, rd_ne, List.length_set, valA_some, skipA_some, pairA_some,
    thenA_normal, thenA_ret, thenA_exit, thenA_panic, thenA_ite, inBlockA_normal, inBlockA_ret, inBlockA_exit, inBlockA_panic, inBlockA_ite, boolOf_bool, loadS_ptr, storeS_ptr, nilCheckS_ptr, nilCheckS_func, fieldAddrS_eq, extractS_tuple, un_not,
    bin_lss, bin_leq, bin_gtr, bin_geq, bin_eql, bin_neq, bin_add, bin_sub, bin_mul, bin_seql, bin_sneq, bin_ptr_eql, bin_ptr_neq, bin_nil_eql, bin_nil_neq, callS_plain, callS_func, lenS_slice, leaveR_ite, leaveR_ret, leaveR_normal, leaveR_panic, resA_tmp, resA_nil, yieldA_S, slotAt_succ, slotAt_zero, yieldS_some, List.getElem?_toArray, List.getElem?_cons_zero, List.getElem?_cons_succ, resA_cell, cellRes_ptr, Option.bind_some, theCode_rangeS, rangeS_cap, callS_cap, roundA_M, roundM_ready, roundB_N, roundB_R, roundB_E, roundN_none, roundN_some, rangeEnd_M, rangeM_ready, rangeM_ret, setAll_nil, setAll_cons, pack_one, pack_two, pack_none,
    Option.map_some, Option.isSome_some, ne_eq, not_false_eq_true, Nat.reduceEqDiff, Nat.reduceLT, if_true, if_false, Nat.reduceAdd, Nat.add_zero, Nat.zero_add, Option.some.injEq, decide_eq_true_eq, List.map_cons, List.map_nil, List.all_cons, List.all_nil, Bool.and_true, List.nil_append, List.append_nil, List.cons_append,
    hl, i0, i1, agg51, loadV_flat, cell_eq, hc, cellO_box, List.getElem?_cons_zero, c3]
  refine loop_goal (F := fun z => ∃ H', leaveR Try.prog [] (inBlockA 0 z) = some (.ret (.tuple #[]), H') ∧ (match lastI p n with | some i => Good i H' | none => J H'))
    (fun k s => ∃ tm H, s = ⟨tm, [], H⟩ ∧ tm.length = 19 ∧ tm.getD 0 undef = .func (.yield K) #[] #[] ∧ tm.getD 1 undef = .pointer (some ⟨c, 0, none⟩) ∧ tm.getD 3 undef = .int .i64 ((k : Int) - 1) ∧ k ≤ n ∧ lastI p n = lastI p k ∧ J H)
    (fun x s => ∃ tm H', s = ⟨tm, [], H'⟩ ∧ (x = .exit 0 ∨ x = .ret) ∧ (match lastI p n with | some i => Good i H' | none => J H')) n ?_ ?_ ?_
  · refine ⟨_, _, rfl, ?_, ?_, ?_, ?_, Nat.le_refl _, rfl, h0⟩
    · simp only [List.length_set, hl]
    · simp (config := { decide := true }) only [rd_ne, ne_eq, not_false_eq_true, i0]
    · simp (config := { decide := true }) only [rd_ne, ne_eq, not_false_eq_true, i1]
    · simp (config := { decide := true }) only [rd_same, List.length_set, hl]
      rw [IntWalk.i64_in _ (by omega)]
  · rintro k _ ⟨tm, H, rfl, hl, i0, i1, i3, hk, hlast, hJH⟩
    obtain ⟨hc, ho, ⟨r0, hK, hp⟩, hval⟩ := hJ H hJH
    cases k with
    | zero =>
      right
      refine ⟨?x0, ?s0, ?h0, ?hx0, ?hq0⟩
      case h0 =>
        simp (config := { decide := true }) only [theCode_seq, theCode_list, theCode_skip, theCode_ret, theCode_exit, theCode_label, theCode_block, theCode_if, evalList_plain, evalList_guard, evalList_nil, nd_move, nd_assign, nd_pick, nd_alloc, nd_box, nd_build, nd_buildSlice, nd_load, nd_store, nd_nilCheck, nd_binOp, nd_unOp, nd_convert, nd_makeInterface, nd_makeFunc, nd_makeMap, nd_slice, nd_fieldAddr, nd_field, nd_indexAddr, nd_index, nd_lookup, nd_mapUpdate, nd_typeAssert, nd_extract, nd_call, nd_panic,
    ok_tmp, ok_const, ok_func, cl_int, cl_bool, cl_string, cl_ptr, cl_map, cl_nilFunc, cl_nilIface, cl_slice, opA_move, opA_assign, opA_pick, opA_load, opA_store, opA_nilCheck, opA_fieldAddr, opA_extract, opA_bin, opA_un, opA_call, opA_call0, opA_build0, opA_len, opA_appendS, opA_makeMap, opA_indexAddr, opA_sliceHi, opA_sliceLo, opA_sliceLH, opA_lookup, opA_mapUpdate, opA_build, opA_box, opA_alloc, opA_makeFunc0, opA_makeFunc00,
    contA_val, contA_skip, contA_enter, contA_panic, contA_ite, callA_ret, callA_panic, callA_ite, putT_some, putT_none, aev_tmp, aev_const, aev_func, rd_same, rd_ne, List.length_set, valA_some, skipA_some, pairA_some,
    thenA_normal, thenA_ret, thenA_exit, thenA_panic, thenA_ite, inBlockA_normal, inBlockA_ret, inBlockA_exit, inBlockA_panic, inBlockA_ite, boolOf_bool, loadS_ptr, storeS_ptr, nilCheckS_ptr, nilCheckS_func, fieldAddrS_eq, extractS_tuple, un_not,
    bin_lss, bin_leq, bin_gtr, bin_geq, bin_eql, bin_neq, bin_add, bin_sub, bin_mul, bin_seql, bin_sneq, bin_ptr_eql, bin_ptr_neq, bin_nil_eql, bin_nil_neq, callS_plain, callS_func, lenS_slice, leaveR_ite, leaveR_ret, leaveR_normal, leaveR_panic, resA_tmp, resA_nil, yieldA_S, slotAt_succ, slotAt_zero, yieldS_some, List.getElem?_toArray, List.getElem?_cons_zero, List.getElem?_cons_succ, resA_cell, cellRes_ptr, Option.bind_some, theCode_rangeS, rangeS_cap, callS_cap, roundA_M, roundM_ready, roundB_N, roundB_R, roundB_E, roundN_none, roundN_some, rangeEnd_M, rangeM_ready, rangeM_ret, setAll_nil, setAll_cons, pack_one, pack_two, pack_none,
    Option.map_some, Option.isSome_some, ne_eq, not_false_eq_true, Nat.reduceEqDiff, Nat.reduceLT, if_true, if_false, Nat.reduceAdd, Nat.add_zero, Nat.zero_add, Option.some.injEq, decide_eq_true_eq, List.map_cons, List.map_nil, List.all_cons, List.all_nil, Bool.and_true, List.nil_append, List.append_nil, List.cons_append, hl, i0, i1, i3]
        rfl
      case hx0 => exact fun h => by cases h
      case hq0 =>
        refine ⟨_, _, rfl, .inl rfl, ?_⟩
        rw [hlast]; exact hJH
    | succ k =>
      have i3' : tm.getD 3 undef = .int .i64 k := by rw [i3]; congr 1; omega
      have hge : (0 : Int) ≤ k := by omega
      have hix := indexAddrS_own (j := k) (k := .i64) ho (by omega) (by omega) es51 H
      rw [Int.toNat_natCast] at hix
      have hv := hval k (by omega)
      skip
      have hcs := callS_yield (P := Try.prog) (args := [.int .i64 k, val k]) hK (by rw [hp]; rfl)
      rcases hr k H (by omega) hJH with ⟨hpk, H', hrd, hJ'⟩ | ⟨hpk, H', hrd, hg⟩
      · left
        refine ⟨?s1, ?h1, k, Nat.lt_succ_self _, ?hq1⟩
        case h1 =>
          simp (config := { decide := true }) only [theCode_seq, theCode_list, theCode_skip, theCode_ret, theCode_exit, theCode_label, theCode_block, theCode_if, evalList_plain, evalList_guard, evalList_nil, nd_move, nd_assign, nd_pick, nd_alloc, nd_box, nd_build, nd_buildSlice, nd_load, nd_store, nd_nilCheck, nd_binOp, nd_unOp, nd_convert, nd_makeInterface, nd_makeFunc, nd_makeMap, nd_slice, nd_fieldAddr, nd_field, nd_indexAddr, nd_index, nd_lookup, nd_mapUpdate, nd_typeAssert, nd_extract, nd_call, nd_panic,
    ok_tmp, ok_const, ok_func, cl_int, cl_bool, cl_string, cl_ptr, cl_map, cl_nilFunc, cl_nilIface, cl_slice, opA_move, opA_assign, opA_pick, opA_load, opA_store, opA_nilCheck, opA_fieldAddr, opA_extract, opA_bin, opA_un, opA_call, opA_call0, opA_build0, opA_len, opA_appendS, opA_makeMap, opA_indexAddr, opA_sliceHi, opA_sliceLo, opA_sliceLH, opA_lookup, opA_mapUpdate, opA_build, opA_box, opA_alloc, opA_makeFunc0, opA_makeFunc00,
    contA_val, contA_skip, contA_enter, contA_panic, contA_ite, callA_ret, callA_panic, callA_ite, putT_some, putT_none, aev_tmp, aev_const, aev_func, rd_same, rd_ne, List.length_set, valA_some, skipA_some, pairA_some,
    thenA_normal, thenA_ret, thenA_exit, thenA_panic, thenA_ite, inBlockA_normal, inBlockA_ret, inBlockA_exit, inBlockA_panic, inBlockA_ite, boolOf_bool, loadS_ptr, storeS_ptr, nilCheckS_ptr, nilCheckS_func, fieldAddrS_eq, extractS_tuple, un_not,
    bin_lss, bin_leq, bin_gtr, bin_geq, bin_eql, bin_neq, bin_add, bin_sub, bin_mul, bin_seql, bin_sneq, bin_ptr_eql, bin_ptr_neq, bin_nil_eql, bin_nil_neq, callS_plain, callS_func, lenS_slice, leaveR_ite, leaveR_ret, leaveR_normal, leaveR_panic, resA_tmp, resA_nil, yieldA_S, slotAt_succ, slotAt_zero, yieldS_some, List.getElem?_toArray, List.getElem?_cons_zero, List.getElem?_cons_succ, resA_cell, cellRes_ptr, Option.bind_some, theCode_rangeS, rangeS_cap, callS_cap, roundA_M, roundM_ready, roundB_N, roundB_R, roundB_E, roundN_none, roundN_some, rangeEnd_M, rangeM_ready, rangeM_ret, setAll_nil, setAll_cons, pack_one, pack_two, pack_none,
    Option.map_some, Option.isSome_some, ne_eq, not_false_eq_true, Nat.reduceEqDiff, Nat.reduceLT, if_true, if_false, Nat.reduceAdd, Nat.add_zero, Nat.zero_add, Option.some.injEq, decide_eq_true_eq, List.map_cons, List.map_nil, List.all_cons, List.all_nil, Bool.and_true, List.nil_append, List.append_nil, List.cons_append, hl, i0, i1, i3', hge, agg51, loadV_flat, cell_eq, hc, cellO_box, List.getElem?_cons_zero, hix, hv, hcs, hrd, sli51, Bool.not_true, Bool.not_false, Bool.false_eq_true]
          rfl
        case hq1 =>
          refine ⟨_, _, rfl, ?_, ?_, ?_, ?_, by omega, ?_, hJ'⟩
          · simp only [List.length_set, hl]
          · simp (config := { decide := true }) only [rd_ne, ne_eq, not_false_eq_true, i0]
          · simp (config := { decide := true }) only [rd_ne, ne_eq, not_false_eq_true, i1]
          · simp (config := { decide := true }) only [rd_same, List.length_set, hl]
            rw [IntWalk.i64_in _ (by omega)]
          · rw [hlast, lastI_succ, hpk]; rfl
      · right
        refine ⟨?x2, ?s2, ?h2, ?hx2, ?hq2⟩
        case h2 =>
          simp (config := { decide := true }) only [theCode_seq, theCode_list, theCode_skip, theCode_ret, theCode_exit, theCode_label, theCode_block, theCode_if, evalList_plain, evalList_guard, evalList_nil, nd_move, nd_assign, nd_pick, nd_alloc, nd_box, nd_build, nd_buildSlice, nd_load, nd_store, nd_nilCheck, nd_binOp, nd_unOp, nd_convert, nd_makeInterface, nd_makeFunc, nd_makeMap, nd_slice, nd_fieldAddr, nd_field, nd_indexAddr, nd_index, nd_lookup, nd_mapUpdate, nd_typeAssert, nd_extract, nd_call, nd_panic,
    ok_tmp, ok_const, ok_func, cl_int, cl_bool, cl_string, cl_ptr, cl_map, cl_nilFunc, cl_nilIface, cl_slice, opA_move, opA_assign, opA_pick, opA_load, opA_store, opA_nilCheck, opA_fieldAddr, opA_extract, opA_bin, opA_un, opA_call, opA_call0, opA_build0, opA_len, opA_appendS, opA_makeMap, opA_indexAddr, opA_sliceHi, opA_sliceLo, opA_sliceLH, opA_lookup, opA_mapUpdate, opA_build, opA_box, opA_alloc, opA_makeFunc0, opA_makeFunc00,
    contA_val, contA_skip, contA_enter, contA_panic, contA_ite, callA_ret, callA_panic, callA_ite, putT_some, putT_none, aev_tmp, aev_const, aev_func, rd_same, rd_ne, List.length_set, valA_some, skipA_some, pairA_some,
    thenA_normal, thenA_ret, thenA_exit, thenA_panic, thenA_ite, inBlockA_normal, inBlockA_ret, inBlockA_exit, inBlockA_panic, inBlockA_ite, boolOf_bool, loadS_ptr, storeS_ptr, nilCheckS_ptr, nilCheckS_func, fieldAddrS_eq, extractS_tuple, un_not,
    bin_lss, bin_leq, bin_gtr, bin_geq, bin_eql, bin_neq, bin_add, bin_sub, bin_mul, bin_seql, bin_sneq, bin_ptr_eql, bin_ptr_neq, bin_nil_eql, bin_nil_neq, callS_plain, callS_func, lenS_slice, leaveR_ite, leaveR_ret, leaveR_normal, leaveR_panic, resA_tmp, resA_nil, yieldA_S, slotAt_succ, slotAt_zero, yieldS_some, List.getElem?_toArray, List.getElem?_cons_zero, List.getElem?_cons_succ, resA_cell, cellRes_ptr, Option.bind_some, theCode_rangeS, rangeS_cap, callS_cap, roundA_M, roundM_ready, roundB_N, roundB_R, roundB_E, roundN_none, roundN_some, rangeEnd_M, rangeM_ready, rangeM_ret, setAll_nil, setAll_cons, pack_one, pack_two, pack_none,
    Option.map_some, Option.isSome_some, ne_eq, not_false_eq_true, Nat.reduceEqDiff, Nat.reduceLT, if_true, if_false, Nat.reduceAdd, Nat.add_zero, Nat.zero_add, Option.some.injEq, decide_eq_true_eq, List.map_cons, List.map_nil, List.all_cons, List.all_nil, Bool.and_true, List.nil_append, List.append_nil, List.cons_append, hl, i0, i1, i3', hge, agg51, loadV_flat, cell_eq, hc, cellO_box, List.getElem?_cons_zero, hix, hv, hcs, hrd, sli51, Bool.not_true, Bool.not_false, Bool.false_eq_true]
          rfl
        case hx2 => exact fun h => by cases h
        case hq2 =>
          refine ⟨_, _, rfl, .inr rfl, ?_⟩
          rw [hlast, lastI_succ, if_pos hpk]; exact hg
  · rintro x _ hx' ⟨tm, H', rfl, hxx, hm⟩
    refine ⟨H', ?_, hm⟩
    rcases hxx with rfl | rfl
    · simp only [theCode_seq, theCode_list, theCode_skip, theCode_ret, theCode_exit, theCode_label, theCode_block, theCode_if, evalList_plain, evalList_guard, evalList_nil, nd_move, nd_assign, nd_pick, nd_alloc, nd_box, nd_build, nd_buildSlice, nd_load, nd_store, nd_nilCheck, nd_binOp, nd_unOp, nd_convert, nd_makeInterface, nd_makeFunc, nd_makeMap, nd_slice, nd_fieldAddr, nd_field, nd_indexAddr, nd_index, nd_lookup, nd_mapUpdate, nd_typeAssert, nd_extract, nd_call, nd_panic,
    ok_tmp, ok_const, ok_func, cl_int, cl_bool, cl_string, cl_ptr, cl_map, cl_nilFunc, cl_nilIface, cl_slice, opA_move, opA_assign, opA_pick, opA_load, opA_store, opA_nilCheck, opA_fieldAddr, opA_extract, opA_bin, opA_un, opA_call, opA_call0, opA_build0, opA_len, opA_appendS, opA_makeMap, opA_indexAddr, opA_sliceHi, opA_sliceLo, opA_sliceLH, opA_lookup, opA_mapUpdate, opA_build, opA_box, opA_alloc, opA_makeFunc0, opA_makeFunc00,
    contA_val, contA_skip, contA_enter, contA_panic, contA_ite, callA_ret, callA_panic, callA_ite, putT_some, putT_none, aev_tmp, aev_const, aev_func, rd_same, rd_ne, List.length_set, valA_some, skipA_some, pairA_some,
    thenA_normal, thenA_ret, thenA_exit, thenA_panic, thenA_ite, inBlockA_normal, inBlockA_ret, inBlockA_exit, inBlockA_panic, inBlockA_ite, boolOf_bool, loadS_ptr, storeS_ptr, nilCheckS_ptr, nilCheckS_func, fieldAddrS_eq, extractS_tuple, un_not,
    bin_lss, bin_leq, bin_gtr, bin_geq, bin_eql, bin_neq, bin_add, bin_sub, bin_mul, bin_seql, bin_sneq, bin_ptr_eql, bin_ptr_neq, bin_nil_eql, bin_nil_neq, callS_plain, callS_func, lenS_slice, leaveR_ite, leaveR_ret, leaveR_normal, leaveR_panic, resA_tmp, resA_nil, yieldA_S, slotAt_succ, slotAt_zero, yieldS_some, List.getElem?_toArray, List.getElem?_cons_zero, List.getElem?_cons_succ, resA_cell, cellRes_ptr, Option.bind_some, theCode_rangeS, rangeS_cap, callS_cap, roundA_M, roundM_ready, roundB_N, roundB_R, roundB_E, roundN_none, roundN_some, rangeEnd_M, rangeM_ready, rangeM_ret, setAll_nil, setAll_cons, pack_one, pack_two, pack_none,
    Option.map_some, Option.isSome_some, ne_eq, not_false_eq_true, Nat.reduceEqDiff, Nat.reduceLT, if_true, if_false, Nat.reduceAdd, Nat.add_zero, Nat.zero_add, Option.some.injEq, decide_eq_true_eq, List.map_cons, List.map_nil, List.all_cons, List.all_nil, Bool.and_true, List.nil_append, List.append_nil, List.cons_append]
    · simp only [theCode_seq, theCode_list, theCode_skip, theCode_ret, theCode_exit, theCode_label, theCode_block, theCode_if, evalList_plain, evalList_guard, evalList_nil, nd_move, nd_assign, nd_pick, nd_alloc, nd_box, nd_build, nd_buildSlice, nd_load, nd_store, nd_nilCheck, nd_binOp, nd_unOp, nd_convert, nd_makeInterface, nd_makeFunc, nd_makeMap, nd_slice, nd_fieldAddr, nd_field, nd_indexAddr, nd_index, nd_lookup, nd_mapUpdate, nd_typeAssert, nd_extract, nd_call, nd_panic,
    ok_tmp, ok_const, ok_func, cl_int, cl_bool, cl_string, cl_ptr, cl_map, cl_nilFunc, cl_nilIface, cl_slice, opA_move, opA_assign, opA_pick, opA_load, opA_store, opA_nilCheck, opA_fieldAddr, opA_extract, opA_bin, opA_un, opA_call, opA_call0, opA_build0, opA_len, opA_appendS, opA_makeMap, opA_indexAddr, opA_sliceHi, opA_sliceLo, opA_sliceLH, opA_lookup, opA_mapUpdate, opA_build, opA_box, opA_alloc, opA_makeFunc0, opA_makeFunc00,
    contA_val, contA_skip, contA_enter, contA_panic, contA_ite, callA_ret, callA_panic, callA_ite, putT_some, putT_none, aev_tmp, aev_const, aev_func, rd_same, rd_ne, List.length_set, valA_some, skipA_some, pairA_some,
    thenA_normal, thenA_ret, thenA_exit, thenA_panic, thenA_ite, inBlockA_normal, inBlockA_ret, inBlockA_exit, inBlockA_panic, inBlockA_ite, boolOf_bool, loadS_ptr, storeS_ptr, nilCheckS_ptr, nilCheckS_func, fieldAddrS_eq, extractS_tuple, un_not,
    bin_lss, bin_leq, bin_gtr, bin_geq, bin_eql, bin_neq, bin_add, bin_sub, bin_mul, bin_seql, bin_sneq, bin_ptr_eql, bin_ptr_neq, bin_nil_eql, bin_nil_neq, callS_plain, callS_func, lenS_slice, leaveR_ite, leaveR_ret, leaveR_normal, leaveR_panic, resA_tmp, resA_nil, yieldA_S, slotAt_succ, slotAt_zero, yieldS_some, List.getElem?_toArray, List.getElem?_cons_zero, List.getElem?_cons_succ, resA_cell, cellRes_ptr, Option.bind_some, theCode_rangeS, rangeS_cap, callS_cap, roundA_M, roundM_ready, roundB_N, roundB_R, roundB_E, roundN_none, roundN_some, rangeEnd_M, rangeM_ready, rangeM_ret, setAll_nil, setAll_cons, pack_one, pack_two, pack_none,
    Option.map_some, Option.isSome_some, ne_eq, not_false_eq_true, Nat.reduceEqDiff, Nat.reduceLT, if_true, if_false, Nat.reduceAdd, Nat.add_zero, Nat.zero_add, Option.some.injEq, decide_eq_true_eq, List.map_cons, List.map_nil, List.all_cons, List.all_nil, Bool.and_true, List.nil_append, List.append_nil, List.cons_append]


theorem bk45 {ext : CallT} (hx : ∀ f args H, f ≠ 22 → ext f args H = none) {H : AHeap} {e sz n : Nat} {bl : Value} {cells : List Value} (ho : Own H e sz bl n cells) :
    theCall Try.prog ext 45 [bl] H = some (.ret (.func (.func 47) #[] #[.pointer (some ⟨H.next, 0, none⟩)]), H.push (.box [bl] 48)) := by
  have c1 := ho.vcells
  have c2 := ho.flat
  refine theCall_run (hx _ _ _ (by decide)) Try.func45 (rs := [.tmp 2]) rfl rfl rfl (by simp) fun tm hl hi => ?_
  replace hl : tm.length = 4 := hl
  have i0 := hi 0
  simp only [List.getD_cons_zero, List.getD_cons_succ] at i0
  simp (config := { decide := true }) only [theCode_seq, theCode_list, theCode_skip, theCode_ret, theCode_exit, theCode_label, theCode_block, theCode_if, evalList_plain, evalList_guard, evalList_nil, nd_move, nd_assign, nd_pick, nd_alloc, nd_box, nd_build, nd_buildSlice, nd_load, nd_store, nd_nilCheck, nd_binOp, nd_unOp, nd_convert, nd_makeInterface, nd_makeFunc, nd_makeMap, nd_slice, nd_fieldAddr, nd_field, nd_indexAddr, nd_index, nd_lookup, nd_mapUpdate, nd_typeAssert, nd_extract, nd_call, nd_panic,
    ok_tmp, ok_const, ok_func, cl_int, cl_bool, cl_string, cl_ptr, cl_map, cl_nilFunc, cl_nilIface, cl_slice, opA_move, opA_assign, opA_pick, opA_load, opA_store, opA_nilCheck, opA_fieldAddr, opA_extract, opA_bin, opA_un, opA_call, opA_call0, opA_build0, opA_len, opA_appendS, opA_makeMap, opA_indexAddr, opA_sliceHi, opA_sliceLo, opA_sliceLH, opA_lookup, opA_mapUpdate, opA_build, opA_box, opA_alloc, opA_makeFunc0, opA_makeFunc00,
    contA_val, contA_skip, contA_enter, contA_panic, contA_ite, callA_ret, callA_panic, callA_ite, putT_some, putT_none, aev_tmp, aev_const, aev_func, rd_same, rd_ne, List.length_set, valA_some, skipA_some, pairA_some,
    thenA_normal, thenA_ret, thenA_exit, thenA_panic, thenA_ite, inBlockA_normal, inBlockA_ret, inBlockA_exit, inBlockA_panic, inBlockA_ite, boolOf_bool, loadS_ptr, storeS_ptr, nilCheckS_ptr, nilCheckS_func, fieldAddrS_eq, extractS_tuple, un_not,
    bin_lss, bin_leq, bin_gtr, bin_geq, bin_eql, bin_neq, bin_add, bin_sub, bin_mul, bin_seql, bin_sneq, bin_ptr_eql, bin_ptr_neq, bin_nil_eql, bin_nil_neq, callS_plain, callS_func, lenS_slice, leaveR_ite, leaveR_ret, leaveR_normal, leaveR_panic, resA_tmp, resA_nil, yieldA_S, slotAt_succ, slotAt_zero, yieldS_some, List.getElem?_toArray, List.getElem?_cons_zero, List.getElem?_cons_succ, resA_cell, cellRes_ptr, Option.bind_some, theCode_rangeS, rangeS_cap, callS_cap, roundA_M, roundM_ready, roundB_N, roundB_R, roundB_E, roundN_none, roundN_some, rangeEnd_M, rangeM_ready, rangeM_ret, setAll_nil, setAll_cons, pack_one, pack_two, pack_none,
    Option.map_some, Option.isSome_some, ne_eq, not_false_eq_true, Nat.reduceEqDiff, Nat.reduceLT, if_true, if_false, Nat.reduceAdd, Nat.add_zero, Nat.zero_add, Option.some.injEq, decide_eq_true_eq, List.map_cons, List.map_nil, List.all_cons, List.all_nil, Bool.and_true, List.nil_append, List.append_nil, List.cons_append,
    hl, i0, c1, c2, info48]


theorem bk46 {ext : CallT} (hx : ∀ f args H, f ≠ 22 → ext f args H = none) {H : AHeap} {e sz n : Nat} {bl : Value} {cells : List Value} (ho : Own H e sz bl n cells) :
    theCall Try.prog ext 46 [bl] H = some (.ret (.func (.func 48) #[] #[.pointer (some ⟨H.next, 0, none⟩)]), H.push (.box [bl] 51)) := by
  have c1 := ho.vcells
  have c2 := ho.flat
  refine theCall_run (hx _ _ _ (by decide)) Try.func46 (rs := [.tmp 2]) rfl rfl rfl (by simp) fun tm hl hi => ?_
  replace hl : tm.length = 4 := hl
  have i0 := hi 0
  simp only [List.getD_cons_zero, List.getD_cons_succ] at i0
  simp (config := { decide := true }) only [theCode_seq, theCode_list, theCode_skip, theCode_ret, theCode_exit, theCode_label, theCode_block, theCode_if, evalList_plain, evalList_guard, evalList_nil, nd_move, nd_assign, nd_pick, nd_alloc, nd_box, nd_build, nd_buildSlice, nd_load, nd_store, nd_nilCheck, nd_binOp, nd_unOp, nd_convert, nd_makeInterface, nd_makeFunc, nd_makeMap, nd_slice, nd_fieldAddr, nd_field, nd_indexAddr, nd_index, nd_lookup, nd_mapUpdate, nd_typeAssert, nd_extract, nd_call, nd_panic,
    ok_tmp, ok_const, ok_func, cl_int, cl_bool, cl_string, cl_ptr, cl_map, cl_nilFunc, cl_nilIface, cl_slice, opA_move, opA_assign, opA_pick, opA_load, opA_store, opA_nilCheck, opA_fieldAddr, opA_extract, opA_bin, opA_un, opA_call, opA_call0, opA_build0, opA_len, opA_appendS, opA_makeMap, opA_indexAddr, opA_sliceHi, opA_sliceLo, opA_sliceLH, opA_lookup, opA_mapUpdate, opA_build, opA_box, opA_alloc, opA_makeFunc0, opA_makeFunc00,
    contA_val, contA_skip, contA_enter, contA_panic, contA_ite, callA_ret, callA_panic, callA_ite, putT_some, putT_none, aev_tmp, aev_const, aev_func, rd_same, rd_ne, List.length_set, valA_some, skipA_some, pairA_some,
    thenA_normal, thenA_ret, thenA_exit, thenA_panic, thenA_ite, inBlockA_normal, inBlockA_ret, inBlockA_exit, inBlockA_panic, inBlockA_ite, boolOf_bool, loadS_ptr, storeS_ptr, nilCheckS_ptr, nilCheckS_func, fieldAddrS_eq, extractS_tuple, un_not,
    bin_lss, bin_leq, bin_gtr, bin_geq, bin_eql, bin_neq, bin_add, bin_sub, bin_mul, bin_seql, bin_sneq, bin_ptr_eql, bin_ptr_neq, bin_nil_eql, bin_nil_neq, callS_plain, callS_func, lenS_slice, leaveR_ite, leaveR_ret, leaveR_normal, leaveR_panic, resA_tmp, resA_nil, yieldA_S, slotAt_succ, slotAt_zero, yieldS_some, List.getElem?_toArray, List.getElem?_cons_zero, List.getElem?_cons_succ, resA_cell, cellRes_ptr, Option.bind_some, theCode_rangeS, rangeS_cap, callS_cap, roundA_M, roundM_ready, roundB_N, roundB_R, roundB_E, roundN_none, roundN_some, rangeEnd_M, rangeM_ready, rangeM_ret, setAll_nil, setAll_cons, pack_one, pack_two, pack_none,
    Option.map_some, Option.isSome_some, ne_eq, not_false_eq_true, Nat.reduceEqDiff, Nat.reduceLT, if_true, if_false, Nat.reduceAdd, Nat.add_zero, Nat.zero_add, Option.some.injEq, decide_eq_true_eq, List.map_cons, List.map_nil, List.all_cons, List.all_nil, Bool.and_true, List.nil_append, List.append_nil, List.cons_append,
    hl, i0, c1, c2, info51]

end Go.Proofs.Ytnjoaffnfjlcaaa
