/-
  trammellaw07.ScopeNone, walked.
-/
import Derived.Test.YtnjoaffnfjlcaaaOps7
namespace Go.Proofs.Ytnjoaffnfjlcaaa
open Go Go.Proofs B
set_option linter.unusedSimpArgs false


set_option maxRecDepth 100000 in
set_option maxHeartbeats 4000000 in
theorem none6 {ext : CallT} (hx : ∀ f args H, f ≠ 22 → ext f args H = none) (h22 : ∀ H, ext 22 [.pointer none] H = none) {H : AHeap} (hf : H.Fresh) (nm : ByteArray) (ty : Int) (tn : Bool) : ∃ H', theCall Try.prog ext 6 [.string nm, .int .i64 ty, .bool tn] H = some (.ret (.bool true), H') ∧ Grown H H' := by
  have g1 : Grown H ((((H.push (.box [.string nm] 9)).push (.box [.string nm] 9)).push (.box [.bool tn] 4)).push (.box [.string nm] 9)) := (((Grown.push hf _).push2 _).push2 _).push2 _
  obtain ⟨H', hw, gw⟩ := works15 (ext := ext) hx g1.fresh
  refine ⟨H', ?_, g1.trans gw⟩
  refine theCall_lit [.string nm, .int .i64 ty, .bool tn, undef, undef, undef, undef, undef, undef, undef, undef, undef, undef, undef, undef, undef, undef, undef, undef, undef, undef, undef, undef, undef, undef, undef, undef, undef, undef, undef, undef, undef, undef, undef, undef, undef, undef, undef, undef, undef, undef, undef, undef, undef, undef, undef, undef, undef, undef, undef, undef, undef, undef, undef, undef, undef, undef, undef, undef, undef, undef, undef, undef, undef, undef, undef, undef, undef, undef, undef, undef, undef, undef, undef, undef, undef, undef, undef, undef, undef, undef, undef, undef, undef, undef, undef, undef, undef, undef, undef, undef, undef, undef, undef, undef, undef, undef, undef, undef, undef, undef, undef, undef, undef, undef, undef, undef, undef] (hx _ _ _ (by decide)) Try.func6 (rs := [.tmp 6]) rfl rfl rfl ?_
  simp only [theCode_seq, theCode_list, theCode_skip, theCode_ret, theCode_exit, theCode_label, theCode_block, theCode_if, evalList_plain, evalList_guard, evalList_nil, nd_move, nd_assign, nd_pick, nd_alloc, nd_box, nd_build, nd_buildSlice, nd_load, nd_store, nd_nilCheck, nd_binOp, nd_unOp, nd_convert, nd_makeInterface, nd_makeFunc, nd_makeMap, nd_slice, nd_fieldAddr, nd_field, nd_indexAddr, nd_index, nd_lookup, nd_mapUpdate, nd_typeAssert, nd_extract, nd_call, nd_panic,
    ok_tmp, ok_const, ok_func, cl_int, cl_bool, cl_string, cl_ptr, cl_map, cl_nilFunc, cl_nilIface, cl_slice, opA_move, opA_assign, opA_pick, opA_load, opA_store, opA_nilCheck, opA_fieldAddr, opA_extract, opA_bin, opA_un, opA_call, opA_call0, opA_build0, opA_len, opA_appendS, opA_makeMap, opA_indexAddr, opA_sliceHi, opA_sliceLo, opA_sliceLH, opA_lookup, opA_mapUpdate, opA_build, opA_box, opA_alloc, opA_makeFunc0, opA_makeFunc00,
    contA_val, contA_skip, contA_enter, contA_panic, contA_ite, callA_ret, callA_panic, callA_ite, putT_some, putT_none, aev_tmp, aev_const, aev_func, List.set_cons_succ, List.set_cons_zero, List.getD_cons_succ, List.getD_cons_zero, valA_some, skipA_some, pairA_some,
    thenA_normal, thenA_ret, thenA_exit, thenA_panic, thenA_ite, inBlockA_normal, inBlockA_ret, inBlockA_exit, inBlockA_panic, inBlockA_ite, boolOf_bool, loadS_ptr, storeS_ptr, nilCheckS_ptr, nilCheckS_func, fieldAddrS_eq, extractS_tuple, un_not,
    bin_lss, bin_leq, bin_gtr, bin_geq, bin_eql, bin_neq, bin_add, bin_sub, bin_mul, bin_seql, bin_sneq, bin_ptr_eql, bin_ptr_neq, bin_nil_eql, bin_nil_neq, callS_plain, callS_func, lenS_slice, leaveR_ite, leaveR_ret, leaveR_normal, leaveR_panic, resA_tmp, resA_nil, yieldA_S, slotAt_succ, slotAt_zero, yieldS_cons, yieldS_head, List.getElem?_toArray, List.getElem?_cons_zero, List.getElem?_cons_succ, resA_cell, cellRes_ptr, Option.bind_some, theCode_rangeS, rangeS_cap, callS_cap, roundA_M, roundM_ready, roundB_N, roundB_R, roundB_E, roundN_none, roundN_some, rangeEnd_M, rangeM_ready, rangeM_ret, setAll_nil, setAll_cons, pack_one, pack_two, pack_none,
    Option.map_some, Option.isSome_some, ne_eq, not_false_eq_true, ↓reduceIte, eq_self, decide_true, evalList_capp, evalList_napp, slotAt_capp, slotAt_napp,  if_true, if_false, Nat.reduceAdd, Nat.add_zero, Nat.zero_add, Option.some.injEq, decide_eq_true_eq, List.map_cons, List.map_nil, List.all_cons, List.all_nil, Bool.and_true, List.nil_append, List.append_nil, List.cons_append,
      en20, en14, en11, en10, en13, en17, en18, en12, en22, en15, isp23, isl32, nil20 hx, nil14 hx, nil11 hx, nil10 hx, nil13 hx, nil17 hx, nil18 hx, nil12 hx, nil22 (h22 _), hw, Bool.not_true, Bool.not_false, Bool.false_eq_true, Int.cast_ofNat_Int, Int.natCast_zero]

end Go.Proofs.Ytnjoaffnfjlcaaa
