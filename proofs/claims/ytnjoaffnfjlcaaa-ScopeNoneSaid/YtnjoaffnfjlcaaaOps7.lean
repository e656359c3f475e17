/-
  trammellaw07.works, walked.
-/
import Derived.Test.YtnjoaffnfjlcaaaOps6
namespace Go.Proofs.Ytnjoaffnfjlcaaa
open Go Go.Proofs B
set_option linter.unusedSimpArgs false


def nmA : ByteArray := ⟨#[97]⟩
def nmL : ByteArray := ⟨#[76]⟩
def w1 : Sc := sc0.decl nmA 7
def w2 : Sc := w1.open'
def w3 : Sc := w2.decl nmA 8
def w4 : Sc := w3.decl nmA 9
def w5 : Sc := w4.close
def w6 : Sc := w5.enter nmL true

theorem wv1 : declV sc0 ⟨#[97]⟩ = .tuple #[.int .i64 0, .int .i64 0] := rfl
theorem wv3 : declV w2 ⟨#[97]⟩ = .tuple #[.int .i64 1, .int .i64 0] := rfl
theorem wf3 : findV w3 ⟨#[97]⟩ = .tuple #[.int .i64 1, .int .i64 8, .bool true] := rfl
theorem wv4 : declV w3 ⟨#[97]⟩ = .tuple #[.int .i64 0, .int .i64 70] := rfl
theorem wf5 : findV w5 ⟨#[97]⟩ = .tuple #[.int .i64 0, .int .i64 7, .bool true] := rfl
theorem wv6 : entV2 w5 ⟨#[76]⟩ = .tuple #[.int .i64 0, .int .i64 0] := rfl
theorem wt6 : targV w6 ⟨#[]⟩ true = .tuple #[.int .i64 0, .int .i64 0] := rfl
theorem ok3 : w3.ok := by show ∀ m ∈ w3.blocks, ∀ p ∈ m, p.2 < w3.types.length; decide
theorem ok5 : w5.ok := by show ∀ m ∈ w5.blocks, ∀ p ∈ m, p.2 < w5.types.length; decide

set_option maxRecDepth 100000 in
set_option maxHeartbeats 4000000 in
theorem works15 {ext : CallT} (hx : ∀ f args H, f ≠ 22 → ext f args H = none) {H : AHeap} (hf : H.Fresh) : ∃ H', theCall Try.prog ext 15 [] H = some (.ret (.bool true), H') ∧ Grown H H' := by
  obtain ⟨H1, F1, a1, s1, g1, f1⟩ := new8 (ext := ext) hx hf
  obtain ⟨H2, F2, a2, s2, u2⟩ := declare20 (ext := ext) hx g1.fresh s1 (by decide) (by decide) (by decide) ⟨#[97]⟩ 7
  obtain ⟨H3, F3, a3, s3, u3⟩ := open13 (ext := ext) hx u2.fresh (σ := w1) s2 (by decide)
  obtain ⟨H4, F4, a4, s4, u4⟩ := declare20 (ext := ext) hx u3.fresh (σ := w2) s3 (by decide) (by decide) (by decide) ⟨#[97]⟩ 8
  obtain ⟨H5, a5, g5⟩ := find10 (ext := ext) hx u4.fresh (σ := w3) s4 ok3 (by decide) (by decide) ⟨#[97]⟩
  obtain ⟨H6, F6, a6, s6, u6⟩ := declare20 (ext := ext) hx g5.fresh (σ := w3) (s4.grown u4.fresh g5) (by decide) (by decide) (by decide) ⟨#[97]⟩ 9
  obtain ⟨H7, F7, a7, s7, u7⟩ := close17 (ext := ext) hx u6.fresh (σ := w4) s6 (by decide)
  obtain ⟨H8, a8, g8⟩ := find10 (ext := ext) hx u7.fresh (σ := w5) s7 ok5 (by decide) (by decide) ⟨#[97]⟩
  obtain ⟨H9, F9, a9, s9, u9⟩ := enter14 (ext := ext) hx g8.fresh (σ := w5) (s7.grown u7.fresh g8) (by decide) (by decide) ⟨#[76]⟩ true
  obtain ⟨Ha, aa, ga⟩ := target11 (ext := ext) hx u9.fresh (σ := w6) s9 (by decide) ⟨#[]⟩ true
  obtain ⟨Hb, Fb, ab, sb, ub⟩ := close17 (ext := ext) hx ga.fresh (σ := w6) (s9.grown u9.fresh ga) (by decide)
  rw [wv1] at a2
  rw [wv3] at a4
  rw [wf3] at a5
  rw [wv4] at a6
  rw [show decide (1 < w4.blocks.length) = true from rfl] at a7
  rw [wf5] at a8
  rw [wv6] at a9
  rw [wt6] at aa
  rw [show decide (1 < w6.blocks.length) = false from rfl] at ab
  have U := (((((((((((u2.trans u3).trans u4).trans (g5.upd _)).trans u6).trans u7).trans (g8.upd _)).trans u9).trans (ga.upd _)).trans ub)))
  refine ⟨Hb, ?_, ⟨fun j hj => ?_, Nat.le_trans g1.next U.next, U.fresh⟩⟩
  · refine theCall_lit [undef, undef, undef, undef, undef, undef, undef, undef, undef, undef, undef, undef, undef, undef, undef, undef, undef, undef, undef, undef, undef, undef, undef, undef, undef, undef, undef, undef, undef, undef, undef, undef, undef, undef, undef, undef, undef, undef, undef, undef, undef, undef, undef, undef, undef, undef, undef, undef, undef, undef, undef, undef, undef, undef, undef, undef, undef, undef, undef, undef, undef, undef, undef, undef, undef, undef, undef, undef, undef, undef, undef, undef, undef, undef, undef, undef, undef, undef, undef, undef, undef, undef, undef, undef, undef, undef, undef, undef, undef, undef, undef, undef, undef, undef, undef, undef, undef, undef, undef, undef, undef, undef, undef, undef, undef, undef, undef, undef, undef, undef, undef, undef, undef, undef, undef, undef, undef, undef, undef, undef, undef, undef, undef, undef, undef, undef, undef] (hx _ _ _ (by decide)) Try.func15 (rs := [.tmp 0]) rfl rfl rfl ?_
    dsimp only [List.cons_append, List.nil_append]
    simp only [theCode_seq, theCode_list, theCode_skip, theCode_ret, theCode_exit, theCode_label, theCode_block, theCode_if, evalList_plain, evalList_guard, evalList_nil, nd_move, nd_assign, nd_pick, nd_alloc, nd_box, nd_build, nd_buildSlice, nd_load, nd_store, nd_nilCheck, nd_binOp, nd_unOp, nd_convert, nd_makeInterface, nd_makeFunc, nd_makeMap, nd_slice, nd_fieldAddr, nd_field, nd_indexAddr, nd_index, nd_lookup, nd_mapUpdate, nd_typeAssert, nd_extract, nd_call, nd_panic,
    ok_tmp, ok_const, ok_func, cl_int, cl_bool, cl_string, cl_ptr, cl_map, cl_nilFunc, cl_nilIface, cl_slice, opA_move, opA_assign, opA_pick, opA_load, opA_store, opA_nilCheck, opA_fieldAddr, opA_extract, opA_bin, opA_un, opA_call, opA_call0, opA_build0, opA_len, opA_appendS, opA_makeMap, opA_indexAddr, opA_sliceHi, opA_sliceLo, opA_sliceLH, opA_lookup, opA_mapUpdate, opA_build, opA_box, opA_alloc, opA_makeFunc0, opA_makeFunc00,
    contA_val, contA_skip, contA_enter, contA_panic, contA_ite, callA_ret, callA_panic, callA_ite, putT_some, putT_none, aev_tmp, aev_const, aev_func, List.set_cons_succ, List.set_cons_zero, List.getD_cons_succ, List.getD_cons_zero, valA_some, skipA_some, pairA_some,
    thenA_normal, thenA_ret, thenA_exit, thenA_panic, thenA_ite, inBlockA_normal, inBlockA_ret, inBlockA_exit, inBlockA_panic, inBlockA_ite, boolOf_bool, loadS_ptr, storeS_ptr, nilCheckS_ptr, nilCheckS_func, fieldAddrS_eq, extractS_tuple, un_not,
    bin_lss, bin_leq, bin_gtr, bin_geq, bin_eql, bin_neq, bin_add, bin_sub, bin_mul, bin_seql, bin_sneq, bin_ptr_eql, bin_ptr_neq, bin_nil_eql, bin_nil_neq, callS_plain, callS_func, lenS_slice, leaveR_ite, leaveR_ret, leaveR_normal, leaveR_panic, resA_tmp, resA_nil, yieldA_S, slotAt_succ, slotAt_zero, yieldS_cons, yieldS_head, List.getElem?_toArray, List.getElem?_cons_zero, List.getElem?_cons_succ, resA_cell, cellRes_ptr, Option.bind_some, theCode_rangeS, rangeS_cap, callS_cap, roundA_M, roundM_ready, roundB_N, roundB_R, roundB_E, roundN_none, roundN_some, rangeEnd_M, rangeM_ready, rangeM_ret, setAll_nil, setAll_cons, pack_one, pack_two, pack_none,
    Option.map_some, Option.isSome_some, ne_eq, not_false_eq_true, ↓reduceIte, eq_self, decide_true, evalList_capp, evalList_napp, slotAt_capp, slotAt_napp,  if_true, if_false, Nat.reduceAdd, Nat.add_zero, Nat.zero_add, Option.some.injEq, decide_eq_true_eq, List.map_cons, List.map_nil, List.all_cons, List.all_nil, Bool.and_true, List.nil_append, List.append_nil, List.cons_append,
      en8, en20, en13, en10, en17, en14, en11, isp23, a1, a2, a3, a4, a5, a6, a7, a8, a9, aa, ab, Bool.not_true, Bool.not_false, Bool.false_eq_true]
  · rw [U.frame j (fun e => by have := f1 j e; omega) (Nat.lt_of_lt_of_le hj g1.next)]
    exact g1.get j hj

end Go.Proofs.Ytnjoaffnfjlcaaa
