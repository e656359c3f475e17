/-
  scope: Find, Target, walked.
-/
import Derived.Test.YtnjoaffnfjlcaaaOps2
namespace Go.Proofs.Ytnjoaffnfjlcaaa
open Go Go.Proofs B
set_option linter.unusedSimpArgs false


def findV (σ : Sc) (nm : ByteArray) : Value := match σ.find nm with
  | some k => .tuple #[.int .i64 k, tyC (σ.types.getD k 0), .bool true]
  | none => .tuple #[.int .i64 0, .int .i64 0, .bool false]

theorem find10 {ext : CallT} (hx : ∀ f args H, f ≠ 22 → ext f args H = none) {H : AHeap} (hf : H.Fresh) {b : Nat} {σ : Sc} {F : Nat → Prop} (h : ScopeAt H b σ F) (hok : σ.ok) (hn : σ.blocks.length < 1000000) (hn2 : σ.types.length < 1000000) (nm : ByteArray) :
    ∃ H', theCall Try.prog ext 10 [.pointer (some ⟨b, 0, none⟩), .string nm] H = some (.ret (findV σ nm), H') ∧ Grown H H' := by
  obtain ⟨bl, tl, ts, rs, h, rfl⟩ := h
  obtain ⟨H1, e1⟩ : ∃ X, H.push (.box [.string nm] 9) = X := ⟨_, rfl⟩
  have g1 : Grown H H1 := by rw [← e1]; exact Grown.push hf _
  have x1 : H1.get H.next = some (.box [.string nm] 9) := by rw [← e1]; exact get_push_new
  have h1 := h.grown hf g1
  have hval : ∀ H2, Grown H1 H2 → ∀ i, i < σ.blocks.length → H2.loadV Try.prog 56 (addA (baseOf bl) (i * 1)) = some ((fun i => Value.map (some (rs.getD i 0))) i) := fun H2 g i hi => (h1.grown g1.fresh g).valB hi
  obtain ⟨Hf, hcall, gf⟩ := find26 (ext := ext) hx g1.fresh h1.box h1.ob hn (val := fun i => Value.map (some (rs.getD i 0))) hval (fun i _ => ⟨by rw [vc_map]; rfl, by rw [vc_map]; simp [fl_map], vc_map⟩)
    (cf := 27) (caps := [.pointer (some ⟨H.next, 0, none⟩)]) en27 (fun i => (lookN (σ.blocks.getD i []) nm).isSome) (fun i H2 hi g => by
      obtain ⟨r, hr1, hr2⟩ := (h1.grown g1.fresh g).maps i hi
      refine ⟨H2, ?_, Grown.refl g.fresh⟩
      rw [← lookB_entV_some]
      have hrr : rs.getD i 0 = r := by rw [List.getD_eq_getElem?_getD, hr1]; rfl
      show theCall Try.prog ext 27 [.map (some (rs.getD i 0)), _] H2 = _
      rw [hrr]
      exact is27 hx (g.has g1.fresh x1) hr2)
  have hfb := (h1.grown g1.fresh gf).box
  have hfx := gf.has g1.fresh x1
  have hft := h1.grown g1.fresh gf
  refine ⟨Hf, ?_, g1.trans gf⟩
  cases hq : σ.findAt nm with
  | none =>
    have hq' := hq
    unfold Sc.findAt at hq'
    rw [hq'] at hcall
    simp only [Option.isSome_none] at hcall
    have hv : findV σ nm = .tuple #[.int .i64 0, .int .i64 0, .bool false] := by unfold findV Sc.find; rw [hq]; rfl
    rw [hv]
    refine theCall_run (hx _ _ _ (by decide)) Try.func10 (rs := [.tmp 4, .tmp 5, .tmp 6]) rfl rfl rfl (by simp) fun tm hl hi => ?_
    replace hl : tm.length = 33 := hl
    have i0 := hi 0
    have i1 := hi 1
    simp only [List.getD_cons_zero, List.getD_cons_succ] at i0 i1
    simp (config := { decide := true }) only [theCode_seq, theCode_list, theCode_skip, theCode_ret, theCode_exit, theCode_label, theCode_block, theCode_if, evalList_plain, evalList_guard, evalList_nil, nd_move, nd_assign, nd_pick, nd_alloc, nd_box, nd_build, nd_buildSlice, nd_load, nd_store, nd_nilCheck, nd_binOp, nd_unOp, nd_convert, nd_makeInterface, nd_makeFunc, nd_makeMap, nd_slice, nd_fieldAddr, nd_field, nd_indexAddr, nd_index, nd_lookup, nd_mapUpdate, nd_typeAssert, nd_extract, nd_call, nd_panic,
    ok_tmp, ok_const, ok_func, cl_int, cl_bool, cl_string, cl_ptr, cl_map, cl_nilFunc, cl_nilIface, cl_slice, opA_move, opA_assign, opA_pick, opA_load, opA_store, opA_nilCheck, opA_fieldAddr, opA_extract, opA_bin, opA_un, opA_call, opA_call0, opA_build0, opA_len, opA_appendS, opA_makeMap, opA_indexAddr, opA_sliceHi, opA_sliceLo, opA_sliceLH, opA_lookup, opA_mapUpdate, opA_build, opA_box, opA_alloc, opA_makeFunc0, opA_makeFunc00,
    contA_val, contA_skip, contA_enter, contA_panic, contA_ite, callA_ret, callA_panic, callA_ite, putT_some, putT_none, aev_tmp, aev_const, aev_func, rd_same, rd_ne, List.length_set, valA_some, skipA_some, pairA_some,
    thenA_normal, thenA_ret, thenA_exit, thenA_panic, thenA_ite, inBlockA_normal, inBlockA_ret, inBlockA_exit, inBlockA_panic, inBlockA_ite, boolOf_bool, loadS_ptr, storeS_ptr, nilCheckS_ptr, nilCheckS_func, fieldAddrS_eq, extractS_tuple, un_not,
    bin_lss, bin_leq, bin_gtr, bin_geq, bin_eql, bin_neq, bin_add, bin_sub, bin_mul, bin_seql, bin_sneq, bin_ptr_eql, bin_ptr_neq, bin_nil_eql, bin_nil_neq, callS_plain, callS_func, lenS_slice, leaveR_ite, leaveR_ret, leaveR_normal, leaveR_panic, resA_tmp, resA_nil, yieldA_S, slotAt_succ, slotAt_zero, yieldS_some, List.getElem?_toArray, List.getElem?_cons_zero, List.getElem?_cons_succ, resA_cell, cellRes_ptr, Option.bind_some, theCode_rangeS, rangeS_cap, callS_cap, roundA_M, roundM_ready, roundB_N, roundB_R, roundB_E, roundN_none, roundN_some, rangeEnd_M, rangeM_ready, rangeM_ret, setAll_nil, setAll_cons, pack_one, pack_two, pack_none,
    Option.map_some, Option.isSome_some, ne_eq, not_false_eq_true, Nat.reduceEqDiff, Nat.reduceLT, if_true, if_false, Nat.reduceAdd, Nat.add_zero, Nat.zero_add, Option.some.injEq, decide_eq_true_eq, List.map_cons, List.map_nil, List.all_cons, List.all_nil, Bool.and_true, List.nil_append, List.append_nil, List.cons_append,
      hl, i0, i1, vc_string, fl_string, info9, e1, isp23, off55_0, en26, hcall, Bool.not_false, Bool.not_true, Bool.false_eq_true]
  | some i =>
    have hq' := hq
    unfold Sc.findAt at hq'
    rw [hq'] at hcall
    simp only [Option.isSome_some] at hcall
    obtain ⟨hin, hp, _⟩ := lastI_some hq'
    obtain ⟨k, hk⟩ := Option.isSome_iff_exists.1 hp
    have hv : findV σ nm = .tuple #[.int .i64 k, tyC (σ.types.getD k 0), .bool true] := by unfold findV Sc.find; rw [hq, Option.bind_some, hk]
    rw [hv]
    obtain ⟨r, hr1, hr2⟩ := hft.maps i hin
    have hrr : rs.getD i 0 = r := by rw [List.getD_eq_getElem?_getD, hr1]; rfl
    rw [hrr] at hcall
    have hkl : k < σ.types.length := hok _ (by rw [List.getD_eq_getElem?_getD, List.getElem?_eq_getElem hin]; exact List.getElem_mem hin) _ (lookN_mem hk)
    have hlk := lookS_str1 (P := Try.prog) (t := 56) (k := nm) (und_of Try.underlying56) us9 zero3 hr2
    rw [lookB_entV, hk, Option.map_some, Option.getD_some] at hlk
    have hix := fun H2 => indexAddrS_own (j := k) (k := .i64) hft.oy (by omega) (by omega) es32 H2
    simp only [Int.toNat_natCast] at hix
    have hld := hft.valY hkl
    rw [loadV_flat agg3] at hld
    refine theCall_run (hx _ _ _ (by decide)) Try.func10 (rs := [.tmp 4, .tmp 5, .tmp 6]) rfl rfl rfl (by simp) fun tm hl hi => ?_
    replace hl : tm.length = 33 := hl
    have i0 := hi 0
    have i1 := hi 1
    simp only [List.getD_cons_zero, List.getD_cons_succ] at i0 i1
    simp (config := { decide := true }) only [theCode_seq, theCode_list, theCode_skip, theCode_ret, theCode_exit, theCode_label, theCode_block, theCode_if, evalList_plain, evalList_guard, evalList_nil, nd_move, nd_assign, nd_pick, nd_alloc, nd_box, nd_build, nd_buildSlice, nd_load, nd_store, nd_nilCheck, nd_binOp, nd_unOp, nd_convert, nd_makeInterface, nd_makeFunc, nd_makeMap, nd_slice, nd_fieldAddr, nd_field, nd_indexAddr, nd_index, nd_lookup, nd_mapUpdate, nd_typeAssert, nd_extract, nd_call, nd_panic,
    ok_tmp, ok_const, ok_func, cl_int, cl_bool, cl_string, cl_ptr, cl_map, cl_nilFunc, cl_nilIface, cl_slice, opA_move, opA_assign, opA_pick, opA_load, opA_store, opA_nilCheck, opA_fieldAddr, opA_extract, opA_bin, opA_un, opA_call, opA_call0, opA_build0, opA_len, opA_appendS, opA_makeMap, opA_indexAddr, opA_sliceHi, opA_sliceLo, opA_sliceLH, opA_lookup, opA_mapUpdate, opA_build, opA_box, opA_alloc, opA_makeFunc0, opA_makeFunc00,
    contA_val, contA_skip, contA_enter, contA_panic, contA_ite, callA_ret, callA_panic, callA_ite, putT_some, putT_none, aev_tmp, aev_const, aev_func, rd_same, rd_ne, List.length_set, valA_some, skipA_some, pairA_some,
    thenA_normal, thenA_ret, thenA_exit, thenA_panic, thenA_ite, inBlockA_normal, inBlockA_ret, inBlockA_exit, inBlockA_panic, inBlockA_ite, boolOf_bool, loadS_ptr, storeS_ptr, nilCheckS_ptr, nilCheckS_func, fieldAddrS_eq, extractS_tuple, un_not,
    bin_lss, bin_leq, bin_gtr, bin_geq, bin_eql, bin_neq, bin_add, bin_sub, bin_mul, bin_seql, bin_sneq, bin_ptr_eql, bin_ptr_neq, bin_nil_eql, bin_nil_neq, callS_plain, callS_func, lenS_slice, leaveR_ite, leaveR_ret, leaveR_normal, leaveR_panic, resA_tmp, resA_nil, yieldA_S, slotAt_succ, slotAt_zero, yieldS_some, List.getElem?_toArray, List.getElem?_cons_zero, List.getElem?_cons_succ, resA_cell, cellRes_ptr, Option.bind_some, theCode_rangeS, rangeS_cap, callS_cap, roundA_M, roundM_ready, roundB_N, roundB_R, roundB_E, roundN_none, roundN_some, rangeEnd_M, rangeM_ready, rangeM_ret, setAll_nil, setAll_cons, pack_one, pack_two, pack_none,
    Option.map_some, Option.isSome_some, ne_eq, not_false_eq_true, Nat.reduceEqDiff, Nat.reduceLT, if_true, if_false, Nat.reduceAdd, Nat.add_zero, Nat.zero_add, Option.some.injEq, decide_eq_true_eq, List.map_cons, List.map_nil, List.all_cons, List.all_nil, Bool.and_true, List.nil_append, List.append_nil, List.cons_append,
      hl, i0, i1, vc_string, fl_string, info9, e1, isp23, off55_0, en26, hcall, Bool.not_false, Bool.not_true, Bool.false_eq_true]
    rw [theCode_text (by kernel_rfl)]
    simp (config := { decide := true }) only [theCode_seq, theCode_list, theCode_skip, theCode_ret, theCode_exit, theCode_label, theCode_block, theCode_if, evalList_plain, evalList_guard, evalList_nil, nd_move, nd_assign, nd_pick, nd_alloc, nd_box, nd_build, nd_buildSlice, nd_load, nd_store, nd_nilCheck, nd_binOp, nd_unOp, nd_convert, nd_makeInterface, nd_makeFunc, nd_makeMap, nd_slice, nd_fieldAddr, nd_field, nd_indexAddr, nd_index, nd_lookup, nd_mapUpdate, nd_typeAssert, nd_extract, nd_call, nd_panic,
    ok_tmp, ok_const, ok_func, cl_int, cl_bool, cl_string, cl_ptr, cl_map, cl_nilFunc, cl_nilIface, cl_slice, opA_move, opA_assign, opA_pick, opA_load, opA_store, opA_nilCheck, opA_fieldAddr, opA_extract, opA_bin, opA_un, opA_call, opA_call0, opA_build0, opA_len, opA_appendS, opA_makeMap, opA_indexAddr, opA_sliceHi, opA_sliceLo, opA_sliceLH, opA_lookup, opA_mapUpdate, opA_build, opA_box, opA_alloc, opA_makeFunc0, opA_makeFunc00,
    contA_val, contA_skip, contA_enter, contA_panic, contA_ite, callA_ret, callA_panic, callA_ite, putT_some, putT_none, aev_tmp, aev_const, aev_func, rd_same, rd_ne, List.length_set, valA_some, skipA_some, pairA_some,
    thenA_normal, thenA_ret, thenA_exit, thenA_panic, thenA_ite, inBlockA_normal, inBlockA_ret, inBlockA_exit, inBlockA_panic, inBlockA_ite, boolOf_bool, loadS_ptr, storeS_ptr, nilCheckS_ptr, nilCheckS_func, fieldAddrS_eq, extractS_tuple, un_not,
    bin_lss, bin_leq, bin_gtr, bin_geq, bin_eql, bin_neq, bin_add, bin_sub, bin_mul, bin_seql, bin_sneq, bin_ptr_eql, bin_ptr_neq, bin_nil_eql, bin_nil_neq, callS_plain, callS_func, lenS_slice, leaveR_ite, leaveR_ret, leaveR_normal, leaveR_panic, resA_tmp, resA_nil, yieldA_S, slotAt_succ, slotAt_zero, yieldS_some, List.getElem?_toArray, List.getElem?_cons_zero, List.getElem?_cons_succ, resA_cell, cellRes_ptr, Option.bind_some, theCode_rangeS, rangeS_cap, callS_cap, roundA_M, roundM_ready, roundB_N, roundB_R, roundB_E, roundN_none, roundN_some, rangeEnd_M, rangeM_ready, rangeM_ret, setAll_nil, setAll_cons, pack_one, pack_two, pack_none,
    Option.map_some, Option.isSome_some, ne_eq, not_false_eq_true, Nat.reduceEqDiff, Nat.reduceLT, if_true, if_false, Nat.reduceAdd, Nat.add_zero, Nat.zero_add, Option.some.injEq, decide_eq_true_eq, List.map_cons, List.map_nil, List.all_cons, List.all_nil, Bool.and_true, List.nil_append, List.append_nil, List.cons_append, dropP_normal,
      hl, i0, i1, agg9, agg32, loadV_flat, cell_eq, hfx, hfb, cellO_box, hlk, off55_2, hix, sli32, hld]


def targV (σ : Sc) (nm : ByteArray) (tn : Bool) : Value := match σ.target nm tn with
  | some k => .tuple #[.int .i64 k, .int .i64 0]
  | none => .tuple #[.int .i64 0, .int .i64 72]

theorem target11 {ext : CallT} (hx : ∀ f args H, f ≠ 22 → ext f args H = none) {H : AHeap} (hf : H.Fresh) {b : Nat} {σ : Sc} {F : Nat → Prop} (h : ScopeAt H b σ F) (hn : σ.turns.length < 1000000) (nm : ByteArray) (tn : Bool) :
    ∃ H', theCall Try.prog ext 11 [.pointer (some ⟨b, 0, none⟩), .string nm, .bool tn] H = some (.ret (targV σ nm tn), H') ∧ Grown H H' := by
  obtain ⟨bl, tl, ts, rs, h, rfl⟩ := h
  obtain ⟨H1, e1⟩ : ∃ X, H.push (.box [.string nm] 9) = X := ⟨_, rfl⟩
  have g1 : Grown H H1 := by rw [← e1]; exact Grown.push hf _
  have x1 : H1.get H.next = some (.box [.string nm] 9) := by rw [← e1]; exact get_push_new
  have n1 : H1.next = H.next + 1 := by rw [← e1]; rfl
  obtain ⟨H2, e2⟩ : ∃ X, H1.push (.box [.bool tn] 4) = X := ⟨_, rfl⟩
  have g2 : Grown H1 H2 := by rw [← e2]; exact Grown.push g1.fresh _
  have x2 : H2.get (H.next + 1) = some (.box [.bool tn] 4) := by rw [← e2, ← n1]; exact get_push_new
  have y1 := g2.has g1.fresh x1
  have h2 := (h.grown hf g1).grown g1.fresh g2
  have hval : ∀ H3, Grown H2 H3 → ∀ i, i < σ.turns.length → H3.loadV Try.prog 62 (addA (baseOf tl) (i * 3)) = some ((fun i => trnV (σ.turns.getD i noTrn)) i) := fun H3 g i hi => (h2.grown g2.fresh g).valT hi
  obtain ⟨Hf, hcall, gf⟩ := find28 (ext := ext) hx g2.fresh h2.box h2.ot hn (val := fun i => trnV (σ.turns.getD i noTrn)) hval (fun i _ => ⟨by simp [trnV, vc_agg, trnC], by simp [trnV, vc_agg, trnC, fl_string, fl_bool, fl_int], by simp [trnV, vc_agg]⟩)
    (cf := 29) (caps := [.pointer (some ⟨H.next, 0, none⟩), .pointer (some ⟨H.next + 1, 0, none⟩)]) en29 (fun i => tMatch (σ.turns.getD i noTrn) nm tn) (fun i H3 hi g =>
      ⟨_, is29 hx g.fresh (g.has g2.fresh y1) (g.has g2.fresh x2), Grown.push g.fresh _⟩)
  have hq0 : σ.targetAt nm tn = lastI (fun i => tMatch (σ.turns.getD i noTrn) nm tn) σ.turns.length := rfl
  rw [← hq0] at hcall
  have n3 : H2.next ≤ Hf.next := gf.next
  cases hq : σ.targetAt nm tn with
  | none =>
    rw [hq] at hcall
    simp only [Option.isSome_none] at hcall
    have hv : targV σ nm tn = .tuple #[.int .i64 0, .int .i64 72] := by unfold targV Sc.target; rw [hq]; rfl
    rw [hv]
    have hst : (Hf.push (.box [.string ⟨#[]⟩, .bool false, .int .i64 0] 62)).storeV Try.prog 62 ⟨Hf.next, 0, none⟩ (.agg #[.string ⟨#[]⟩, .bool false, .int .i64 0]) = some ((Hf.push (.box [.string ⟨#[]⟩, .bool false, .int .i64 0] 62)).set Hf.next (.box [.string ⟨#[]⟩, .bool false, .int .i64 0] 62)) := by
      rw [storeV_box info62 get_push_new (by rw [cells62]; rfl) (by rw [vc_agg]; rfl) (by rw [vc_agg]; simp [fl_string, fl_bool, fl_int]), vc_agg]
    refine ⟨?X1, ?h1, ?g1⟩
    case h1 =>
      refine theCall_run (hx _ _ _ (by decide)) Try.func11 (rs := [.tmp 6, .tmp 7]) rfl rfl rfl (by simp) fun tm hl hi => ?_
      replace hl : tm.length = 24 := hl
      have i0 := hi 0
      have i1 := hi 1
      have i2 := hi 2
      simp only [List.getD_cons_zero, List.getD_cons_succ] at i0 i1 i2
      simp (config := { decide := true }) only [theCode_seq, theCode_list, theCode_skip, theCode_ret, theCode_exit, theCode_label, theCode_block, theCode_if, evalList_plain, evalList_guard, evalList_nil, nd_move, nd_assign, nd_pick, nd_alloc, nd_box, nd_build, nd_buildSlice, nd_load, nd_store, nd_nilCheck, nd_binOp, nd_unOp, nd_convert, nd_makeInterface, nd_makeFunc, nd_makeMap, nd_slice, nd_fieldAddr, nd_field, nd_indexAddr, nd_index, nd_lookup, nd_mapUpdate, nd_typeAssert, nd_extract, nd_call, nd_panic,
    ok_tmp, ok_const, ok_func, cl_int, cl_bool, cl_string, cl_ptr, cl_map, cl_nilFunc, cl_nilIface, cl_slice, opA_move, opA_assign, opA_pick, opA_load, opA_store, opA_nilCheck, opA_fieldAddr, opA_extract, opA_bin, opA_un, opA_call, opA_call0, opA_build0, opA_len, opA_appendS, opA_makeMap, opA_indexAddr, opA_sliceHi, opA_sliceLo, opA_sliceLH, opA_lookup, opA_mapUpdate, opA_build, opA_box, opA_alloc, opA_makeFunc0, opA_makeFunc00,
    contA_val, contA_skip, contA_enter, contA_panic, contA_ite, callA_ret, callA_panic, callA_ite, putT_some, putT_none, aev_tmp, aev_const, aev_func, rd_same, rd_ne, List.length_set, valA_some, skipA_some, pairA_some,
    thenA_normal, thenA_ret, thenA_exit, thenA_panic, thenA_ite, inBlockA_normal, inBlockA_ret, inBlockA_exit, inBlockA_panic, inBlockA_ite, boolOf_bool, loadS_ptr, storeS_ptr, nilCheckS_ptr, nilCheckS_func, fieldAddrS_eq, extractS_tuple, un_not,
    bin_lss, bin_leq, bin_gtr, bin_geq, bin_eql, bin_neq, bin_add, bin_sub, bin_mul, bin_seql, bin_sneq, bin_ptr_eql, bin_ptr_neq, bin_nil_eql, bin_nil_neq, callS_plain, callS_func, lenS_slice, leaveR_ite, leaveR_ret, leaveR_normal, leaveR_panic, resA_tmp, resA_nil, yieldA_S, slotAt_succ, slotAt_zero, yieldS_some, List.getElem?_toArray, List.getElem?_cons_zero, List.getElem?_cons_succ, resA_cell, cellRes_ptr, Option.bind_some, theCode_rangeS, rangeS_cap, callS_cap, roundA_M, roundM_ready, roundB_N, roundB_R, roundB_E, roundN_none, roundN_some, rangeEnd_M, rangeM_ready, rangeM_ret, setAll_nil, setAll_cons, pack_one, pack_two, pack_none,
    Option.map_some, Option.isSome_some, ne_eq, not_false_eq_true, Nat.reduceEqDiff, Nat.reduceLT, if_true, if_false, Nat.reduceAdd, Nat.add_zero, Nat.zero_add, Option.some.injEq, decide_eq_true_eq, List.map_cons, List.map_nil, List.all_cons, List.all_nil, Bool.and_true, List.nil_append, List.append_nil, List.cons_append,
        hl, i0, i1, i2, vc_string, fl_string, vc_bool, fl_bool, info9, info4, e1, n1, e2, isp23, off55_1, en28, hcall, zf62, vc_agg, hst, Bool.not_false, Bool.not_true, Bool.false_eq_true]
      rfl
    case g1 => exact ((g1.trans g2).trans gf).trans (Grown.set2 (Grown.push gf.fresh _) _ get_push_new (Nat.le_refl _))
  | some i =>
    rw [hq] at hcall
    simp only [Option.isSome_some] at hcall
    have hv : targV σ nm tn = .tuple #[.int .i64 (σ.turns.getD i noTrn).no, .int .i64 0] := by unfold targV Sc.target; rw [hq]; rfl
    rw [hv]
    have hst : (Hf.push (.box [.string ⟨#[]⟩, .bool false, .int .i64 0] 62)).storeV Try.prog 62 ⟨Hf.next, 0, none⟩ (trnV (σ.turns.getD i noTrn)) = some ((Hf.push (.box [.string ⟨#[]⟩, .bool false, .int .i64 0] 62)).set Hf.next (.box (trnC (σ.turns.getD i noTrn)) 62)) := by
      rw [storeV_box info62 get_push_new (by rw [cells62]; rfl) (by simp [trnV, vc_agg, trnC]) (by simp [trnV, vc_agg, trnC, fl_string, fl_bool, fl_int])]
      simp [trnV, vc_agg]
    have hld : ∀ o, (Hf.set o (.box (trnC (σ.turns.getD i noTrn)) 62)).cell ⟨o, 2, none⟩ = some (.int .i64 (σ.turns.getD i noTrn).no) := fun o => by
      rw [cell_eq, get_set_same]; rfl
    refine ⟨?X2, ?h2, ?g2⟩
    case h2 =>
      refine theCall_run (hx _ _ _ (by decide)) Try.func11 (rs := [.tmp 6, .tmp 7]) rfl rfl rfl (by simp) fun tm hl hi => ?_
      replace hl : tm.length = 24 := hl
      have i0 := hi 0
      have i1 := hi 1
      have i2 := hi 2
      simp only [List.getD_cons_zero, List.getD_cons_succ] at i0 i1 i2
      simp (config := { decide := true }) only [theCode_seq, theCode_list, theCode_skip, theCode_ret, theCode_exit, theCode_label, theCode_block, theCode_if, evalList_plain, evalList_guard, evalList_nil, nd_move, nd_assign, nd_pick, nd_alloc, nd_box, nd_build, nd_buildSlice, nd_load, nd_store, nd_nilCheck, nd_binOp, nd_unOp, nd_convert, nd_makeInterface, nd_makeFunc, nd_makeMap, nd_slice, nd_fieldAddr, nd_field, nd_indexAddr, nd_index, nd_lookup, nd_mapUpdate, nd_typeAssert, nd_extract, nd_call, nd_panic,
    ok_tmp, ok_const, ok_func, cl_int, cl_bool, cl_string, cl_ptr, cl_map, cl_nilFunc, cl_nilIface, cl_slice, opA_move, opA_assign, opA_pick, opA_load, opA_store, opA_nilCheck, opA_fieldAddr, opA_extract, opA_bin, opA_un, opA_call, opA_call0, opA_build0, opA_len, opA_appendS, opA_makeMap, opA_indexAddr, opA_sliceHi, opA_sliceLo, opA_sliceLH, opA_lookup, opA_mapUpdate, opA_build, opA_box, opA_alloc, opA_makeFunc0, opA_makeFunc00,
    contA_val, contA_skip, contA_enter, contA_panic, contA_ite, callA_ret, callA_panic, callA_ite, putT_some, putT_none, aev_tmp, aev_const, aev_func, rd_same, rd_ne, List.length_set, valA_some, skipA_some, pairA_some,
    thenA_normal, thenA_ret, thenA_exit, thenA_panic, thenA_ite, inBlockA_normal, inBlockA_ret, inBlockA_exit, inBlockA_panic, inBlockA_ite, boolOf_bool, loadS_ptr, storeS_ptr, nilCheckS_ptr, nilCheckS_func, fieldAddrS_eq, extractS_tuple, un_not,
    bin_lss, bin_leq, bin_gtr, bin_geq, bin_eql, bin_neq, bin_add, bin_sub, bin_mul, bin_seql, bin_sneq, bin_ptr_eql, bin_ptr_neq, bin_nil_eql, bin_nil_neq, callS_plain, callS_func, lenS_slice, leaveR_ite, leaveR_ret, leaveR_normal, leaveR_panic, resA_tmp, resA_nil, yieldA_S, slotAt_succ, slotAt_zero, yieldS_some, List.getElem?_toArray, List.getElem?_cons_zero, List.getElem?_cons_succ, resA_cell, cellRes_ptr, Option.bind_some, theCode_rangeS, rangeS_cap, callS_cap, roundA_M, roundM_ready, roundB_N, roundB_R, roundB_E, roundN_none, roundN_some, rangeEnd_M, rangeM_ready, rangeM_ret, setAll_nil, setAll_cons, pack_one, pack_two, pack_none,
    Option.map_some, Option.isSome_some, ne_eq, not_false_eq_true, Nat.reduceEqDiff, Nat.reduceLT, if_true, if_false, Nat.reduceAdd, Nat.add_zero, Nat.zero_add, Option.some.injEq, decide_eq_true_eq, List.map_cons, List.map_nil, List.all_cons, List.all_nil, Bool.and_true, List.nil_append, List.append_nil, List.cons_append,
        hl, i0, i1, i2, vc_string, fl_string, vc_bool, fl_bool, info9, info4, e1, n1, e2, isp23, off55_1, en28, hcall, zf62, vc_agg, hst, Bool.not_false, Bool.not_true, Bool.false_eq_true, off62_2, agg3, loadV_flat, cell_eq, get_set_same, cellO_box, trnC]
      rfl
    case g2 => exact ((g1.trans g2).trans gf).trans (Grown.set2 (Grown.push gf.fresh _) _ get_push_new (Nat.le_refl _))

end Go.Proofs.Ytnjoaffnfjlcaaa
