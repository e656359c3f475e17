/-
  Joined by program out of Ops10, RowRises.
-/
import Derived.Test.YtnjoaffnfjlcaaaM6
namespace Go.Proofs.Ytnjoaffnfjlcaaa
open Go Go.Proofs B
set_option linter.unusedSimpArgs false


set_option maxHeartbeats 4000000 in
theorem rises4 {ext : CallT} (hx : ∀ f args H, f ≠ 22 → ext f args H = none) {H0 : AHeap} (hf0 : H0.Fresh) {v : Value} {l : List Stp} (hs : Scr H0 v l) :
    ∃ H', theCall Try.prog ext 4 [v] H0 = some (.ret (.bool true), H') := by
  have hln0 := hs.len
  by_cases hbig : (300 : Int) < l.length
  · refine ⟨H0, ?_⟩
    refine theCall_run (hx _ _ _ (by decide)) Try.func4 (rs := [.tmp 2]) rfl rfl rfl (by simp) fun tm hl hi => ?_
    replace hl : tm.length = 150 := hl
    have i0 := hi 0
    simp only [List.getD_cons_zero, List.getD_cons_succ] at i0
    simp (config := { decide := true }) only [theCode_seq, theCode_list, theCode_skip, theCode_ret, theCode_exit, theCode_label, theCode_block, theCode_if, evalList_plain, evalList_guard, evalList_nil, nd_move, nd_assign, nd_pick, nd_alloc, nd_box, nd_build, nd_buildSlice, nd_load, nd_store, nd_nilCheck, nd_binOp, nd_unOp, nd_convert, nd_makeInterface, nd_makeFunc, nd_makeMap, nd_slice, nd_fieldAddr, nd_field, nd_indexAddr, nd_index, nd_lookup, nd_mapUpdate, nd_typeAssert, nd_extract, nd_call, nd_panic,
    ok_tmp, ok_const, ok_func, cl_int, cl_bool, cl_string, cl_ptr, cl_map, cl_nilFunc, cl_nilIface, cl_slice, opA_move, opA_assign, opA_pick, opA_load, opA_store, opA_nilCheck, opA_fieldAddr, opA_extract, opA_bin, opA_un, opA_call, opA_call0, opA_build0, opA_len, opA_appendS, opA_makeMap, opA_indexAddr, opA_sliceHi, opA_sliceLo, opA_sliceLH, opA_lookup, opA_mapUpdate, opA_build, opA_box, opA_alloc, opA_makeFunc0, opA_makeFunc00,
    contA_val, contA_skip, contA_enter, contA_panic, contA_ite, callA_ret, callA_panic, callA_ite, putT_some, putT_none, aev_tmp, aev_const, aev_func, rd_same, rd_ne, List.length_set, valA_some, skipA_some, pairA_some,
    thenA_normal, thenA_ret, thenA_exit, thenA_panic, thenA_ite, inBlockA_normal, inBlockA_ret, inBlockA_exit, inBlockA_panic, inBlockA_ite, boolOf_bool, loadS_ptr, storeS_ptr, nilCheckS_ptr, nilCheckS_func, fieldAddrS_eq, extractS_tuple, un_not,
    bin_lss, bin_leq, bin_gtr, bin_geq, bin_eql, bin_neq, bin_add, bin_sub, bin_mul, bin_seql, bin_sneq, bin_ptr_eql, bin_ptr_neq, bin_nil_eql, bin_nil_neq, callS_plain, callS_func, lenS_slice, leaveR_ite, leaveR_ret, leaveR_normal, leaveR_panic, resA_tmp, resA_nil, yieldA_S, slotAt_succ, slotAt_zero, yieldS_some, List.getElem?_toArray, List.getElem?_cons_zero, List.getElem?_cons_succ, resA_cell, cellRes_ptr, Option.bind_some, theCode_rangeS, rangeS_cap, callS_cap, roundA_M, roundM_ready, roundB_N, roundB_R, roundB_E, roundN_none, roundN_some, rangeEnd_M, rangeM_ready, rangeM_ret, setAll_nil, setAll_cons, pack_one, pack_two, pack_none,
    Option.map_some, Option.isSome_some, ne_eq, not_false_eq_true, Nat.reduceEqDiff, Nat.reduceLT, if_true, if_false, Nat.reduceAdd, Nat.add_zero, Nat.zero_add, Option.some.injEq, decide_eq_true_eq, List.map_cons, List.map_nil, List.all_cons, List.all_nil, Bool.and_true, List.nil_append, List.append_nil, List.cons_append, hl, i0, hln0, hbig]
  obtain ⟨H1, F1, a1, s1, g1, f1⟩ := new8 (ext := ext) hx hf0
  refine theCall_goal (F := fun z => ∃ H', z = some (.ret (.bool true), H')) (hx _ _ _ (by decide)) Try.func4 (rs := [.tmp 2]) rfl rfl rfl (by simp) fun tm hl hi => ?_
  replace hl : tm.length = 150 := hl
  have i0 := hi 0
  simp only [List.getD_cons_zero, List.getD_cons_succ] at i0
  simp (config := { decide := true }) only [theCode_seq, theCode_list, theCode_skip, theCode_ret, theCode_exit, theCode_label, theCode_block, theCode_if, evalList_plain, evalList_guard, evalList_nil, nd_move, nd_assign, nd_pick, nd_alloc, nd_box, nd_build, nd_buildSlice, nd_load, nd_store, nd_nilCheck, nd_binOp, nd_unOp, nd_convert, nd_makeInterface, nd_makeFunc, nd_makeMap, nd_slice, nd_fieldAddr, nd_field, nd_indexAddr, nd_index, nd_lookup, nd_mapUpdate, nd_typeAssert, nd_extract, nd_call, nd_panic,
    ok_tmp, ok_const, ok_func, cl_int, cl_bool, cl_string, cl_ptr, cl_map, cl_nilFunc, cl_nilIface, cl_slice, opA_move, opA_assign, opA_pick, opA_load, opA_store, opA_nilCheck, opA_fieldAddr, opA_extract, opA_bin, opA_un, opA_call, opA_call0, opA_build0, opA_len, opA_appendS, opA_makeMap, opA_indexAddr, opA_sliceHi, opA_sliceLo, opA_sliceLH, opA_lookup, opA_mapUpdate, opA_build, opA_box, opA_alloc, opA_makeFunc0, opA_makeFunc00,
    contA_val, contA_skip, contA_enter, contA_panic, contA_ite, callA_ret, callA_panic, callA_ite, putT_some, putT_none, aev_tmp, aev_const, aev_func, rd_same, rd_ne, List.length_set, valA_some, skipA_some, pairA_some,
    thenA_normal, thenA_ret, thenA_exit, thenA_panic, thenA_ite, inBlockA_normal, inBlockA_ret, inBlockA_exit, inBlockA_panic, inBlockA_ite, boolOf_bool, loadS_ptr, storeS_ptr, nilCheckS_ptr, nilCheckS_func, fieldAddrS_eq, extractS_tuple, un_not,
    bin_lss, bin_leq, bin_gtr, bin_geq, bin_eql, bin_neq, bin_add, bin_sub, bin_mul, bin_seql, bin_sneq, bin_ptr_eql, bin_ptr_neq, bin_nil_eql, bin_nil_neq, callS_plain, callS_func, lenS_slice, leaveR_ite, leaveR_ret, leaveR_normal, leaveR_panic, resA_tmp, resA_nil, yieldA_S, slotAt_succ, slotAt_zero, yieldS_some, List.getElem?_toArray, List.getElem?_cons_zero, List.getElem?_cons_succ, resA_cell, cellRes_ptr, Option.bind_some, theCode_rangeS, rangeS_cap, callS_cap, roundA_M, roundM_ready, roundB_N, roundB_R, roundB_E, roundN_none, roundN_some, rangeEnd_M, rangeM_ready, rangeM_ret, setAll_nil, setAll_cons, pack_one, pack_two, pack_none,
    Option.map_some, Option.isSome_some, ne_eq, not_false_eq_true, Nat.reduceEqDiff, Nat.reduceLT, if_true, if_false, Nat.reduceAdd, Nat.add_zero, Nat.zero_add, Option.some.injEq, decide_eq_true_eq, List.map_cons, List.map_nil, List.all_cons, List.all_nil, Bool.and_true, List.nil_append, List.append_nil, List.cons_append, hl, i0, hln0, hbig, en8, a1, Bool.false_eq_true]
  refine loop_goal (F := fun z => ∃ H', leaveR Try.prog [.tmp 2] (thenA (inBlockA 0 z) _) = some (.ret (.bool true), H'))
    (fun k s => ∃ tm H pre post σ, s = ⟨tm, [], H⟩ ∧ l = pre ++ post ∧ post.length = k ∧ tm.length = 150 ∧ tm.getD 0 undef = v ∧ tm.getD 3 undef = .pointer (some ⟨H0.next, 0, none⟩) ∧ tm.getD 4 undef = .int .i64 σ.types.length ∧ tm.getD 5 undef = .int .i64 σ.next ∧ tm.getD 6 undef = .int .i64 pre.length ∧ St0 H0 H H0.next σ ∧ σ.wf pre.length)
    (fun x s => ∃ tm H σ, s = ⟨tm, [], H⟩ ∧ x = .exit 0 ∧ tm.length = 150 ∧ tm.getD 3 undef = .pointer (some ⟨H0.next, 0, none⟩) ∧ tm.getD 4 undef = .int .i64 σ.types.length ∧ St0 H0 H H0.next σ ∧ σ.wf l.length) l.length ?_ ?_ ?_
  · refine ⟨_, _, [], l, sc0, rfl, rfl, rfl, ?_, ?_, ?_, ?_, ?_, ?_, ⟨g1, F1, s1, f1⟩, wf_sc0⟩
    · simp only [List.length_set, hl]
    all_goals simp (config := { decide := true }) only [rd_ne, rd_same, List.length_set, hl, ne_eq, not_false_eq_true, i0, List.length_nil]
    all_goals rfl
  · rintro k _ ⟨tm, H, pre, post, σ, rfl, hpp, hk, hl, i0, i3, i4, i5, i6, h, hwp⟩
    have hsH := hs.grown hf0 h.1
    have hln := hsH.len
    cases post with
    | nil =>
      right
      rw [List.append_nil] at hpp
      subst hpp
      have hlt : ¬ ((l.length : Int) < l.length) := by omega
      refine ⟨?x0, ?s0, ?h0, ?hx0, ?hq0⟩
      case h0 =>
        simp (config := { decide := true }) only [theCode_seq, theCode_list, theCode_skip, theCode_ret, theCode_exit, theCode_label, theCode_block, theCode_if, evalList_plain, evalList_guard, evalList_nil, nd_move, nd_assign, nd_pick, nd_alloc, nd_box, nd_build, nd_buildSlice, nd_load, nd_store, nd_nilCheck, nd_binOp, nd_unOp, nd_convert, nd_makeInterface, nd_makeFunc, nd_makeMap, nd_slice, nd_fieldAddr, nd_field, nd_indexAddr, nd_index, nd_lookup, nd_mapUpdate, nd_typeAssert, nd_extract, nd_call, nd_panic,
    ok_tmp, ok_const, ok_func, cl_int, cl_bool, cl_string, cl_ptr, cl_map, cl_nilFunc, cl_nilIface, cl_slice, opA_move, opA_assign, opA_pick, opA_load, opA_store, opA_nilCheck, opA_fieldAddr, opA_extract, opA_bin, opA_un, opA_call, opA_call0, opA_build0, opA_len, opA_appendS, opA_makeMap, opA_indexAddr, opA_sliceHi, opA_sliceLo, opA_sliceLH, opA_lookup, opA_mapUpdate, opA_build, opA_box, opA_alloc, opA_makeFunc0, opA_makeFunc00,
    contA_val, contA_skip, contA_enter, contA_panic, contA_ite, callA_ret, callA_panic, callA_ite, putT_some, putT_none, aev_tmp, aev_const, aev_func, rd_same, rd_ne, List.length_set, valA_some, skipA_some, pairA_some,
    thenA_normal, thenA_ret, thenA_exit, thenA_panic, thenA_ite, inBlockA_normal, inBlockA_ret, inBlockA_exit, inBlockA_panic, inBlockA_ite, boolOf_bool, loadS_ptr, storeS_ptr, nilCheckS_ptr, nilCheckS_func, fieldAddrS_eq, extractS_tuple, un_not,
    bin_lss, bin_leq, bin_gtr, bin_geq, bin_eql, bin_neq, bin_add, bin_sub, bin_mul, bin_seql, bin_sneq, bin_ptr_eql, bin_ptr_neq, bin_nil_eql, bin_nil_neq, callS_plain, callS_func, lenS_slice, leaveR_ite, leaveR_ret, leaveR_normal, leaveR_panic, resA_tmp, resA_nil, yieldA_S, slotAt_succ, slotAt_zero, yieldS_some, List.getElem?_toArray, List.getElem?_cons_zero, List.getElem?_cons_succ, resA_cell, cellRes_ptr, Option.bind_some, theCode_rangeS, rangeS_cap, callS_cap, roundA_M, roundM_ready, roundB_N, roundB_R, roundB_E, roundN_none, roundN_some, rangeEnd_M, rangeM_ready, rangeM_ret, setAll_nil, setAll_cons, pack_one, pack_two, pack_none,
    Option.map_some, Option.isSome_some, ne_eq, not_false_eq_true, Nat.reduceEqDiff, Nat.reduceLT, if_true, if_false, Nat.reduceAdd, Nat.add_zero, Nat.zero_add, Option.some.injEq, decide_eq_true_eq, List.map_cons, List.map_nil, List.all_cons, List.all_nil, Bool.and_true, List.nil_append, List.append_nil, List.cons_append, hl, i0, i3, i4, i5, i6, hln, hlt, Bool.false_eq_true]
        rfl
      case hx0 => exact fun h => by cases h
      case hq0 =>
        refine ⟨_, _, σ, rfl, rfl, ?_, ?_, ?_, h, hwp⟩
        · simp only [List.length_set, hl]
        all_goals simp (config := { decide := true }) only [rd_ne, ne_eq, not_false_eq_true, i3, i4]
    | cons s post =>
      left
      have hil : pre.length < l.length := by rw [hpp]; simp
      have hlt : (pre.length : Int) < l.length := by omega
      have hget : l.getD pre.length ⟨0, ⟨#[]⟩, 0, false⟩ = s := by rw [hpp, List.getD_eq_getElem?_getD, List.getElem?_append_right (Nat.le_refl _)]; simp
      have hixs := hsH.index hil
      have hcl := hsH.cells _ hil
      rw [hget] at hcl
      have ld0 : H.loadV Try.prog 38 (addA (baseOf v) (pre.length * 4)) = some (.agg (stpC s).toArray) := by
        rw [loadV_agg agg38 info38, cells38, hcl]; rfl
      obtain ⟨Hb, eb⟩ : ∃ X, (H.push (.box [.int .i64 0, .string ⟨#[]⟩, .int .i64 0, .bool false] 38)).set H.next (.box (stpC s) 38) = X := ⟨_, rfl⟩
      have st0 : (H.push (.box [.int .i64 0, .string ⟨#[]⟩, .int .i64 0, .bool false] 38)).storeV Try.prog 38 ⟨H.next, 0, none⟩ (.agg (stpC s).toArray) = some Hb := by
        rw [storeV_box info38 get_push_new (by rw [cells38]; rfl) (by rw [vc_agg]; rfl) (by rw [vc_agg]; simp [stpC, fl_string, fl_bool, fl_int]), vc_agg, ← eb]
      have gb : Grown H Hb := by rw [← eb]; exact (Grown.push h.1.fresh _).set2 _ get_push_new (Nat.le_refl _)
      have hbx : Hb.get H.next = some (.box [.int .i64 s.kind, .string s.name, .int .i64 s.ty, .bool s.turns] 38) := by rw [← eb]; exact get_set_same
      obtain ⟨hg00, F, hsA0, hF⟩ := h
      have hg0 := hg00.trans gb
      have hsA := hsA0.grown hg00.fresh gb
      have hbn : H.next < Hb.next := get_lt gb.fresh hbx
      have hnF : ∀ j, F j → j ≠ H.next := fun j hj => by have := hsA0.lt hg00.fresh hj; omega
      have hpk : theCall Try.prog ext 16 [.int .i64 s.kind, .int .i64 6] Hb = some (.ret (.int .i64 (s.kind % 6)), Hb) := pick16 hx (by decide) (by decide)
      have w8 : IntKind.i64.wrap ((pre.length : Int) + 1) = ((pre ++ [s]).length : Nat) := by rw [IntWalk.i64_in _ (by omega)]; simp
      by_cases k2 : s.kind % 6 = 2
      · obtain ⟨H', F', a, sA, u⟩ := declare20 (ext := ext) hx gb.fresh hsA hwp.pos (by have := hwp.bl; omega) (by have := hwp.yl; omega) s.name s.ty
        have hS := St0.upd hg0 hF u sA
        have hwd := wf_decl hwp s.name s.ty
        by_cases e0 : σ.declErr s.name = 0
        · rw [show declV σ s.name = .tuple #[.int .i64 σ.types.length, .int .i64 0] by unfold declV; rw [e0]; rfl] at a
          obtain ⟨f1, f2⟩ := find_decl (ty := s.ty) e0 hwp.pos
          obtain ⟨H2, a2, g2⟩ := find10 (ext := ext) hx u.fresh sA hwd.ok (by have := hwd.bl; omega) (by have := hwd.yl; omega) s.name
          rw [show findV (σ.decl s.name s.ty) s.name = .tuple #[.int .i64 σ.types.length, .int .i64 s.ty, .bool true] by unfold findV; rw [f1]; dsimp only; rw [f2]; rfl] at a2
          have hbx2 : H2.get H.next = some (.box [.int .i64 s.kind, .string s.name, .int .i64 s.ty, .bool s.turns] 38) := g2.has u.fresh (by rw [u.frame _ (fun e => hnF _ e rfl) hbn]; exact hbx)
          have hbx3 : H'.get H.next = some (.box [.int .i64 s.kind, .string s.name, .int .i64 s.ty, .bool s.turns] 38) := by rw [u.frame _ (fun e => hnF _ e rfl) hbn]; exact hbx
          have eT : (σ.decl s.name s.ty).types.length = σ.types.length + 1 := by unfold Sc.decl; rw [if_pos e0]; simp
          have eN : (σ.decl s.name s.ty).next = σ.next := by unfold Sc.decl; rw [if_pos e0]
          have hy := hwd.y256
          have w4 : IntKind.i64.wrap ((σ.types.length : Int) + 1) = ((σ.decl s.name s.ty).types.length : Int) := by rw [eT, IntWalk.i64_in _ (by omega)]; omega
          have w5 : (σ.next : Int) = ((σ.decl s.name s.ty).next : Int) := by rw [eN]
          have hgt : ¬ ((256 : Int) < ((σ.decl s.name s.ty).types.length : Int)) := by omega
          refine ⟨?s1, ?h1, post.length, by rw [← hk]; simp, ?q1⟩
          case h1 =>
            simp (config := { decide := true }) only [theCode_seq, theCode_list, theCode_skip, theCode_ret, theCode_exit, theCode_label, theCode_block, theCode_if, evalList_plain, evalList_guard, evalList_nil, nd_move, nd_assign, nd_pick, nd_alloc, nd_box, nd_build, nd_buildSlice, nd_load, nd_store, nd_nilCheck, nd_binOp, nd_unOp, nd_convert, nd_makeInterface, nd_makeFunc, nd_makeMap, nd_slice, nd_fieldAddr, nd_field, nd_indexAddr, nd_index, nd_lookup, nd_mapUpdate, nd_typeAssert, nd_extract, nd_call, nd_panic,
    ok_tmp, ok_const, ok_func, cl_int, cl_bool, cl_string, cl_ptr, cl_map, cl_nilFunc, cl_nilIface, cl_slice, opA_move, opA_assign, opA_pick, opA_load, opA_store, opA_nilCheck, opA_fieldAddr, opA_extract, opA_bin, opA_un, opA_call, opA_call0, opA_build0, opA_len, opA_appendS, opA_makeMap, opA_indexAddr, opA_sliceHi, opA_sliceLo, opA_sliceLH, opA_lookup, opA_mapUpdate, opA_build, opA_box, opA_alloc, opA_makeFunc0, opA_makeFunc00,
    contA_val, contA_skip, contA_enter, contA_panic, contA_ite, callA_ret, callA_panic, callA_ite, putT_some, putT_none, aev_tmp, aev_const, aev_func, rd_same, rd_ne, List.length_set, valA_some, skipA_some, pairA_some,
    thenA_normal, thenA_ret, thenA_exit, thenA_panic, thenA_ite, inBlockA_normal, inBlockA_ret, inBlockA_exit, inBlockA_panic, inBlockA_ite, boolOf_bool, loadS_ptr, storeS_ptr, nilCheckS_ptr, nilCheckS_func, fieldAddrS_eq, extractS_tuple, un_not,
    bin_lss, bin_leq, bin_gtr, bin_geq, bin_eql, bin_neq, bin_add, bin_sub, bin_mul, bin_seql, bin_sneq, bin_ptr_eql, bin_ptr_neq, bin_nil_eql, bin_nil_neq, callS_plain, callS_func, lenS_slice, leaveR_ite, leaveR_ret, leaveR_normal, leaveR_panic, resA_tmp, resA_nil, yieldA_S, slotAt_succ, slotAt_zero, yieldS_some, List.getElem?_toArray, List.getElem?_cons_zero, List.getElem?_cons_succ, resA_cell, cellRes_ptr, Option.bind_some, theCode_rangeS, rangeS_cap, callS_cap, roundA_M, roundM_ready, roundB_N, roundB_R, roundB_E, roundN_none, roundN_some, rangeEnd_M, rangeM_ready, rangeM_ret, setAll_nil, setAll_cons, pack_one, pack_two, pack_none,
    Option.map_some, Option.isSome_some, ne_eq, not_false_eq_true, Nat.reduceEqDiff, Nat.reduceLT, if_true, if_false, Nat.reduceAdd, Nat.add_zero, Nat.zero_add, Option.some.injEq, decide_eq_true_eq, List.map_cons, List.map_nil, List.all_cons, List.all_nil, Bool.and_true, List.nil_append, List.append_nil, List.cons_append,
            hl, i0, i3, i4, i5, i6, hln, hlt, hixs, sli22, ld0, zf38, vc_agg, st0, hbx, cellO_box, off38_0, off38_1, off38_2, off38_3, agg3, agg9, agg4, loadV_flat, cell_eq, en16, hpk, en13, en17, en20, en14, en18, en10, en11, en9, k2, a, a2, hbx2, hbx3, w4, hgt, eq_self, decide_true, decide_false, Bool.false_eq_true, Bool.not_true, Bool.not_false]
            rfl
          case q1 =>
            refine ⟨_, _, pre ++ [s], post, σ.decl s.name s.ty, rfl, by rw [hpp]; simp, rfl, ?_, ?_, ?_, ?_, ?_, ?_, hS.grow g2, by rw [List.length_append]; exact hwd⟩
            · simp only [List.length_set, hl]
            all_goals simp (config := { decide := true }) only [rd_ne, rd_same, List.length_set, hl, ne_eq, not_false_eq_true, i0, i3, i4, i5, i6, w4, w5, w8]
        · by_cases e73 : σ.declErr s.name = 73
          · rw [show declV σ s.name = .tuple #[.int .i64 0, .int .i64 73] by unfold declV; rw [e73]; rfl] at a
            have h256 : (σ.types.length : Int) = 256 := by
              unfold Sc.declErr at e73
              split at e73
              · simp at e73
              · split at e73
                · rename_i h; omega
                · simp at e73
            have hgt : ¬ ((256 : Int) < (σ.types.length : Int)) := by omega
            have eD : σ.decl s.name s.ty = σ := by unfold Sc.decl; rw [if_neg e0]
            have w4 := True.intro
            have w5 := True.intro
            rw [h256] at i4 hgt
            refine ⟨?s2, ?h2, post.length, by rw [← hk]; simp, ?q2⟩
            case h2 =>
              simp (config := { decide := true }) only [theCode_seq, theCode_list, theCode_skip, theCode_ret, theCode_exit, theCode_label, theCode_block, theCode_if, evalList_plain, evalList_guard, evalList_nil, nd_move, nd_assign, nd_pick, nd_alloc, nd_box, nd_build, nd_buildSlice, nd_load, nd_store, nd_nilCheck, nd_binOp, nd_unOp, nd_convert, nd_makeInterface, nd_makeFunc, nd_makeMap, nd_slice, nd_fieldAddr, nd_field, nd_indexAddr, nd_index, nd_lookup, nd_mapUpdate, nd_typeAssert, nd_extract, nd_call, nd_panic,
    ok_tmp, ok_const, ok_func, cl_int, cl_bool, cl_string, cl_ptr, cl_map, cl_nilFunc, cl_nilIface, cl_slice, opA_move, opA_assign, opA_pick, opA_load, opA_store, opA_nilCheck, opA_fieldAddr, opA_extract, opA_bin, opA_un, opA_call, opA_call0, opA_build0, opA_len, opA_appendS, opA_makeMap, opA_indexAddr, opA_sliceHi, opA_sliceLo, opA_sliceLH, opA_lookup, opA_mapUpdate, opA_build, opA_box, opA_alloc, opA_makeFunc0, opA_makeFunc00,
    contA_val, contA_skip, contA_enter, contA_panic, contA_ite, callA_ret, callA_panic, callA_ite, putT_some, putT_none, aev_tmp, aev_const, aev_func, rd_same, rd_ne, List.length_set, valA_some, skipA_some, pairA_some,
    thenA_normal, thenA_ret, thenA_exit, thenA_panic, thenA_ite, inBlockA_normal, inBlockA_ret, inBlockA_exit, inBlockA_panic, inBlockA_ite, boolOf_bool, loadS_ptr, storeS_ptr, nilCheckS_ptr, nilCheckS_func, fieldAddrS_eq, extractS_tuple, un_not,
    bin_lss, bin_leq, bin_gtr, bin_geq, bin_eql, bin_neq, bin_add, bin_sub, bin_mul, bin_seql, bin_sneq, bin_ptr_eql, bin_ptr_neq, bin_nil_eql, bin_nil_neq, callS_plain, callS_func, lenS_slice, leaveR_ite, leaveR_ret, leaveR_normal, leaveR_panic, resA_tmp, resA_nil, yieldA_S, slotAt_succ, slotAt_zero, yieldS_some, List.getElem?_toArray, List.getElem?_cons_zero, List.getElem?_cons_succ, resA_cell, cellRes_ptr, Option.bind_some, theCode_rangeS, rangeS_cap, callS_cap, roundA_M, roundM_ready, roundB_N, roundB_R, roundB_E, roundN_none, roundN_some, rangeEnd_M, rangeM_ready, rangeM_ret, setAll_nil, setAll_cons, pack_one, pack_two, pack_none,
    Option.map_some, Option.isSome_some, ne_eq, not_false_eq_true, Nat.reduceEqDiff, Nat.reduceLT, if_true, if_false, Nat.reduceAdd, Nat.add_zero, Nat.zero_add, Option.some.injEq, decide_eq_true_eq, List.map_cons, List.map_nil, List.all_cons, List.all_nil, Bool.and_true, List.nil_append, List.append_nil, List.cons_append,
              hl, i0, i3, i4, i5, i6, hln, hlt, hixs, sli22, ld0, zf38, vc_agg, st0, hbx, cellO_box, off38_0, off38_1, off38_2, off38_3, agg3, agg9, agg4, loadV_flat, cell_eq, en16, hpk, en13, en17, en20, en14, en18, en10, en11, en9, k2, a, hgt, eq_self, decide_true, decide_false, Bool.false_eq_true, Bool.not_true, Bool.not_false]
              rfl
            case q2 =>
              refine ⟨_, _, pre ++ [s], post, σ, rfl, by rw [hpp]; simp, rfl, ?_, ?_, ?_, ?_, ?_, ?_, eD ▸ hS, by rw [List.length_append]; exact hwp.up (Nat.le_succ _)⟩
              · simp only [List.length_set, hl]
              all_goals simp (config := { decide := true }) only [rd_ne, rd_same, List.length_set, hl, ne_eq, not_false_eq_true, i0, i3, i4, i5, i6, w8, h256]
          · have e70 : σ.declErr s.name = 70 := by
              unfold Sc.declErr at e0 e73 ⊢
              split
              · rfl
              · rename_i hne
                rw [if_neg hne] at e0 e73
                split at e73
                · exact absurd rfl e73
                · rename_i hne2; rw [if_neg hne2] at e0; exact absurd rfl e0
            rw [show declV σ s.name = .tuple #[.int .i64 0, .int .i64 70] by unfold declV; rw [e70]; rfl] at a
            have hy := hwp.y256
            have hgt : ¬ ((256 : Int) < (σ.types.length : Int)) := by omega
            have eD : σ.decl s.name s.ty = σ := by unfold Sc.decl; rw [if_neg e0]
            refine ⟨?s3, ?h3, post.length, by rw [← hk]; simp, ?q3⟩
            case h3 =>
              simp (config := { decide := true }) only [theCode_seq, theCode_list, theCode_skip, theCode_ret, theCode_exit, theCode_label, theCode_block, theCode_if, evalList_plain, evalList_guard, evalList_nil, nd_move, nd_assign, nd_pick, nd_alloc, nd_box, nd_build, nd_buildSlice, nd_load, nd_store, nd_nilCheck, nd_binOp, nd_unOp, nd_convert, nd_makeInterface, nd_makeFunc, nd_makeMap, nd_slice, nd_fieldAddr, nd_field, nd_indexAddr, nd_index, nd_lookup, nd_mapUpdate, nd_typeAssert, nd_extract, nd_call, nd_panic,
    ok_tmp, ok_const, ok_func, cl_int, cl_bool, cl_string, cl_ptr, cl_map, cl_nilFunc, cl_nilIface, cl_slice, opA_move, opA_assign, opA_pick, opA_load, opA_store, opA_nilCheck, opA_fieldAddr, opA_extract, opA_bin, opA_un, opA_call, opA_call0, opA_build0, opA_len, opA_appendS, opA_makeMap, opA_indexAddr, opA_sliceHi, opA_sliceLo, opA_sliceLH, opA_lookup, opA_mapUpdate, opA_build, opA_box, opA_alloc, opA_makeFunc0, opA_makeFunc00,
    contA_val, contA_skip, contA_enter, contA_panic, contA_ite, callA_ret, callA_panic, callA_ite, putT_some, putT_none, aev_tmp, aev_const, aev_func, rd_same, rd_ne, List.length_set, valA_some, skipA_some, pairA_some,
    thenA_normal, thenA_ret, thenA_exit, thenA_panic, thenA_ite, inBlockA_normal, inBlockA_ret, inBlockA_exit, inBlockA_panic, inBlockA_ite, boolOf_bool, loadS_ptr, storeS_ptr, nilCheckS_ptr, nilCheckS_func, fieldAddrS_eq, extractS_tuple, un_not,
    bin_lss, bin_leq, bin_gtr, bin_geq, bin_eql, bin_neq, bin_add, bin_sub, bin_mul, bin_seql, bin_sneq, bin_ptr_eql, bin_ptr_neq, bin_nil_eql, bin_nil_neq, callS_plain, callS_func, lenS_slice, leaveR_ite, leaveR_ret, leaveR_normal, leaveR_panic, resA_tmp, resA_nil, yieldA_S, slotAt_succ, slotAt_zero, yieldS_some, List.getElem?_toArray, List.getElem?_cons_zero, List.getElem?_cons_succ, resA_cell, cellRes_ptr, Option.bind_some, theCode_rangeS, rangeS_cap, callS_cap, roundA_M, roundM_ready, roundB_N, roundB_R, roundB_E, roundN_none, roundN_some, rangeEnd_M, rangeM_ready, rangeM_ret, setAll_nil, setAll_cons, pack_one, pack_two, pack_none,
    Option.map_some, Option.isSome_some, ne_eq, not_false_eq_true, Nat.reduceEqDiff, Nat.reduceLT, if_true, if_false, Nat.reduceAdd, Nat.add_zero, Nat.zero_add, Option.some.injEq, decide_eq_true_eq, List.map_cons, List.map_nil, List.all_cons, List.all_nil, Bool.and_true, List.nil_append, List.append_nil, List.cons_append,
              hl, i0, i3, i4, i5, i6, hln, hlt, hixs, sli22, ld0, zf38, vc_agg, st0, hbx, cellO_box, off38_0, off38_1, off38_2, off38_3, agg3, agg9, agg4, loadV_flat, cell_eq, en16, hpk, en13, en17, en20, en14, en18, en10, en11, en9, k2, a, hgt, eq_self, decide_true, decide_false, Bool.false_eq_true, Bool.not_true, Bool.not_false]
              rfl
            case q3 =>
              refine ⟨_, _, pre ++ [s], post, σ, rfl, by rw [hpp]; simp, rfl, ?_, ?_, ?_, ?_, ?_, ?_, eD ▸ hS, by rw [List.length_append]; exact hwp.up (Nat.le_succ _)⟩
              · simp only [List.length_set, hl]
              all_goals simp (config := { decide := true }) only [rd_ne, rd_same, List.length_set, hl, ne_eq, not_false_eq_true, i0, i3, i4, i5, i6, w8]
      by_cases k4 : s.kind % 6 = 4
      · obtain ⟨H', F', a, sA, u⟩ := enter14 (ext := ext) hx gb.fresh hsA (by have := hwp.tl; omega) (by have := hwp.nx; omega) s.name s.turns
        have hS := St0.upd hg0 hF u sA
        have hwd := wf_enter hwp s.name s.turns
        cases hc : σ.twice s.name with
        | true =>
          rw [show entV2 σ s.name = .tuple #[.int .i64 0, .int .i64 70] by unfold entV2; rw [hc]; rfl] at a
          have eD : σ.enter s.name s.turns = σ := by unfold Sc.enter; rw [hc]; rfl
          refine ⟨?s4, ?h4, post.length, by rw [← hk]; simp, ?q4⟩
          case h4 =>
            simp (config := { decide := true }) only [theCode_seq, theCode_list, theCode_skip, theCode_ret, theCode_exit, theCode_label, theCode_block, theCode_if, evalList_plain, evalList_guard, evalList_nil, nd_move, nd_assign, nd_pick, nd_alloc, nd_box, nd_build, nd_buildSlice, nd_load, nd_store, nd_nilCheck, nd_binOp, nd_unOp, nd_convert, nd_makeInterface, nd_makeFunc, nd_makeMap, nd_slice, nd_fieldAddr, nd_field, nd_indexAddr, nd_index, nd_lookup, nd_mapUpdate, nd_typeAssert, nd_extract, nd_call, nd_panic,
    ok_tmp, ok_const, ok_func, cl_int, cl_bool, cl_string, cl_ptr, cl_map, cl_nilFunc, cl_nilIface, cl_slice, opA_move, opA_assign, opA_pick, opA_load, opA_store, opA_nilCheck, opA_fieldAddr, opA_extract, opA_bin, opA_un, opA_call, opA_call0, opA_build0, opA_len, opA_appendS, opA_makeMap, opA_indexAddr, opA_sliceHi, opA_sliceLo, opA_sliceLH, opA_lookup, opA_mapUpdate, opA_build, opA_box, opA_alloc, opA_makeFunc0, opA_makeFunc00,
    contA_val, contA_skip, contA_enter, contA_panic, contA_ite, callA_ret, callA_panic, callA_ite, putT_some, putT_none, aev_tmp, aev_const, aev_func, rd_same, rd_ne, List.length_set, valA_some, skipA_some, pairA_some,
    thenA_normal, thenA_ret, thenA_exit, thenA_panic, thenA_ite, inBlockA_normal, inBlockA_ret, inBlockA_exit, inBlockA_panic, inBlockA_ite, boolOf_bool, loadS_ptr, storeS_ptr, nilCheckS_ptr, nilCheckS_func, fieldAddrS_eq, extractS_tuple, un_not,
    bin_lss, bin_leq, bin_gtr, bin_geq, bin_eql, bin_neq, bin_add, bin_sub, bin_mul, bin_seql, bin_sneq, bin_ptr_eql, bin_ptr_neq, bin_nil_eql, bin_nil_neq, callS_plain, callS_func, lenS_slice, leaveR_ite, leaveR_ret, leaveR_normal, leaveR_panic, resA_tmp, resA_nil, yieldA_S, slotAt_succ, slotAt_zero, yieldS_some, List.getElem?_toArray, List.getElem?_cons_zero, List.getElem?_cons_succ, resA_cell, cellRes_ptr, Option.bind_some, theCode_rangeS, rangeS_cap, callS_cap, roundA_M, roundM_ready, roundB_N, roundB_R, roundB_E, roundN_none, roundN_some, rangeEnd_M, rangeM_ready, rangeM_ret, setAll_nil, setAll_cons, pack_one, pack_two, pack_none,
    Option.map_some, Option.isSome_some, ne_eq, not_false_eq_true, Nat.reduceEqDiff, Nat.reduceLT, if_true, if_false, Nat.reduceAdd, Nat.add_zero, Nat.zero_add, Option.some.injEq, decide_eq_true_eq, List.map_cons, List.map_nil, List.all_cons, List.all_nil, Bool.and_true, List.nil_append, List.append_nil, List.cons_append,
            hl, i0, i3, i4, i5, i6, hln, hlt, hixs, sli22, ld0, zf38, vc_agg, st0, hbx, cellO_box, off38_0, off38_1, off38_2, off38_3, agg3, agg9, agg4, loadV_flat, cell_eq, en16, hpk, en13, en17, en20, en14, en18, en10, en11, en9, k2, k4, a, eq_self, decide_true, decide_false, Bool.false_eq_true, Bool.not_true, Bool.not_false]
            rfl
          case q4 =>
            refine ⟨_, _, pre ++ [s], post, σ, rfl, by rw [hpp]; simp, rfl, ?_, ?_, ?_, ?_, ?_, ?_, eD ▸ hS, by rw [List.length_append]; exact hwp.up (Nat.le_succ _)⟩
            · simp only [List.length_set, hl]
            all_goals simp (config := { decide := true }) only [rd_ne, rd_same, List.length_set, hl, ne_eq, not_false_eq_true, i0, i3, i4, i5, i6, w8]
        | false =>
          rw [show entV2 σ s.name = .tuple #[.int .i64 σ.next, .int .i64 0] by unfold entV2; rw [hc]; rfl] at a
          obtain ⟨t1, t2⟩ := target_enter (tn := s.turns) hc
          obtain ⟨H2, a2, g2⟩ := target11 (ext := ext) hx u.fresh sA (by have := hwd.tl; omega) ⟨#[]⟩ false
          obtain ⟨H3, a3, g3⟩ := target11 (ext := ext) hx g2.fresh (sA.grown u.fresh g2) (by have := hwd.tl; omega) s.name false
          rw [show targV (σ.enter s.name s.turns) ⟨#[]⟩ false = .tuple #[.int .i64 σ.next, .int .i64 0] by unfold targV; rw [t1]] at a2
          rw [show targV (σ.enter s.name s.turns) s.name false = .tuple #[.int .i64 σ.next, .int .i64 0] by unfold targV; rw [t2]] at a3
          have hbx2 : H2.get H.next = some (.box [.int .i64 s.kind, .string s.name, .int .i64 s.ty, .bool s.turns] 38) := g2.has u.fresh (by rw [u.frame _ (fun e => hnF _ e rfl) hbn]; exact hbx)
          have eN : (σ.enter s.name s.turns).next = σ.next + 1 := by unfold Sc.enter; rw [hc]; rfl
          have eT : (σ.enter s.name s.turns).types.length = σ.types.length := by unfold Sc.enter; rw [hc]; rfl
          have hnx := hwp.nx
          have w5 : IntKind.i64.wrap ((σ.next : Int) + 1) = ((σ.enter s.name s.turns).next : Int) := by rw [eN, IntWalk.i64_in _ (by omega)]; omega
          have w4 : (σ.types.length : Int) = ((σ.enter s.name s.turns).types.length : Int) := by rw [eT]
          refine ⟨?s5, ?h5, post.length, by rw [← hk]; simp, ?q5⟩
          case h5 =>
            simp (config := { decide := true }) only [theCode_seq, theCode_list, theCode_skip, theCode_ret, theCode_exit, theCode_label, theCode_block, theCode_if, evalList_plain, evalList_guard, evalList_nil, nd_move, nd_assign, nd_pick, nd_alloc, nd_box, nd_build, nd_buildSlice, nd_load, nd_store, nd_nilCheck, nd_binOp, nd_unOp, nd_convert, nd_makeInterface, nd_makeFunc, nd_makeMap, nd_slice, nd_fieldAddr, nd_field, nd_indexAddr, nd_index, nd_lookup, nd_mapUpdate, nd_typeAssert, nd_extract, nd_call, nd_panic,
    ok_tmp, ok_const, ok_func, cl_int, cl_bool, cl_string, cl_ptr, cl_map, cl_nilFunc, cl_nilIface, cl_slice, opA_move, opA_assign, opA_pick, opA_load, opA_store, opA_nilCheck, opA_fieldAddr, opA_extract, opA_bin, opA_un, opA_call, opA_call0, opA_build0, opA_len, opA_appendS, opA_makeMap, opA_indexAddr, opA_sliceHi, opA_sliceLo, opA_sliceLH, opA_lookup, opA_mapUpdate, opA_build, opA_box, opA_alloc, opA_makeFunc0, opA_makeFunc00,
    contA_val, contA_skip, contA_enter, contA_panic, contA_ite, callA_ret, callA_panic, callA_ite, putT_some, putT_none, aev_tmp, aev_const, aev_func, rd_same, rd_ne, List.length_set, valA_some, skipA_some, pairA_some,
    thenA_normal, thenA_ret, thenA_exit, thenA_panic, thenA_ite, inBlockA_normal, inBlockA_ret, inBlockA_exit, inBlockA_panic, inBlockA_ite, boolOf_bool, loadS_ptr, storeS_ptr, nilCheckS_ptr, nilCheckS_func, fieldAddrS_eq, extractS_tuple, un_not,
    bin_lss, bin_leq, bin_gtr, bin_geq, bin_eql, bin_neq, bin_add, bin_sub, bin_mul, bin_seql, bin_sneq, bin_ptr_eql, bin_ptr_neq, bin_nil_eql, bin_nil_neq, callS_plain, callS_func, lenS_slice, leaveR_ite, leaveR_ret, leaveR_normal, leaveR_panic, resA_tmp, resA_nil, yieldA_S, slotAt_succ, slotAt_zero, yieldS_some, List.getElem?_toArray, List.getElem?_cons_zero, List.getElem?_cons_succ, resA_cell, cellRes_ptr, Option.bind_some, theCode_rangeS, rangeS_cap, callS_cap, roundA_M, roundM_ready, roundB_N, roundB_R, roundB_E, roundN_none, roundN_some, rangeEnd_M, rangeM_ready, rangeM_ret, setAll_nil, setAll_cons, pack_one, pack_two, pack_none,
    Option.map_some, Option.isSome_some, ne_eq, not_false_eq_true, Nat.reduceEqDiff, Nat.reduceLT, if_true, if_false, Nat.reduceAdd, Nat.add_zero, Nat.zero_add, Option.some.injEq, decide_eq_true_eq, List.map_cons, List.map_nil, List.all_cons, List.all_nil, Bool.and_true, List.nil_append, List.append_nil, List.cons_append,
            hl, i0, i3, i4, i5, i6, hln, hlt, hixs, sli22, ld0, zf38, vc_agg, st0, hbx, cellO_box, off38_0, off38_1, off38_2, off38_3, agg3, agg9, agg4, loadV_flat, cell_eq, en16, hpk, en13, en17, en20, en14, en18, en10, en11, en9, k2, k4, a, a2, a3, hbx2, w5, eq_self, decide_true, decide_false, Bool.false_eq_true, Bool.not_true, Bool.not_false]
            rfl
          case q5 =>
            refine ⟨_, _, pre ++ [s], post, σ.enter s.name s.turns, rfl, by rw [hpp]; simp, rfl, ?_, ?_, ?_, ?_, ?_, ?_, (hS.grow g2).grow g3, by rw [List.length_append]; exact hwd⟩
            · simp only [List.length_set, hl]
            all_goals simp (config := { decide := true }) only [rd_ne, rd_same, List.length_set, hl, ne_eq, not_false_eq_true, i0, i3, i4, i5, i6, w4, w5, w8]
      obtain ⟨v', hsl, hs1⟩ := hs.one hil (t := 22) sli22 rfl Hb ((hs.grown hf0 hg0).eok (by omega))
      rw [hget] at hs1
      obtain ⟨H', a, hS⟩ := run9 (ext := ext) hx hf0 (n := pre.length) ⟨hg0, F, hsA, hF⟩ hwp hs1 (by simp; omega)
      have hR : runL σ [s] = runS σ s := rfl
      rw [hR] at hS
      have eT : (runS σ s).types.length = σ.types.length := by
        unfold runS
        split
        · rfl
        · split
          · unfold Sc.close; split <;> rfl
          · (try rw [if_neg k2]); (try rw [if_neg k4])
            split
            · unfold Sc.leave; split <;> rfl
            · rfl
      have eN : (runS σ s).next = σ.next := by
        unfold runS
        split
        · rfl
        · split
          · unfold Sc.close; split <;> rfl
          · (try rw [if_neg k2]); (try rw [if_neg k4])
            split
            · unfold Sc.leave; split <;> rfl
            · rfl
      have w4 : (σ.types.length : Int) = ((runS σ s).types.length : Int) := by rw [eT]
      have w5 : (σ.next : Int) = ((runS σ s).next : Int) := by rw [eN]
      have w6 : IntKind.i64.wrap ((pre.length : Int) + 1) = (pre.length : Int) + 1 := IntWalk.i64_in _ (by omega)
      have w9 : (pre.length : Int) + 1 = ((pre ++ [s]).length : Nat) := by simp
      refine ⟨?s6, ?h6, post.length, by rw [← hk]; simp, ?q6⟩
      case h6 =>
        simp (config := { decide := true }) only [theCode_seq, theCode_list, theCode_skip, theCode_ret, theCode_exit, theCode_label, theCode_block, theCode_if, evalList_plain, evalList_guard, evalList_nil, nd_move, nd_assign, nd_pick, nd_alloc, nd_box, nd_build, nd_buildSlice, nd_load, nd_store, nd_nilCheck, nd_binOp, nd_unOp, nd_convert, nd_makeInterface, nd_makeFunc, nd_makeMap, nd_slice, nd_fieldAddr, nd_field, nd_indexAddr, nd_index, nd_lookup, nd_mapUpdate, nd_typeAssert, nd_extract, nd_call, nd_panic,
    ok_tmp, ok_const, ok_func, cl_int, cl_bool, cl_string, cl_ptr, cl_map, cl_nilFunc, cl_nilIface, cl_slice, opA_move, opA_assign, opA_pick, opA_load, opA_store, opA_nilCheck, opA_fieldAddr, opA_extract, opA_bin, opA_un, opA_call, opA_call0, opA_build0, opA_len, opA_appendS, opA_makeMap, opA_indexAddr, opA_sliceHi, opA_sliceLo, opA_sliceLH, opA_lookup, opA_mapUpdate, opA_build, opA_box, opA_alloc, opA_makeFunc0, opA_makeFunc00,
    contA_val, contA_skip, contA_enter, contA_panic, contA_ite, callA_ret, callA_panic, callA_ite, putT_some, putT_none, aev_tmp, aev_const, aev_func, rd_same, rd_ne, List.length_set, valA_some, skipA_some, pairA_some,
    thenA_normal, thenA_ret, thenA_exit, thenA_panic, thenA_ite, inBlockA_normal, inBlockA_ret, inBlockA_exit, inBlockA_panic, inBlockA_ite, boolOf_bool, loadS_ptr, storeS_ptr, nilCheckS_ptr, nilCheckS_func, fieldAddrS_eq, extractS_tuple, un_not,
    bin_lss, bin_leq, bin_gtr, bin_geq, bin_eql, bin_neq, bin_add, bin_sub, bin_mul, bin_seql, bin_sneq, bin_ptr_eql, bin_ptr_neq, bin_nil_eql, bin_nil_neq, callS_plain, callS_func, lenS_slice, leaveR_ite, leaveR_ret, leaveR_normal, leaveR_panic, resA_tmp, resA_nil, yieldA_S, slotAt_succ, slotAt_zero, yieldS_some, List.getElem?_toArray, List.getElem?_cons_zero, List.getElem?_cons_succ, resA_cell, cellRes_ptr, Option.bind_some, theCode_rangeS, rangeS_cap, callS_cap, roundA_M, roundM_ready, roundB_N, roundB_R, roundB_E, roundN_none, roundN_some, rangeEnd_M, rangeM_ready, rangeM_ret, setAll_nil, setAll_cons, pack_one, pack_two, pack_none,
    Option.map_some, Option.isSome_some, ne_eq, not_false_eq_true, Nat.reduceEqDiff, Nat.reduceLT, if_true, if_false, Nat.reduceAdd, Nat.add_zero, Nat.zero_add, Option.some.injEq, decide_eq_true_eq, List.map_cons, List.map_nil, List.all_cons, List.all_nil, Bool.and_true, List.nil_append, List.append_nil, List.cons_append,
        hl, i0, i3, i4, i5, i6, hln, hlt, hixs, sli22, ld0, zf38, vc_agg, st0, hbx, cellO_box, off38_0, off38_1, off38_2, off38_3, agg3, agg9, agg4, loadV_flat, cell_eq, en16, hpk, en13, en17, en20, en14, en18, en10, en11, en9, k2, k4, w6, hsl, a, eq_self, decide_true, decide_false, Bool.false_eq_true, Bool.not_true, Bool.not_false]
        rfl
      case q6 =>
        refine ⟨_, _, pre ++ [s], post, runS σ s, rfl, by rw [hpp]; simp, rfl, ?_, ?_, ?_, ?_, ?_, ?_, hS, by rw [List.length_append]; exact wf_runS hwp s⟩
        · simp only [List.length_set, hl]
        all_goals simp (config := { decide := true }) only [rd_ne, rd_same, List.length_set, hl, ne_eq, not_false_eq_true, i0, i3, i4, i5, i6, ← w4, ← w5, w9]
  · rintro x _ hx' ⟨tm, H, σ, rfl, rfl, hl, i3, i4, h, hwp⟩
    obtain ⟨hg, F, hsA, hF⟩ := h
    obtain ⟨vs, H2, b1, b2, b3, b4⟩ := slots12 (ext := ext) hx hg.fresh hsA (by have := hwp.yl; omega)
    obtain ⟨H3, c1, c2⟩ := works15 (ext := ext) hx b3.fresh
    have hl2 := fun H2 => b2.lenS isl32 H2
    refine ⟨H3, ?_⟩
    simp (config := { decide := true }) only [theCode_seq, theCode_list, theCode_skip, theCode_ret, theCode_exit, theCode_label, theCode_block, theCode_if, evalList_plain, evalList_guard, evalList_nil, nd_move, nd_assign, nd_pick, nd_alloc, nd_box, nd_build, nd_buildSlice, nd_load, nd_store, nd_nilCheck, nd_binOp, nd_unOp, nd_convert, nd_makeInterface, nd_makeFunc, nd_makeMap, nd_slice, nd_fieldAddr, nd_field, nd_indexAddr, nd_index, nd_lookup, nd_mapUpdate, nd_typeAssert, nd_extract, nd_call, nd_panic,
    ok_tmp, ok_const, ok_func, cl_int, cl_bool, cl_string, cl_ptr, cl_map, cl_nilFunc, cl_nilIface, cl_slice, opA_move, opA_assign, opA_pick, opA_load, opA_store, opA_nilCheck, opA_fieldAddr, opA_extract, opA_bin, opA_un, opA_call, opA_call0, opA_build0, opA_len, opA_appendS, opA_makeMap, opA_indexAddr, opA_sliceHi, opA_sliceLo, opA_sliceLH, opA_lookup, opA_mapUpdate, opA_build, opA_box, opA_alloc, opA_makeFunc0, opA_makeFunc00,
    contA_val, contA_skip, contA_enter, contA_panic, contA_ite, callA_ret, callA_panic, callA_ite, putT_some, putT_none, aev_tmp, aev_const, aev_func, rd_same, rd_ne, List.length_set, valA_some, skipA_some, pairA_some,
    thenA_normal, thenA_ret, thenA_exit, thenA_panic, thenA_ite, inBlockA_normal, inBlockA_ret, inBlockA_exit, inBlockA_panic, inBlockA_ite, boolOf_bool, loadS_ptr, storeS_ptr, nilCheckS_ptr, nilCheckS_func, fieldAddrS_eq, extractS_tuple, un_not,
    bin_lss, bin_leq, bin_gtr, bin_geq, bin_eql, bin_neq, bin_add, bin_sub, bin_mul, bin_seql, bin_sneq, bin_ptr_eql, bin_ptr_neq, bin_nil_eql, bin_nil_neq, callS_plain, callS_func, lenS_slice, leaveR_ite, leaveR_ret, leaveR_normal, leaveR_panic, resA_tmp, resA_nil, yieldA_S, slotAt_succ, slotAt_zero, yieldS_some, List.getElem?_toArray, List.getElem?_cons_zero, List.getElem?_cons_succ, resA_cell, cellRes_ptr, Option.bind_some, theCode_rangeS, rangeS_cap, callS_cap, roundA_M, roundM_ready, roundB_N, roundB_R, roundB_E, roundN_none, roundN_some, rangeEnd_M, rangeM_ready, rangeM_ret, setAll_nil, setAll_cons, pack_one, pack_two, pack_none,
    Option.map_some, Option.isSome_some, ne_eq, not_false_eq_true, Nat.reduceEqDiff, Nat.reduceLT, if_true, if_false, Nat.reduceAdd, Nat.add_zero, Nat.zero_add, Option.some.injEq, decide_eq_true_eq, List.map_cons, List.map_nil, List.all_cons, List.all_nil, Bool.and_true, List.nil_append, List.append_nil, List.cons_append, hl, i3, i4, en12, b1, hl2, en15, c1, eq_self, decide_true]

end Go.Proofs.Ytnjoaffnfjlcaaa

namespace Go.Proofs.Ytnjoaffnfjlcaaa
open Go Go.Proofs B Go.ChangeShapes Go.WideShapes Go.ChangeAt Go.RowKit Go.ChangeMaps

set_option maxRecDepth 100000 in
theorem rises_lifted (os : Os) (started : os.Started) (H : Type) (enc : TypeId × Value → H) :
    ReturnsInHanded {} Try.checked os 4 .any (Rows.scopeRisesSpec.pre6 enc Try.prog Try.f4 Rows.scopeRisesRow.domain false) (Rows.scopeRisesSpec.post enc Try.prog Try.f4 false true false false) := by
  refine returnsInHanded_of_change (C := Try.checked) Try.own started (by kernel_rfl) Try.func4
    (ChangeSpec.witness6 (enc := enc) (C := Try.checked) false ⟨#[], #[.slice none 0 0], []⟩ 8 (by kernel_rfl) (by kernel_rfl) (by kernel_rfl) (by kernel_rfl)) ?_
  intro W base args ds gs before hval0 hW hcnd _
  have hval : ∀ (j : Nat) t v, Try.f4.params[j]? = some t → args[j]? = some v → Value.okWide Try.prog W .any base t v := hval0
  have hW' := hW
  obtain ⟨p, q, hA0, hV, rfl, hfz, hnd⟩ := hW
  have hA : DataW.TrodAll enc Try.prog W 0 (fun _ => true) true Try.f4.params.toList args.toList ds p := hA0
  rw [Try.params4] at hA hval
  obtain ⟨v0, d0, rfl, rfl, h0⟩ := trodAll_one hA
  obtain ⟨rfl, rfl⟩ := trodVars_none hV
  obtain ⟨v', l, hrel, hscr⟩ := script_in (okWide_slice (und_of Try.underlying22) (hval 0 22 v0 rfl rfl)) (fun _ => rfl) h0
  obtain ⟨H', hcall⟩ := rises4 (ext := fun _ _ _ => none) (fun _ _ _ _ => rfl) (heapOf_rel Try.prog W).fresh hscr
  refine (entry ext0_ok Try.mixed Try.func4 hcall rfl (.cons hrel .nil)).mono fun e W' ⟨he, hw⟩ => ?_
  subst he
  exact ⟨_, rfl, post_true Try.kids Try.full hW' (by rw [Try.params4]; intro t ht; simp at ht; subst ht; show _ < Try.prog.types.size; rw [Try.types_size]; decide) rfl rfl (und_of Try.underlying4) rfl rfl rfl hw⟩

theorem scopeRises_holds : Rows.ScopeRisesSaid :=
  OpenClaim.holds_of_wide 4 Try.f4 rfl rfl rfl rfl rfl rfl rfl ⟨rfl, rfl, rfl, rfl, rfl⟩ rfl rfl rfl rfl rfl (by kernel_rfl) Try.func4 (by kernel_rfl)
    (of_decide_eq_true (by kernel_rfl)) (by unfold Func.isWrapper; rw [if_neg (of_decide_eq_false (by kernel_rfl))]; exact ⟨rfl, rfl⟩)
    (fun os started H enc _ => rises_lifted os started H enc)

end Go.Proofs.Ytnjoaffnfjlcaaa
