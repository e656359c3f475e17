/-
  scope: Declare, Slots, walked.
-/
import Derived.Test.YtnjoaffnfjlcaaaOps4
namespace Go.Proofs.Ytnjoaffnfjlcaaa
open Go Go.Proofs B
set_option linter.unusedSimpArgs false


def declV (σ : Sc) (nm : ByteArray) : Value := .tuple #[.int .i64 (if σ.declErr nm = 0 then (σ.types.length : Int) else 0), .int .i64 (σ.declErr nm : Nat)]

theorem declare20 {ext : CallT} (hx : ∀ f args H, f ≠ 22 → ext f args H = none) {H : AHeap} (hf : H.Fresh) {b : Nat} {σ : Sc} {F : Nat → Prop} (h : ScopeAt H b σ F) (hb1 : 0 < σ.blocks.length) (hn : σ.blocks.length < 1000000) (hn2 : σ.types.length < 1000000) (nm : ByteArray) (ty : Int) :
    ∃ H' F', theCall Try.prog ext 20 [.pointer (some ⟨b, 0, none⟩), .string nm, .int .i64 ty] H = some (.ret (declV σ nm), H') ∧ ScopeAt H' b (σ.decl nm ty) F' ∧ Upd H F H' F' := by
  obtain ⟨bl, tl, ts, rs, h, rfl⟩ := h
  obtain ⟨m, hm⟩ : ∃ m, σ.blocks.length = m + 1 := ⟨σ.blocks.length - 1, by omega⟩
  have htop : σ.top = σ.blocks.getD m [] := by unfold Sc.top; rw [hm]; rfl
  obtain ⟨r, hr1, hr2⟩ := h.maps m (by omega)
  rw [← htop] at hr2
  have hrm := List.mem_of_getElem? hr1
  have hrr : rs.getD m 0 = r := by rw [List.getD_eq_getElem?_getD, hr1]; rfl
  have c3 := fun H2 => h.ob.lenS isl48 H2
  have c4 := fun H2 => h.oy.lenS isl32 H2
  have hw : IntKind.i64.wrap ((σ.blocks.length : Int) - 1) = (m : Int) := by rw [hm, IntWalk.i64_in _ (by omega)]; omega
  have hix := fun H2 => indexAddrS_own (j := m) (k := .i64) h.ob (by omega) (by omega) es48 H2
  simp only [Int.toNat_natCast] at hix
  have hld := h.valB (i := m) (by omega)
  rw [loadV_flat agg56, hrr] at hld
  have hlk := lookS_str2 (P := Try.prog) (t := 56) (k := nm) (und_of Try.underlying56) us9 zero3 hr2
  rw [lookB_entV] at hlk
  cases hlook : lookN σ.top nm with
  | some k =>
    rw [hlook] at hlk
    have hE : σ.declErr nm = 70 := by unfold Sc.declErr; rw [hlook]; rfl
    have hV : declV σ nm = .tuple #[.int .i64 0, .int .i64 70] := by unfold declV; rw [hE]; rfl
    have hD : σ.decl nm ty = σ := by unfold Sc.decl; rw [hE]; rfl
    rw [hV, hD]
    refine ⟨H, _, ?_, ⟨_, _, _, _, h, rfl⟩, Upd.refl hf⟩
    refine theCall_run (hx _ _ _ (by decide)) Try.func20 (rs := [.tmp 6, .tmp 7]) rfl rfl rfl (by simp) fun tm hl hi => ?_
    replace hl : tm.length = 56 := hl
    have i0 := hi 0
    have i1 := hi 1
    have i2 := hi 2
    simp only [List.getD_cons_zero, List.getD_cons_succ] at i0 i1 i2
    simp (config := { decide := true }) only [theCode_seq, theCode_list, theCode_skip, theCode_ret, theCode_exit, theCode_label, theCode_block, theCode_if, evalList_plain, evalList_guard, evalList_nil, nd_move, nd_assign, nd_pick, nd_alloc, nd_box, nd_build, nd_buildSlice, nd_load, nd_store, nd_nilCheck, nd_binOp, nd_unOp, nd_convert, nd_makeInterface, nd_makeFunc, nd_makeMap, nd_slice, nd_fieldAddr, nd_field, nd_indexAddr, nd_index, nd_lookup, nd_mapUpdate, nd_typeAssert, nd_extract, nd_call, nd_panic,
    ok_tmp, ok_const, ok_func, cl_int, cl_bool, cl_string, cl_ptr, cl_map, cl_nilFunc, cl_nilIface, cl_slice, opA_move, opA_assign, opA_pick, opA_load, opA_store, opA_nilCheck, opA_fieldAddr, opA_extract, opA_bin, opA_un, opA_call, opA_call0, opA_build0, opA_len, opA_appendS, opA_makeMap, opA_indexAddr, opA_sliceHi, opA_sliceLo, opA_sliceLH, opA_lookup, opA_mapUpdate, opA_build, opA_box, opA_alloc, opA_makeFunc0, opA_makeFunc00,
    contA_val, contA_skip, contA_enter, contA_panic, contA_ite, callA_ret, callA_panic, callA_ite, putT_some, putT_none, aev_tmp, aev_const, aev_func, rd_same, rd_ne, List.length_set, valA_some, skipA_some, pairA_some,
    thenA_normal, thenA_ret, thenA_exit, thenA_panic, thenA_ite, inBlockA_normal, inBlockA_ret, inBlockA_exit, inBlockA_panic, inBlockA_ite, boolOf_bool, loadS_ptr, storeS_ptr, nilCheckS_ptr, nilCheckS_func, fieldAddrS_eq, extractS_tuple, un_not,
    bin_lss, bin_leq, bin_gtr, bin_geq, bin_eql, bin_neq, bin_add, bin_sub, bin_mul, bin_seql, bin_sneq, bin_ptr_eql, bin_ptr_neq, bin_nil_eql, bin_nil_neq, callS_plain, callS_func, lenS_slice, leaveR_ite, leaveR_ret, leaveR_normal, leaveR_panic, resA_tmp, resA_nil, yieldA_S, slotAt_succ, slotAt_zero, yieldS_some, List.getElem?_toArray, List.getElem?_cons_zero, List.getElem?_cons_succ, resA_cell, cellRes_ptr, Option.bind_some, theCode_rangeS, rangeS_cap, callS_cap, roundA_M, roundM_ready, roundB_N, roundB_R, roundB_E, roundN_none, roundN_some, rangeEnd_M, rangeM_ready, rangeM_ret, setAll_nil, setAll_cons, pack_one, pack_two, pack_none,
    Option.map_some, Option.isSome_some, ne_eq, not_false_eq_true, Nat.reduceEqDiff, Nat.reduceLT, if_true, if_false, Nat.reduceAdd, Nat.add_zero, Nat.zero_add, Option.some.injEq, decide_eq_true_eq, List.map_cons, List.map_nil, List.all_cons, List.all_nil, Bool.and_true, List.nil_append, List.append_nil, List.cons_append,
        hl, i0, i1, i2, isp23, Bool.false_eq_true]
    rw [theCode_text (by kernel_rfl)]
    simp (config := { decide := true }) only [theCode_seq, theCode_list, theCode_skip, theCode_ret, theCode_exit, theCode_label, theCode_block, theCode_if, evalList_plain, evalList_guard, evalList_nil, nd_move, nd_assign, nd_pick, nd_alloc, nd_box, nd_build, nd_buildSlice, nd_load, nd_store, nd_nilCheck, nd_binOp, nd_unOp, nd_convert, nd_makeInterface, nd_makeFunc, nd_makeMap, nd_slice, nd_fieldAddr, nd_field, nd_indexAddr, nd_index, nd_lookup, nd_mapUpdate, nd_typeAssert, nd_extract, nd_call, nd_panic,
    ok_tmp, ok_const, ok_func, cl_int, cl_bool, cl_string, cl_ptr, cl_map, cl_nilFunc, cl_nilIface, cl_slice, opA_move, opA_assign, opA_pick, opA_load, opA_store, opA_nilCheck, opA_fieldAddr, opA_extract, opA_bin, opA_un, opA_call, opA_call0, opA_build0, opA_len, opA_appendS, opA_makeMap, opA_indexAddr, opA_sliceHi, opA_sliceLo, opA_sliceLH, opA_lookup, opA_mapUpdate, opA_build, opA_box, opA_alloc, opA_makeFunc0, opA_makeFunc00,
    contA_val, contA_skip, contA_enter, contA_panic, contA_ite, callA_ret, callA_panic, callA_ite, putT_some, putT_none, aev_tmp, aev_const, aev_func, rd_same, rd_ne, List.length_set, valA_some, skipA_some, pairA_some,
    thenA_normal, thenA_ret, thenA_exit, thenA_panic, thenA_ite, inBlockA_normal, inBlockA_ret, inBlockA_exit, inBlockA_panic, inBlockA_ite, boolOf_bool, loadS_ptr, storeS_ptr, nilCheckS_ptr, nilCheckS_func, fieldAddrS_eq, extractS_tuple, un_not,
    bin_lss, bin_leq, bin_gtr, bin_geq, bin_eql, bin_neq, bin_add, bin_sub, bin_mul, bin_seql, bin_sneq, bin_ptr_eql, bin_ptr_neq, bin_nil_eql, bin_nil_neq, callS_plain, callS_func, lenS_slice, leaveR_ite, leaveR_ret, leaveR_normal, leaveR_panic, resA_tmp, resA_nil, yieldA_S, slotAt_succ, slotAt_zero, yieldS_some, List.getElem?_toArray, List.getElem?_cons_zero, List.getElem?_cons_succ, resA_cell, cellRes_ptr, Option.bind_some, theCode_rangeS, rangeS_cap, callS_cap, roundA_M, roundM_ready, roundB_N, roundB_R, roundB_E, roundN_none, roundN_some, rangeEnd_M, rangeM_ready, rangeM_ret, setAll_nil, setAll_cons, pack_one, pack_two, pack_none,
    Option.map_some, Option.isSome_some, ne_eq, not_false_eq_true, Nat.reduceEqDiff, Nat.reduceLT, if_true, if_false, Nat.reduceAdd, Nat.add_zero, Nat.zero_add, Option.some.injEq, decide_eq_true_eq, List.map_cons, List.map_nil, List.all_cons, List.all_nil, Bool.and_true, List.nil_append, List.append_nil, List.cons_append, dropP_normal,
        hl, i0, i1, i2, off55_0, off55_2, off50_0, agg48, agg32, loadV_flat, cell_eq, h.box, cellO_box, c3, hw, hix, sli48, hld, c4, hlk, Option.map_some, Option.map_none, Option.isSome_some, Option.isSome_none, Bool.false_eq_true, ]
  | none =>
    rw [hlook] at hlk
    by_cases h256 : σ.types.length = 256
    · have hE : σ.declErr nm = 73 := by unfold Sc.declErr; rw [hlook, h256]; rfl
      have hV : declV σ nm = .tuple #[.int .i64 0, .int .i64 73] := by unfold declV; rw [hE]; rfl
      have hD : σ.decl nm ty = σ := by unfold Sc.decl; rw [hE]; rfl
      rw [hV, hD]
      refine ⟨H, _, ?_, ⟨_, _, _, _, h, rfl⟩, Upd.refl hf⟩
      rw [h256] at c4
      refine theCall_run (hx _ _ _ (by decide)) Try.func20 (rs := [.tmp 6, .tmp 7]) rfl rfl rfl (by simp) fun tm hl hi => ?_
      replace hl : tm.length = 56 := hl
      have i0 := hi 0
      have i1 := hi 1
      have i2 := hi 2
      simp only [List.getD_cons_zero, List.getD_cons_succ] at i0 i1 i2
      simp (config := { decide := true }) only [theCode_seq, theCode_list, theCode_skip, theCode_ret, theCode_exit, theCode_label, theCode_block, theCode_if, evalList_plain, evalList_guard, evalList_nil, nd_move, nd_assign, nd_pick, nd_alloc, nd_box, nd_build, nd_buildSlice, nd_load, nd_store, nd_nilCheck, nd_binOp, nd_unOp, nd_convert, nd_makeInterface, nd_makeFunc, nd_makeMap, nd_slice, nd_fieldAddr, nd_field, nd_indexAddr, nd_index, nd_lookup, nd_mapUpdate, nd_typeAssert, nd_extract, nd_call, nd_panic,
      ok_tmp, ok_const, ok_func, cl_int, cl_bool, cl_string, cl_ptr, cl_map, cl_nilFunc, cl_nilIface, cl_slice, opA_move, opA_assign, opA_pick, opA_load, opA_store, opA_nilCheck, opA_fieldAddr, opA_extract, opA_bin, opA_un, opA_call, opA_call0, opA_build0, opA_len, opA_appendS, opA_makeMap, opA_indexAddr, opA_sliceHi, opA_sliceLo, opA_sliceLH, opA_lookup, opA_mapUpdate, opA_build, opA_box, opA_alloc, opA_makeFunc0, opA_makeFunc00,
      contA_val, contA_skip, contA_enter, contA_panic, contA_ite, callA_ret, callA_panic, callA_ite, putT_some, putT_none, aev_tmp, aev_const, aev_func, rd_same, rd_ne, List.length_set, valA_some, skipA_some, pairA_some,
      thenA_normal, thenA_ret, thenA_exit, thenA_panic, thenA_ite, inBlockA_normal, inBlockA_ret, inBlockA_exit, inBlockA_panic, inBlockA_ite, boolOf_bool, loadS_ptr, storeS_ptr, nilCheckS_ptr, nilCheckS_func, fieldAddrS_eq, extractS_tuple, un_not,
      bin_lss, bin_leq, bin_gtr, bin_geq, bin_eql, bin_neq, bin_add, bin_sub, bin_mul, bin_seql, bin_sneq, bin_ptr_eql, bin_ptr_neq, bin_nil_eql, bin_nil_neq, callS_plain, callS_func, lenS_slice, leaveR_ite, leaveR_ret, leaveR_normal, leaveR_panic, resA_tmp, resA_nil, yieldA_S, slotAt_succ, slotAt_zero, yieldS_some, List.getElem?_toArray, List.getElem?_cons_zero, List.getElem?_cons_succ, resA_cell, cellRes_ptr, Option.bind_some, theCode_rangeS, rangeS_cap, callS_cap, roundA_M, roundM_ready, roundB_N, roundB_R, roundB_E, roundN_none, roundN_some, rangeEnd_M, rangeM_ready, rangeM_ret, setAll_nil, setAll_cons, pack_one, pack_two, pack_none,
      Option.map_some, Option.isSome_some, ne_eq, not_false_eq_true, Nat.reduceEqDiff, Nat.reduceLT, if_true, if_false, Nat.reduceAdd, Nat.add_zero, Nat.zero_add, Option.some.injEq, decide_eq_true_eq, List.map_cons, List.map_nil, List.all_cons, List.all_nil, Bool.and_true, List.nil_append, List.append_nil, List.cons_append,
          hl, i0, i1, i2, isp23, Bool.false_eq_true]
      rw [theCode_text (by kernel_rfl)]
      simp (config := { decide := true }) only [theCode_seq, theCode_list, theCode_skip, theCode_ret, theCode_exit, theCode_label, theCode_block, theCode_if, evalList_plain, evalList_guard, evalList_nil, nd_move, nd_assign, nd_pick, nd_alloc, nd_box, nd_build, nd_buildSlice, nd_load, nd_store, nd_nilCheck, nd_binOp, nd_unOp, nd_convert, nd_makeInterface, nd_makeFunc, nd_makeMap, nd_slice, nd_fieldAddr, nd_field, nd_indexAddr, nd_index, nd_lookup, nd_mapUpdate, nd_typeAssert, nd_extract, nd_call, nd_panic,
      ok_tmp, ok_const, ok_func, cl_int, cl_bool, cl_string, cl_ptr, cl_map, cl_nilFunc, cl_nilIface, cl_slice, opA_move, opA_assign, opA_pick, opA_load, opA_store, opA_nilCheck, opA_fieldAddr, opA_extract, opA_bin, opA_un, opA_call, opA_call0, opA_build0, opA_len, opA_appendS, opA_makeMap, opA_indexAddr, opA_sliceHi, opA_sliceLo, opA_sliceLH, opA_lookup, opA_mapUpdate, opA_build, opA_box, opA_alloc, opA_makeFunc0, opA_makeFunc00,
      contA_val, contA_skip, contA_enter, contA_panic, contA_ite, callA_ret, callA_panic, callA_ite, putT_some, putT_none, aev_tmp, aev_const, aev_func, rd_same, rd_ne, List.length_set, valA_some, skipA_some, pairA_some,
      thenA_normal, thenA_ret, thenA_exit, thenA_panic, thenA_ite, inBlockA_normal, inBlockA_ret, inBlockA_exit, inBlockA_panic, inBlockA_ite, boolOf_bool, loadS_ptr, storeS_ptr, nilCheckS_ptr, nilCheckS_func, fieldAddrS_eq, extractS_tuple, un_not,
      bin_lss, bin_leq, bin_gtr, bin_geq, bin_eql, bin_neq, bin_add, bin_sub, bin_mul, bin_seql, bin_sneq, bin_ptr_eql, bin_ptr_neq, bin_nil_eql, bin_nil_neq, callS_plain, callS_func, lenS_slice, leaveR_ite, leaveR_ret, leaveR_normal, leaveR_panic, resA_tmp, resA_nil, yieldA_S, slotAt_succ, slotAt_zero, yieldS_some, List.getElem?_toArray, List.getElem?_cons_zero, List.getElem?_cons_succ, resA_cell, cellRes_ptr, Option.bind_some, theCode_rangeS, rangeS_cap, callS_cap, roundA_M, roundM_ready, roundB_N, roundB_R, roundB_E, roundN_none, roundN_some, rangeEnd_M, rangeM_ready, rangeM_ret, setAll_nil, setAll_cons, pack_one, pack_two, pack_none,
      Option.map_some, Option.isSome_some, ne_eq, not_false_eq_true, Nat.reduceEqDiff, Nat.reduceLT, if_true, if_false, Nat.reduceAdd, Nat.add_zero, Nat.zero_add, Option.some.injEq, decide_eq_true_eq, List.map_cons, List.map_nil, List.all_cons, List.all_nil, Bool.and_true, List.nil_append, List.append_nil, List.cons_append, dropP_normal,
          hl, i0, i1, i2, off55_0, off55_2, off50_0, agg48, agg32, loadV_flat, cell_eq, h.box, cellO_box, c3, hw, hix, sli48, hld, c4, hlk, Option.map_some, Option.map_none, Option.isSome_some, Option.isSome_none, Bool.false_eq_true, ]
    · have hE : σ.declErr nm = 0 := by unfold Sc.declErr; rw [hlook, if_neg (by simp), if_neg h256]
      have hV : declV σ nm = .tuple #[.int .i64 σ.types.length, .int .i64 0] := by unfold declV; rw [hE]; rfl
      have hD : σ.decl nm ty = { σ with blocks := σ.blocks.take m ++ [σ.top ++ [(nm, σ.types.length)]], types := σ.types ++ [ty] } := by
        unfold Sc.decl; rw [if_pos hE, hm]; rfl
      rw [hV, hD]
      have hput := mapPut_str (P := Try.prog) (t := 56) (k := nm) (v := .int .i64 σ.types.length) (und_of Try.underlying56) us9 hr2 (by rw [lookB_entV, hlook]; rfl)
      have hent : entV σ.top ++ [(nm, Value.int .i64 σ.types.length)] = entV (σ.top ++ [(nm, σ.types.length)]) := by simp [entV]
      rw [hent] at hput
      obtain ⟨Ha, ea⟩ : ∃ X, H.set r (.map (strE (entV (σ.top ++ [(nm, σ.types.length)])))) = X := ⟨_, rfl⟩
      rw [ea] at hput
      have hfa : ∀ j, j ≠ r → Ha.get j = H.get j := fun j hj => by rw [← ea]; exact get_set_ne hj
      have hra : Ha.get r = some (.map (strE (entV (σ.top ++ [(nm, σ.types.length)])))) := by rw [← ea]; exact get_set_same
      have hfra : Ha.Fresh := by rw [← ea]; exact (AHeap.le_set hr2).fresh hf
      have hna : Ha.next = H.next := by rw [← ea]; rfl
      have hrb : r ≠ b := fun e => by subst e; have := h.kb; have := h.kr hrm; omega
      have hSa : SAt Ha b { σ with blocks := σ.blocks.take m ++ [σ.top ++ [(nm, σ.types.length)]] } bl tl ts rs := by
        have hlen : (σ.blocks.take m ++ [σ.top ++ [(nm, σ.types.length)]]).length = σ.blocks.length := by simp [hm]
        refine h.repB hf (fun j hj hjb hji hjk => hfa j (by rintro rfl; exact hjk (h.kr hrm))) (by rw [hfa b (Ne.symm hrb)]; exact h.box) ?_ ?_ h.nd
        · rw [hlen]
          exact h.ob.mono fun i hi => hfa i (by rintro rfl; have := h.ob.kind hi; have := h.kr hrm; omega)
        · intro i hi
          rw [hlen, hm] at hi
          rcases Nat.lt_or_ge i m with hlt | hge
          · obtain ⟨r', g1, g2⟩ := h.maps i (by omega)
            have hne : r' ≠ r := by
              rintro rfl
              have hi1 : i < rs.length := (List.getElem?_eq_some_iff.1 g1).1
              have hm1 : m < rs.length := (List.getElem?_eq_some_iff.1 hr1).1
              have e1 := (List.getElem?_eq_some_iff.1 g1).2
              have e2 := (List.getElem?_eq_some_iff.1 hr1).2
              have := (List.getElem_inj h.nd).1 (e1.trans e2.symm)
              omega
            refine ⟨r', g1, ?_⟩
            rw [hfa r' hne, g2, List.getD_eq_getElem?_getD, List.getD_eq_getElem?_getD, List.getElem?_append_left (by simp; omega), List.getElem?_take_of_lt hlt]
          · obtain rfl : i = m := by omega
            refine ⟨r, hr1, ?_⟩
            rw [hra, List.getD_eq_getElem?_getD, List.getElem?_append_right (by simp; omega)]
            simp [hm]
      obtain ⟨ts', Hb, b1, b2, hu⟩ := hSa.oy.append1U (xs := [.int .i64 ty]) (i := Try.t3) (z := .int .i64 0) hfra rfl (by decide) rfl rfl rfl rfl (by show σ.types.length + 1 ≤ _; omega) (by show (σ.types.length + 1) * 8 ≤ 140737488355328; omega)
      simp only [List.length_cons, List.length_nil, Nat.zero_add] at b1
      have hba : b < Ha.next := get_lt hfra hSa.box
      have hnb : idOf ts ≠ some b := hSa.oy.id_ne hSa.box
      have hbb : Hb.get b = some (.box [bl, tl, ts, .int .i64 σ.next] 55) := by rw [hu.frame b hnb hba]; exact hSa.box
      have hnb' : idOf ts' ≠ some b := b2.id_ne hbb
      have d1 := b2.vcells
      have d2 := b2.flat
      have hfr : ∀ j, j < Ha.next → j ≠ b → idOf ts ≠ some j → (Hb.set b (.box [bl, tl, ts', .int .i64 σ.next] 55)).get j = Ha.get j := fun j hj hjb hji => by
        rw [get_set_ne hjb]; exact hu.frame j hji hj
      have hSb : SAt (Hb.set b (.box [bl, tl, ts', .int .i64 σ.next] 55)) b { σ with blocks := σ.blocks.take m ++ [σ.top ++ [(nm, σ.types.length)]], types := σ.types ++ [ty] } bl tl ts' rs := by
        refine hSa.repY hfra hfr get_set_same ?_
        have := b2.mono (H2 := Hb.set b (.box [bl, tl, ts', .int .i64 σ.next] 55)) fun i hi => get_set_ne (by rintro rfl; exact hnb' hi)
        simpa [tyC] using this
      have hle : ¬ ((σ.types.length : Int) = 256) := by omega
      refine ⟨Hb.set b (.box [bl, tl, ts', .int .i64 σ.next] 55), _, ?_, ⟨_, _, _, _, hSb, rfl⟩, fun j hj hlt => ?_, fun j hj => ?_, (AHeap.le_set hbb).fresh hu.fresh, Nat.le_trans (Nat.le_of_eq hna.symm) hu.next⟩
      · refine theCall_run (hx _ _ _ (by decide)) Try.func20 (rs := [.tmp 6, .tmp 7]) rfl rfl rfl (by simp) fun tm hl hi => ?_
        replace hl : tm.length = 56 := hl
        have i0 := hi 0
        have i1 := hi 1
        have i2 := hi 2
        simp only [List.getD_cons_zero, List.getD_cons_succ] at i0 i1 i2
        simp (config := { decide := true }) only [theCode_seq, theCode_list, theCode_skip, theCode_ret, theCode_exit, theCode_label, theCode_block, theCode_if, evalList_plain, evalList_guard, evalList_nil, nd_move, nd_assign, nd_pick, nd_alloc, nd_box, nd_build, nd_buildSlice, nd_load, nd_store, nd_nilCheck, nd_binOp, nd_unOp, nd_convert, nd_makeInterface, nd_makeFunc, nd_makeMap, nd_slice, nd_fieldAddr, nd_field, nd_indexAddr, nd_index, nd_lookup, nd_mapUpdate, nd_typeAssert, nd_extract, nd_call, nd_panic,
        ok_tmp, ok_const, ok_func, cl_int, cl_bool, cl_string, cl_ptr, cl_map, cl_nilFunc, cl_nilIface, cl_slice, opA_move, opA_assign, opA_pick, opA_load, opA_store, opA_nilCheck, opA_fieldAddr, opA_extract, opA_bin, opA_un, opA_call, opA_call0, opA_build0, opA_len, opA_appendS, opA_makeMap, opA_indexAddr, opA_sliceHi, opA_sliceLo, opA_sliceLH, opA_lookup, opA_mapUpdate, opA_build, opA_box, opA_alloc, opA_makeFunc0, opA_makeFunc00,
        contA_val, contA_skip, contA_enter, contA_panic, contA_ite, callA_ret, callA_panic, callA_ite, putT_some, putT_none, aev_tmp, aev_const, aev_func, rd_same, rd_ne, List.length_set, valA_some, skipA_some, pairA_some,
        thenA_normal, thenA_ret, thenA_exit, thenA_panic, thenA_ite, inBlockA_normal, inBlockA_ret, inBlockA_exit, inBlockA_panic, inBlockA_ite, boolOf_bool, loadS_ptr, storeS_ptr, nilCheckS_ptr, nilCheckS_func, fieldAddrS_eq, extractS_tuple, un_not,
        bin_lss, bin_leq, bin_gtr, bin_geq, bin_eql, bin_neq, bin_add, bin_sub, bin_mul, bin_seql, bin_sneq, bin_ptr_eql, bin_ptr_neq, bin_nil_eql, bin_nil_neq, callS_plain, callS_func, lenS_slice, leaveR_ite, leaveR_ret, leaveR_normal, leaveR_panic, resA_tmp, resA_nil, yieldA_S, slotAt_succ, slotAt_zero, yieldS_some, List.getElem?_toArray, List.getElem?_cons_zero, List.getElem?_cons_succ, resA_cell, cellRes_ptr, Option.bind_some, theCode_rangeS, rangeS_cap, callS_cap, roundA_M, roundM_ready, roundB_N, roundB_R, roundB_E, roundN_none, roundN_some, rangeEnd_M, rangeM_ready, rangeM_ret, setAll_nil, setAll_cons, pack_one, pack_two, pack_none,
        Option.map_some, Option.isSome_some, ne_eq, not_false_eq_true, Nat.reduceEqDiff, Nat.reduceLT, if_true, if_false, Nat.reduceAdd, Nat.add_zero, Nat.zero_add, Option.some.injEq, decide_eq_true_eq, List.map_cons, List.map_nil, List.all_cons, List.all_nil, Bool.and_true, List.nil_append, List.append_nil, List.cons_append,
            hl, i0, i1, i2, isp23, Bool.false_eq_true]
        rw [theCode_text (by kernel_rfl)]
        simp (config := { decide := true }) only [theCode_seq, theCode_list, theCode_skip, theCode_ret, theCode_exit, theCode_label, theCode_block, theCode_if, evalList_plain, evalList_guard, evalList_nil, nd_move, nd_assign, nd_pick, nd_alloc, nd_box, nd_build, nd_buildSlice, nd_load, nd_store, nd_nilCheck, nd_binOp, nd_unOp, nd_convert, nd_makeInterface, nd_makeFunc, nd_makeMap, nd_slice, nd_fieldAddr, nd_field, nd_indexAddr, nd_index, nd_lookup, nd_mapUpdate, nd_typeAssert, nd_extract, nd_call, nd_panic,
        ok_tmp, ok_const, ok_func, cl_int, cl_bool, cl_string, cl_ptr, cl_map, cl_nilFunc, cl_nilIface, cl_slice, opA_move, opA_assign, opA_pick, opA_load, opA_store, opA_nilCheck, opA_fieldAddr, opA_extract, opA_bin, opA_un, opA_call, opA_call0, opA_build0, opA_len, opA_appendS, opA_makeMap, opA_indexAddr, opA_sliceHi, opA_sliceLo, opA_sliceLH, opA_lookup, opA_mapUpdate, opA_build, opA_box, opA_alloc, opA_makeFunc0, opA_makeFunc00,
        contA_val, contA_skip, contA_enter, contA_panic, contA_ite, callA_ret, callA_panic, callA_ite, putT_some, putT_none, aev_tmp, aev_const, aev_func, rd_same, rd_ne, List.length_set, valA_some, skipA_some, pairA_some,
        thenA_normal, thenA_ret, thenA_exit, thenA_panic, thenA_ite, inBlockA_normal, inBlockA_ret, inBlockA_exit, inBlockA_panic, inBlockA_ite, boolOf_bool, loadS_ptr, storeS_ptr, nilCheckS_ptr, nilCheckS_func, fieldAddrS_eq, extractS_tuple, un_not,
        bin_lss, bin_leq, bin_gtr, bin_geq, bin_eql, bin_neq, bin_add, bin_sub, bin_mul, bin_seql, bin_sneq, bin_ptr_eql, bin_ptr_neq, bin_nil_eql, bin_nil_neq, callS_plain, callS_func, lenS_slice, leaveR_ite, leaveR_ret, leaveR_normal, leaveR_panic, resA_tmp, resA_nil, yieldA_S, slotAt_succ, slotAt_zero, yieldS_some, List.getElem?_toArray, List.getElem?_cons_zero, List.getElem?_cons_succ, resA_cell, cellRes_ptr, Option.bind_some, theCode_rangeS, rangeS_cap, callS_cap, roundA_M, roundM_ready, roundB_N, roundB_R, roundB_E, roundN_none, roundN_some, rangeEnd_M, rangeM_ready, rangeM_ret, setAll_nil, setAll_cons, pack_one, pack_two, pack_none,
        Option.map_some, Option.isSome_some, ne_eq, not_false_eq_true, Nat.reduceEqDiff, Nat.reduceLT, if_true, if_false, Nat.reduceAdd, Nat.add_zero, Nat.zero_add, Option.some.injEq, decide_eq_true_eq, List.map_cons, List.map_nil, List.all_cons, List.all_nil, Bool.and_true, List.nil_append, List.append_nil, List.cons_append, dropP_normal,
            hl, i0, i1, i2, off55_0, off55_2, off50_0, agg48, agg32, loadV_flat, cell_eq, h.box, cellO_box, c3, hw, hix, sli48, hld, c4, hlk, Option.map_some, Option.map_none, Option.isSome_some, Option.isSome_none, Bool.false_eq_true, hle, hput, hSa.box, hbb, opA_build1F, b1_32, es32, vc_int, fl_int, appendS_of sli32, build1S_of sli32, b1, sli32, d1, d2, info32, cells32, storeV_flat, setCell_eq, setCellO_box, Option.getD_none, List.set_cons_zero, List.set_cons_succ, List.size_toArray, List.length_cons, List.length_nil]
      · rw [hfr j (by omega) (fun e => hj (.inl e)) (fun e => hj (.inr (.inr (.inr (.inl e)))))]
        exact hfa j (fun e => hj (.inr (.inr (.inr (.inr (e ▸ hrm))))))
      · rcases hj with rfl | hj | hj | hj | hj
        · exact .inl (.inl rfl)
        · exact .inl (.inr (.inl hj))
        · exact .inl (.inr (.inr (.inl hj)))
        · exact (hu.foot j hj).elim (fun e => .inl (.inr (.inr (.inr (.inl e))))) (fun e => .inr (by omega))
        · exact .inl (.inr (.inr (.inr (.inr hj))))

end Go.Proofs.Ytnjoaffnfjlcaaa
