/-
  scope: New, Open, Close, Leave, walked.
-/
import Derived.Test.YtnjoaffnfjlcaaaSc1
namespace Go.Proofs.Ytnjoaffnfjlcaaa
open Go Go.Proofs B
set_option linter.unusedSimpArgs false


theorem push31 {ext : CallT} (hx : ∀ f args H, f ≠ 22 → ext f args H = none) {H : AHeap} (hf : H.Fresh) {b : Nat} {σ : Sc} {bl tl ts : Value} {rs : List Nat} (h : SAt H b σ bl tl ts rs) (hn : σ.blocks.length < 1000000) {r : Nat} (hr : H.get r = some (.map (strE (entV [])))) (hr2 : r ∉ rs) :
    ∃ bl' H', theCall Try.prog ext 31 [.pointer (some ⟨b, 0, none⟩), .map (some r)] H = some (.ret (.int .i64 (σ.blocks.length + 1)), H') ∧ SAt H' b σ.open' bl' tl ts (rs ++ [r]) ∧ (∀ j, j < H.next → j ≠ b → idOf bl ≠ some j → H'.get j = H.get j) ∧ H.next ≤ H'.next ∧ H'.Fresh ∧ (∀ j, idOf bl' = some j → idOf bl = some j ∨ H.next ≤ j) := by
  obtain ⟨bl', Ha, h1, h2, hu⟩ := h.ob.append1U (xs := [.map (some r)]) (i := Try.t56) (z := .map none) hf rfl (by decide) rfl rfl rfl rfl (by omega) (by show (σ.blocks.length + 1) * 8 ≤ 140737488355328; omega)
  simp only [List.length_cons, List.length_nil, Nat.zero_add] at h1
  have hbl : b < H.next := get_lt hf h.box
  have hnb : idOf bl ≠ some b := h.ob.id_ne h.box
  have hb2 : Ha.get b = some (.box [bl, tl, ts, .int .i64 σ.next] 55) := by rw [hu.frame b hnb hbl]; exact h.box
  have hnb' : idOf bl' ≠ some b := h2.id_ne hb2
  have c1 := h2.vcells
  have c2 := h2.flat
  have c3 := fun H2 => h2.lenS isl48 H2
  have hfr : ∀ j, j < H.next → j ≠ b → idOf bl ≠ some j → (Ha.set b (.box [bl', tl, ts, .int .i64 σ.next] 55)).get j = H.get j := fun j hj hjb hji => by
    rw [get_set_ne hjb]; exact hu.frame j hji hj
  refine ⟨bl', Ha.set b (.box [bl', tl, ts, .int .i64 σ.next] 55), ?_, ?_, hfr, hu.next, (AHeap.le_set hb2).fresh hu.fresh, fun j hj => hu.foot j hj⟩
  · refine theCall_run (hx _ _ _ (by decide)) Try.func31 (rs := [.tmp 4]) rfl rfl rfl (by simp) fun tm hl hi => ?_
    replace hl : tm.length = 20 := hl
    have i0 := hi 0
    have i1 := hi 1
    simp only [List.getD_cons_zero, List.getD_cons_succ] at i0 i1
    simp (config := { decide := true }) only [theCode_seq, theCode_list, theCode_skip, theCode_ret, theCode_exit, theCode_label, theCode_block, theCode_if, evalList_plain, evalList_guard, evalList_nil, nd_move, nd_assign, nd_pick, nd_alloc, nd_box, nd_build, nd_buildSlice, nd_load, nd_store, nd_nilCheck, nd_binOp, nd_unOp, nd_convert, nd_makeInterface, nd_makeFunc, nd_makeMap, nd_slice, nd_fieldAddr, nd_field, nd_indexAddr, nd_index, nd_lookup, nd_mapUpdate, nd_typeAssert, nd_extract, nd_call, nd_panic,
    ok_tmp, ok_const, ok_func, cl_int, cl_bool, cl_string, cl_ptr, cl_map, cl_nilFunc, cl_nilIface, cl_slice, opA_move, opA_assign, opA_pick, opA_load, opA_store, opA_nilCheck, opA_fieldAddr, opA_extract, opA_bin, opA_un, opA_call, opA_call0, opA_build0, opA_len, opA_appendS, opA_makeMap, opA_indexAddr, opA_sliceHi, opA_sliceLo, opA_sliceLH, opA_lookup, opA_mapUpdate, opA_build, opA_box, opA_alloc, opA_makeFunc0, opA_makeFunc00,
    contA_val, contA_skip, contA_enter, contA_panic, contA_ite, callA_ret, callA_panic, callA_ite, putT_some, putT_none, aev_tmp, aev_const, aev_func, rd_same, rd_ne, List.length_set, valA_some, skipA_some, pairA_some,
    thenA_normal, thenA_ret, thenA_exit, thenA_panic, thenA_ite, inBlockA_normal, inBlockA_ret, inBlockA_exit, inBlockA_panic, inBlockA_ite, boolOf_bool, loadS_ptr, storeS_ptr, nilCheckS_ptr, nilCheckS_func, fieldAddrS_eq, extractS_tuple, un_not,
    bin_lss, bin_leq, bin_gtr, bin_geq, bin_eql, bin_neq, bin_add, bin_sub, bin_mul, bin_seql, bin_sneq, bin_ptr_eql, bin_ptr_neq, bin_nil_eql, bin_nil_neq, callS_plain, callS_func, lenS_slice, leaveR_ite, leaveR_ret, leaveR_normal, leaveR_panic, resA_tmp, resA_nil, yieldA_S, slotAt_succ, slotAt_zero, yieldS_some, List.getElem?_toArray, List.getElem?_cons_zero, List.getElem?_cons_succ, resA_cell, cellRes_ptr, Option.bind_some, theCode_rangeS, rangeS_cap, callS_cap, roundA_M, roundM_ready, roundB_N, roundB_R, roundB_E, roundN_none, roundN_some, rangeEnd_M, rangeM_ready, rangeM_ret, setAll_nil, setAll_cons, pack_one, pack_two, pack_none,
    Option.map_some, Option.isSome_some, ne_eq, not_false_eq_true, Nat.reduceEqDiff, Nat.reduceLT, if_true, if_false, Nat.reduceAdd, Nat.add_zero, Nat.zero_add, Option.some.injEq, decide_eq_true_eq, List.map_cons, List.map_nil, List.all_cons, List.all_nil, Bool.and_true, List.nil_append, List.append_nil, List.cons_append,
      hl, i0, i1, storeV_flat, setCell_eq, hb2, setCellO_box, c1, c2, c3, get_set_same, List.set_cons_zero, Option.getD_none, opA_build1F, b1_48, es48, vc_map, fl_map, appendS_of sli48, build1S_of sli48, h1, sli48, off50_0, loadV_flat, agg48, cell_eq, h.box, cellO_box, List.size_toArray, List.length_cons, List.length_nil, info48, cells48]
    push_cast
    rfl
  · refine h.repB hf (fun j hj hjb hji _ => hfr j hj hjb hji) get_set_same ?_ ?_ ?_
    · have := h2.mono (H2 := Ha.set b (.box [bl', tl, ts, .int .i64 σ.next] 55)) fun i hi => get_set_ne (by rintro rfl; exact hnb' hi)
      simpa [Sc.open'] using this
    · intro i hi
      simp only [List.length_append, List.length_cons, List.length_nil] at hi
      rcases Nat.lt_or_ge i σ.blocks.length with hlt | hge
      · obtain ⟨r', g1, g2⟩ := h.maps i hlt
        have hr' := List.mem_of_getElem? g1
        refine ⟨r', ?_, ?_⟩
        · rw [List.getElem?_append_left (by rw [h.len]; exact hlt)]; exact g1
        · rw [hfr r' (get_lt hf g2) (fun e => by subst e; have := h.kb; have := h.kr hr'; omega) (fun e => by have := h.ob.kind e; have := h.kr hr'; omega), g2]
          rw [List.getD_eq_getElem?_getD, List.getD_eq_getElem?_getD, List.getElem?_append_left hlt]
      · obtain rfl : i = σ.blocks.length := by omega
        refine ⟨r, ?_, ?_⟩
        · rw [List.getElem?_append_right (by rw [h.len]; exact Nat.le_refl _), h.len]; simp
        · have kr : kindO (H.get r) = 1001 := by rw [hr]; rfl
          rw [hfr r (get_lt hf hr) (fun e => by subst e; have := h.kb; omega) (fun e => by have := h.ob.kind e; omega), hr]
          rw [List.getD_eq_getElem?_getD, List.getElem?_append_right (Nat.le_refl _)]; simp
    · rw [List.nodup_append]
      exact ⟨h.nd, by simp, fun x hx y hy => by simp only [List.mem_singleton] at hy; subst hy; rintro rfl; exact hr2 hx⟩

theorem open13 {ext : CallT} (hx : ∀ f args H, f ≠ 22 → ext f args H = none) {H : AHeap} (hf : H.Fresh) {b : Nat} {σ : Sc} {F : Nat → Prop} (h : ScopeAt H b σ F) (hn : σ.blocks.length < 1000000) :
    ∃ H' F', theCall Try.prog ext 13 [.pointer (some ⟨b, 0, none⟩)] H = some (.ret (.int .i64 (σ.blocks.length + 1)), H') ∧ ScopeAt H' b σ.open' F' ∧ Upd H F H' F' := by
  obtain ⟨bl, tl, ts, rs, h, rfl⟩ := h
  have g1 : Grown H (H.push (.map [])) := Grown.push hf _
  have h0 := h.grown hf g1
  obtain ⟨bl', H', h1, h2, h3, h4, h5, h6⟩ := push31 (ext := ext) hx g1.fresh h0 hn (r := H.next) get_push_new (fun hm => by have := h.lt hf (.inr (.inr (.inr (.inr hm)))); omega)
  refine ⟨H', _, ?_, ⟨bl', tl, ts, _, h2, rfl⟩, ?_⟩
  · refine theCall_run (hx _ _ _ (by decide)) Try.func13 (rs := [.tmp 2]) rfl rfl rfl (by simp) fun tm hl hi => ?_
    replace hl : tm.length = 10 := hl
    have i0 := hi 0
    simp only [List.getD_cons_zero, List.getD_cons_succ] at i0
    simp (config := { decide := true }) only [theCode_seq, theCode_list, theCode_skip, theCode_ret, theCode_exit, theCode_label, theCode_block, theCode_if, evalList_plain, evalList_guard, evalList_nil, nd_move, nd_assign, nd_pick, nd_alloc, nd_box, nd_build, nd_buildSlice, nd_load, nd_store, nd_nilCheck, nd_binOp, nd_unOp, nd_convert, nd_makeInterface, nd_makeFunc, nd_makeMap, nd_slice, nd_fieldAddr, nd_field, nd_indexAddr, nd_index, nd_lookup, nd_mapUpdate, nd_typeAssert, nd_extract, nd_call, nd_panic,
    ok_tmp, ok_const, ok_func, cl_int, cl_bool, cl_string, cl_ptr, cl_map, cl_nilFunc, cl_nilIface, cl_slice, opA_move, opA_assign, opA_pick, opA_load, opA_store, opA_nilCheck, opA_fieldAddr, opA_extract, opA_bin, opA_un, opA_call, opA_call0, opA_build0, opA_len, opA_appendS, opA_makeMap, opA_indexAddr, opA_sliceHi, opA_sliceLo, opA_sliceLH, opA_lookup, opA_mapUpdate, opA_build, opA_box, opA_alloc, opA_makeFunc0, opA_makeFunc00,
    contA_val, contA_skip, contA_enter, contA_panic, contA_ite, callA_ret, callA_panic, callA_ite, putT_some, putT_none, aev_tmp, aev_const, aev_func, rd_same, rd_ne, List.length_set, valA_some, skipA_some, pairA_some,
    thenA_normal, thenA_ret, thenA_exit, thenA_panic, thenA_ite, inBlockA_normal, inBlockA_ret, inBlockA_exit, inBlockA_panic, inBlockA_ite, boolOf_bool, loadS_ptr, storeS_ptr, nilCheckS_ptr, nilCheckS_func, fieldAddrS_eq, extractS_tuple, un_not,
    bin_lss, bin_leq, bin_gtr, bin_geq, bin_eql, bin_neq, bin_add, bin_sub, bin_mul, bin_seql, bin_sneq, bin_ptr_eql, bin_ptr_neq, bin_nil_eql, bin_nil_neq, callS_plain, callS_func, lenS_slice, leaveR_ite, leaveR_ret, leaveR_normal, leaveR_panic, resA_tmp, resA_nil, yieldA_S, slotAt_succ, slotAt_zero, yieldS_some, List.getElem?_toArray, List.getElem?_cons_zero, List.getElem?_cons_succ, resA_cell, cellRes_ptr, Option.bind_some, theCode_rangeS, rangeS_cap, callS_cap, roundA_M, roundM_ready, roundB_N, roundB_R, roundB_E, roundN_none, roundN_some, rangeEnd_M, rangeM_ready, rangeM_ret, setAll_nil, setAll_cons, pack_one, pack_two, pack_none,
    Option.map_some, Option.isSome_some, ne_eq, not_false_eq_true, Nat.reduceEqDiff, Nat.reduceLT, if_true, if_false, Nat.reduceAdd, Nat.add_zero, Nat.zero_add, Option.some.injEq, decide_eq_true_eq, List.map_cons, List.map_nil, List.all_cons, List.all_nil, Bool.and_true, List.nil_append, List.append_nil, List.cons_append,
      hl, i0, off55_0, isp23, en31, h1]
  · refine ⟨fun j hj hlt => ?_, fun j hj => ?_, h5, Nat.le_trans g1.next h4⟩
    · rw [h3 j (Nat.lt_of_lt_of_le hlt g1.next) (fun e => hj (.inl e)) (fun e => hj (.inr (.inl e)))]
      exact g1.get j hlt
    · rcases hj with rfl | hj | hj | hj | hj
      · exact .inl (.inl rfl)
      · rcases h6 j hj with e | e
        · exact .inl (.inr (.inl e))
        · exact .inr (Nat.le_trans g1.next e)
      · exact .inl (.inr (.inr (.inl hj)))
      · exact .inl (.inr (.inr (.inr (.inl hj))))
      · rw [List.mem_append] at hj
        rcases hj with hj | hj
        · exact .inl (.inr (.inr (.inr (.inr hj))))
        · simp only [List.mem_singleton] at hj; exact .inr (by omega)

theorem build55 {H : AHeap} : buildS Try.prog H 55 [] = some (.val (.agg #[.slice none 0 0, .slice none 0 0, .slice none 0 0, .int .i64 0]) H) := by
  unfold buildS
  have h1 : zeroOf Try.prog 55 = some (.agg #[.slice none 0 0, .slice none 0 0, .slice none 0 0, .int .i64 0]) := by unfold zeroOf; rw [inf55]; rfl
  have h2 : Program.built Try.prog 55 [] = some #[.slice none 0 0, .slice none 0 0, .slice none 0 0, .int .i64 0] := by kernel_rfl
  rw [h1, h2]
theorem zero55 : (zeroOf Try.prog 55).isSome = true := by unfold zeroOf; rw [inf55]; rfl

theorem new8 {ext : CallT} (hx : ∀ f args H, f ≠ 22 → ext f args H = none) {H : AHeap} (hf : H.Fresh) :
    ∃ H' F, theCall Try.prog ext 8 [] H = some (.ret (.pointer (some ⟨H.next, 0, none⟩)), H') ∧ ScopeAt H' H.next sc0 F ∧ Grown H H' ∧ (∀ j, F j → H.next ≤ j) := by
  have g1 : Grown H (H.push (.box [.slice none 0 0, .slice none 0 0, .slice none 0 0, .int .i64 0] 55)) := Grown.push hf _
  have hs : ScopeAt (H.push (.box [.slice none 0 0, .slice none 0 0, .slice none 0 0, .int .i64 0] 55)) H.next ⟨[], [], [], 0⟩ (SFoot H.next (.slice none 0 0) (.slice none 0 0) (.slice none 0 0) []) :=
    ⟨_, _, _, _, ⟨get_push_new, .nil, .nil, .nil, fun i hi => by simp at hi, by simp⟩, rfl⟩
  obtain ⟨H', F', h1, h2, h3⟩ := open13 (ext := ext) hx g1.fresh hs (by decide)
  have hF : ∀ j, SFoot H.next (.slice none 0 0) (.slice none 0 0) (.slice none 0 0) [] j → j = H.next := by
    rintro j (e | e | e | e | e)
    · exact e
    · simp [idOf] at e
    · simp [idOf] at e
    · simp [idOf] at e
    · simp at e
  refine ⟨H', F', ?_, h2, ⟨fun j hj => ?_, Nat.le_trans g1.next h3.next, h3.fresh⟩, fun j hj => ?_⟩
  · refine theCall_run (hx _ _ _ (by decide)) Try.func8 (rs := [.tmp 0]) rfl rfl rfl (by simp) fun tm hl hi => ?_
    replace hl : tm.length = 7 := hl
    simp (config := { decide := true }) only [theCode_seq, theCode_list, theCode_skip, theCode_ret, theCode_exit, theCode_label, theCode_block, theCode_if, evalList_plain, evalList_guard, evalList_nil, nd_move, nd_assign, nd_pick, nd_alloc, nd_box, nd_build, nd_buildSlice, nd_load, nd_store, nd_nilCheck, nd_binOp, nd_unOp, nd_convert, nd_makeInterface, nd_makeFunc, nd_makeMap, nd_slice, nd_fieldAddr, nd_field, nd_indexAddr, nd_index, nd_lookup, nd_mapUpdate, nd_typeAssert, nd_extract, nd_call, nd_panic,
    ok_tmp, ok_const, ok_func, cl_int, cl_bool, cl_string, cl_ptr, cl_map, cl_nilFunc, cl_nilIface, cl_slice, opA_move, opA_assign, opA_pick, opA_load, opA_store, opA_nilCheck, opA_fieldAddr, opA_extract, opA_bin, opA_un, opA_call, opA_call0, opA_build0, opA_len, opA_appendS, opA_makeMap, opA_indexAddr, opA_sliceHi, opA_sliceLo, opA_sliceLH, opA_lookup, opA_mapUpdate, opA_build, opA_box, opA_alloc, opA_makeFunc0, opA_makeFunc00,
    contA_val, contA_skip, contA_enter, contA_panic, contA_ite, callA_ret, callA_panic, callA_ite, putT_some, putT_none, aev_tmp, aev_const, aev_func, rd_same, rd_ne, List.length_set, valA_some, skipA_some, pairA_some,
    thenA_normal, thenA_ret, thenA_exit, thenA_panic, thenA_ite, inBlockA_normal, inBlockA_ret, inBlockA_exit, inBlockA_panic, inBlockA_ite, boolOf_bool, loadS_ptr, storeS_ptr, nilCheckS_ptr, nilCheckS_func, fieldAddrS_eq, extractS_tuple, un_not,
    bin_lss, bin_leq, bin_gtr, bin_geq, bin_eql, bin_neq, bin_add, bin_sub, bin_mul, bin_seql, bin_sneq, bin_ptr_eql, bin_ptr_neq, bin_nil_eql, bin_nil_neq, callS_plain, callS_func, lenS_slice, leaveR_ite, leaveR_ret, leaveR_normal, leaveR_panic, resA_tmp, resA_nil, yieldA_S, slotAt_succ, slotAt_zero, yieldS_some, List.getElem?_toArray, List.getElem?_cons_zero, List.getElem?_cons_succ, resA_cell, cellRes_ptr, Option.bind_some, theCode_rangeS, rangeS_cap, callS_cap, roundA_M, roundM_ready, roundB_N, roundB_R, roundB_E, roundN_none, roundN_some, rangeEnd_M, rangeM_ready, rangeM_ret, setAll_nil, setAll_cons, pack_one, pack_two, pack_none,
    Option.map_some, Option.isSome_some, ne_eq, not_false_eq_true, Nat.reduceEqDiff, Nat.reduceLT, if_true, if_false, Nat.reduceAdd, Nat.add_zero, Nat.zero_add, Option.some.injEq, decide_eq_true_eq, List.map_cons, List.map_nil, List.all_cons, List.all_nil, Bool.and_true, List.nil_append, List.append_nil, List.cons_append,
      hl, zero55, build55, info55, vc_agg, fl_slice, fl_int, en13, h1]
  · rw [h3.frame j (fun e => by have := hF j e; omega) (Nat.lt_of_lt_of_le hj g1.next)]
    exact g1.get j hj
  · rcases h3.foot j hj with e | e
    · have := hF j e; omega
    · exact Nat.le_trans g1.next e

end Go.Proofs.Ytnjoaffnfjlcaaa
