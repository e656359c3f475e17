/-
  scope: Enter, Declare, walked.
-/
import Derived.Test.YtnjoaffnfjlcaaaOps3
namespace Go.Proofs.Ytnjoaffnfjlcaaa
open Go Go.Proofs B
set_option linter.unusedSimpArgs false


theorem push33 {ext : CallT} (hx : ∀ f args H, f ≠ 22 → ext f args H = none) {H : AHeap} (hf : H.Fresh) {b : Nat} {σ : Sc} {bl tl ts : Value} {rs : List Nat} (h : SAt H b σ bl tl ts rs) (hn : σ.turns.length < 1000000) (s : ByteArray) (lp : Bool) (no : Nat) :
    ∃ tl' H', theCall Try.prog ext 33 [.pointer (some ⟨b, 1, none⟩), .agg #[.string s, .bool lp, .int .i64 no]] H = some (.ret (.int .i64 (σ.turns.length + 1)), H') ∧ SAt H' b { σ with turns := σ.turns ++ [⟨s, lp, no⟩] } bl tl' ts rs ∧ (∀ j, j < H.next → j ≠ b → idOf tl ≠ some j → H'.get j = H.get j) ∧ H.next ≤ H'.next ∧ H'.Fresh ∧ (∀ j, idOf tl' = some j → idOf tl = some j ∨ H.next ≤ j) := by
  obtain ⟨H0, e0⟩ : ∃ X, H.push (.box [.string s, .bool lp, .int .i64 no] 62) = X := ⟨_, rfl⟩
  have g0 : Grown H H0 := by rw [← e0]; exact Grown.push hf _
  have x0 : H0.get H.next = some (.box [.string s, .bool lp, .int .i64 no] 62) := by rw [← e0]; exact get_push_new
  have h0 := h.grown hf g0
  obtain ⟨tl', Ha, h1, h2, hu⟩ := h0.ot.append1U (xs := [.string s, .bool lp, .int .i64 no]) (i := Try.t62) (z := .agg #[.string ⟨#[]⟩, .bool false, .int .i64 0]) g0.fresh rfl (by decide) rfl rfl rfl rfl (by omega) (by show (σ.turns.length + 1) * 32 ≤ 140737488355328; omega)
  simp only [List.length_cons, List.length_nil, Nat.zero_add, Nat.reduceAdd] at h1
  have hbl : b < H.next := get_lt hf h.box
  have hnb : idOf tl ≠ some b := h0.ot.id_ne h0.box
  have hb2 : Ha.get b = some (.box [bl, tl, ts, .int .i64 σ.next] 55) := by rw [hu.frame b hnb (Nat.lt_of_lt_of_le hbl g0.next)]; exact h0.box
  have hnb' : idOf tl' ≠ some b := h2.id_ne hb2
  have c1 := h2.vcells
  have c2 := h2.flat
  have c3 := fun H2 => h2.lenS isl51 H2
  have ld0 : H0.loadV Try.prog 62 ⟨H.next, 0, none⟩ = some (.agg #[.string s, .bool lp, .int .i64 no]) := loadV_box agg62 info62 x0 (by rw [cells62]; rfl)
  have hfr : ∀ j, j < H0.next → j ≠ b → idOf tl ≠ some j → (Ha.set b (.box [bl, tl', ts, .int .i64 σ.next] 55)).get j = H0.get j := fun j hj hjb hji => by
    rw [get_set_ne hjb]; exact hu.frame j hji hj
  refine ⟨tl', Ha.set b (.box [bl, tl', ts, .int .i64 σ.next] 55), ?_, ?_, fun j hj hjb hji => by rw [hfr j (Nat.lt_of_lt_of_le hj g0.next) hjb hji]; exact g0.get j hj, Nat.le_trans g0.next hu.next, (AHeap.le_set hb2).fresh hu.fresh, fun j hj => (hu.foot j hj).imp id (Nat.le_trans g0.next)⟩
  · refine theCall_run (hx _ _ _ (by decide)) Try.func33 (rs := [.tmp 4]) rfl rfl rfl (by simp) fun tm hl hi => ?_
    replace hl : tm.length = 20 := hl
    have i0 := hi 0
    have i1 := hi 1
    simp only [List.getD_cons_zero, List.getD_cons_succ] at i0 i1
    simp (config := { decide := true }) only [theCode_seq, theCode_list, theCode_skip, theCode_ret, theCode_exit, theCode_label, theCode_block, theCode_if, evalList_plain, evalList_guard, evalList_nil, nd_move, nd_assign, nd_pick, nd_alloc, nd_box, nd_build, nd_buildSlice, nd_load, nd_store, nd_nilCheck, nd_binOp, nd_unOp, nd_convert, nd_makeInterface, nd_makeFunc, nd_makeMap, nd_slice, nd_fieldAddr, nd_field, nd_indexAddr, nd_index, nd_lookup, nd_mapUpdate, nd_typeAssert, nd_extract, nd_call, nd_panic,
    ok_tmp, ok_const, ok_func, cl_int, cl_bool, cl_string, cl_ptr, cl_map, cl_nilFunc, cl_nilIface, cl_slice, opA_move, opA_assign, opA_pick, opA_load, opA_store, opA_nilCheck, opA_fieldAddr, opA_extract, opA_bin, opA_un, opA_call, opA_call0, opA_build0, opA_len, opA_appendS, opA_makeMap, opA_indexAddr, opA_sliceHi, opA_sliceLo, opA_sliceLH, opA_lookup, opA_mapUpdate, opA_build, opA_box, opA_alloc, opA_makeFunc0, opA_makeFunc00,
    contA_val, contA_skip, contA_enter, contA_panic, contA_ite, callA_ret, callA_panic, callA_ite, putT_some, putT_none, aev_tmp, aev_const, aev_func, rd_same, rd_ne, List.length_set, valA_some, skipA_some, pairA_some,
    thenA_normal, thenA_ret, thenA_exit, thenA_panic, thenA_ite, inBlockA_normal, inBlockA_ret, inBlockA_exit, inBlockA_panic, inBlockA_ite, boolOf_bool, loadS_ptr, storeS_ptr, nilCheckS_ptr, nilCheckS_func, fieldAddrS_eq, extractS_tuple, un_not,
    bin_lss, bin_leq, bin_gtr, bin_geq, bin_eql, bin_neq, bin_add, bin_sub, bin_mul, bin_seql, bin_sneq, bin_ptr_eql, bin_ptr_neq, bin_nil_eql, bin_nil_neq, callS_plain, callS_func, lenS_slice, leaveR_ite, leaveR_ret, leaveR_normal, leaveR_panic, resA_tmp, resA_nil, yieldA_S, slotAt_succ, slotAt_zero, yieldS_some, List.getElem?_toArray, List.getElem?_cons_zero, List.getElem?_cons_succ, resA_cell, cellRes_ptr, Option.bind_some, theCode_rangeS, rangeS_cap, callS_cap, roundA_M, roundM_ready, roundB_N, roundB_R, roundB_E, roundN_none, roundN_some, rangeEnd_M, rangeM_ready, rangeM_ret, setAll_nil, setAll_cons, pack_one, pack_two, pack_none,
    Option.map_some, Option.isSome_some, ne_eq, not_false_eq_true, Nat.reduceEqDiff, Nat.reduceLT, if_true, if_false, Nat.reduceAdd, Nat.add_zero, Nat.zero_add, Option.some.injEq, decide_eq_true_eq, List.map_cons, List.map_nil, List.all_cons, List.all_nil, Bool.and_true, List.nil_append, List.append_nil, List.cons_append,
      hl, i0, i1, info62, vc_agg, fl_string, fl_bool, fl_int, e0]
    rw [theCode_text (by kernel_rfl)]
    simp (config := { decide := true }) only [theCode_seq, theCode_list, theCode_skip, theCode_ret, theCode_exit, theCode_label, theCode_block, theCode_if, evalList_plain, evalList_guard, evalList_nil, nd_move, nd_assign, nd_pick, nd_alloc, nd_box, nd_build, nd_buildSlice, nd_load, nd_store, nd_nilCheck, nd_binOp, nd_unOp, nd_convert, nd_makeInterface, nd_makeFunc, nd_makeMap, nd_slice, nd_fieldAddr, nd_field, nd_indexAddr, nd_index, nd_lookup, nd_mapUpdate, nd_typeAssert, nd_extract, nd_call, nd_panic,
    ok_tmp, ok_const, ok_func, cl_int, cl_bool, cl_string, cl_ptr, cl_map, cl_nilFunc, cl_nilIface, cl_slice, opA_move, opA_assign, opA_pick, opA_load, opA_store, opA_nilCheck, opA_fieldAddr, opA_extract, opA_bin, opA_un, opA_call, opA_call0, opA_build0, opA_len, opA_appendS, opA_makeMap, opA_indexAddr, opA_sliceHi, opA_sliceLo, opA_sliceLH, opA_lookup, opA_mapUpdate, opA_build, opA_box, opA_alloc, opA_makeFunc0, opA_makeFunc00,
    contA_val, contA_skip, contA_enter, contA_panic, contA_ite, callA_ret, callA_panic, callA_ite, putT_some, putT_none, aev_tmp, aev_const, aev_func, rd_same, rd_ne, List.length_set, valA_some, skipA_some, pairA_some,
    thenA_normal, thenA_ret, thenA_exit, thenA_panic, thenA_ite, inBlockA_normal, inBlockA_ret, inBlockA_exit, inBlockA_panic, inBlockA_ite, boolOf_bool, loadS_ptr, storeS_ptr, nilCheckS_ptr, nilCheckS_func, fieldAddrS_eq, extractS_tuple, un_not,
    bin_lss, bin_leq, bin_gtr, bin_geq, bin_eql, bin_neq, bin_add, bin_sub, bin_mul, bin_seql, bin_sneq, bin_ptr_eql, bin_ptr_neq, bin_nil_eql, bin_nil_neq, callS_plain, callS_func, lenS_slice, leaveR_ite, leaveR_ret, leaveR_normal, leaveR_panic, resA_tmp, resA_nil, yieldA_S, slotAt_succ, slotAt_zero, yieldS_some, List.getElem?_toArray, List.getElem?_cons_zero, List.getElem?_cons_succ, resA_cell, cellRes_ptr, Option.bind_some, theCode_rangeS, rangeS_cap, callS_cap, roundA_M, roundM_ready, roundB_N, roundB_R, roundB_E, roundN_none, roundN_some, rangeEnd_M, rangeM_ready, rangeM_ret, setAll_nil, setAll_cons, pack_one, pack_two, pack_none,
    Option.map_some, Option.isSome_some, ne_eq, not_false_eq_true, Nat.reduceEqDiff, Nat.reduceLT, if_true, if_false, Nat.reduceAdd, Nat.add_zero, Nat.zero_add, Option.some.injEq, decide_eq_true_eq, List.map_cons, List.map_nil, List.all_cons, List.all_nil, Bool.and_true, List.nil_append, List.append_nil, List.cons_append, dropP_normal,
      hl, i0, i1, off53_0, agg51, loadV_flat, ld0, cell_eq, h0.box, hb2, cellO_box, info51, cells51, storeV_flat, setCell_eq, setCellO_box, c1, c2, c3, get_set_same, List.set_cons_zero, List.set_cons_succ, Option.getD_none, opA_build1F, b1_51, es51, vc_agg, fl_string, fl_bool, fl_int, appendS_of sli51, build1S_of sli51, h1, sli51, List.size_toArray, List.length_cons, List.length_nil]
    push_cast
    rfl
  · refine h0.repT g0.fresh hfr get_set_same ?_
    have := h2.mono (H2 := Ha.set b (.box [bl, tl', ts, .int .i64 σ.next] 55)) fun i hi => get_set_ne (by rintro rfl; exact hnb' hi)
    simpa [List.flatMap_append, trnC] using this

def entV2 (σ : Sc) (nm : ByteArray) : Value := if σ.twice nm then .tuple #[.int .i64 0, .int .i64 70] else .tuple #[.int .i64 σ.next, .int .i64 0]

theorem enter14 {ext : CallT} (hx : ∀ f args H, f ≠ 22 → ext f args H = none) {H : AHeap} (hf : H.Fresh) {b : Nat} {σ : Sc} {F : Nat → Prop} (h : ScopeAt H b σ F) (hn : σ.turns.length < 1000000) (hn2 : σ.next < 1000000) (nm : ByteArray) (tn : Bool) :
    ∃ H' F', theCall Try.prog ext 14 [.pointer (some ⟨b, 0, none⟩), .string nm, .bool tn] H = some (.ret (entV2 σ nm), H') ∧ ScopeAt H' b (σ.enter nm tn) F' ∧ Upd H F H' F' := by
  obtain ⟨bl, tl, ts, rs, h, rfl⟩ := h
  obtain ⟨H1, e1⟩ : ∃ X, H.push (.box [.string nm] 9) = X := ⟨_, rfl⟩
  have g1 : Grown H H1 := by rw [← e1]; exact Grown.push hf _
  have x1 : H1.get H.next = some (.box [.string nm] 9) := by rw [← e1]; exact get_push_new
  have n1 : H1.next = H.next + 1 := by rw [← e1]; rfl
  have h1 := h.grown hf g1
  have hval : ∀ H3, Grown H1 H3 → ∀ i, i < σ.turns.length → H3.loadV Try.prog 62 (addA (baseOf tl) (i * 3)) = some ((fun i => trnV (σ.turns.getD i noTrn)) i) := fun H3 g i hi => (h1.grown g1.fresh g).valT hi
  obtain ⟨Hf, hcall, gf⟩ := find28 (ext := ext) hx g1.fresh h1.box h1.ot hn (val := fun i => trnV (σ.turns.getD i noTrn)) hval (fun i _ => ⟨by simp [trnV, vc_agg, trnC], by simp [trnV, vc_agg, trnC, fl_string, fl_bool, fl_int], by simp [trnV, vc_agg]⟩)
    (cf := 32) (caps := [.pointer (some ⟨H.next, 0, none⟩)]) en32 (fun i => tTwice (σ.turns.getD i noTrn) nm) (fun i H3 hi g =>
      ⟨_, is32 hx g.fresh (g.has g1.fresh x1), Grown.push g.fresh _⟩)
  -- the copy of the turn
  obtain ⟨v, hvs, hcall⟩ : ∃ v : Value, (v.cells.size = 3 ∧ v.cells.toList.all flatV = true) ∧ theCall Try.prog ext 28 [.pointer (some ⟨b, 1, none⟩), .func (.func 32) #[] #[.pointer (some ⟨H.next, 0, none⟩)]] H1 = some (.ret (.tuple #[v, .bool (σ.twice nm)]), Hf) := by
    unfold Sc.twice
    cases hq : lastI (fun i => tTwice (σ.turns.getD i noTrn) nm) σ.turns.length with
    | none =>
      rw [hq] at hcall
      exact ⟨_, ⟨by simp [vc_agg], by simp [vc_agg, fl_string, fl_bool, fl_int]⟩, hcall⟩
    | some i =>
      rw [hq] at hcall
      exact ⟨_, ⟨by simp [trnV, vc_agg, trnC], by simp [trnV, vc_agg, trnC, fl_string, fl_bool, fl_int]⟩, hcall⟩
  obtain ⟨Hg, eg⟩ : ∃ X, (Hf.push (.box [.string ⟨#[]⟩, .bool false, .int .i64 0] 62)).set Hf.next (.box v.cells.toList 62) = X := ⟨_, rfl⟩
  have hst : (Hf.push (.box [.string ⟨#[]⟩, .bool false, .int .i64 0] 62)).storeV Try.prog 62 ⟨Hf.next, 0, none⟩ v = some Hg := by
    rw [storeV_box info62 get_push_new (by rw [cells62]; rfl) (by rw [hvs.1]; rfl) hvs.2, eg]
  have gg : Grown H1 Hg := by rw [← eg]; exact Grown.set2 (gf.push2 _) _ get_push_new gf.next
  have hg := h1.grown g1.fresh gg
  have xg := gg.has g1.fresh x1
  have g0g : Grown H Hg := g1.trans gg
  cases ht : σ.twice nm with
  | true =>
    rw [ht] at hcall
    have hE : σ.enter nm tn = σ := by unfold Sc.enter; rw [ht]; rfl
    have hV : entV2 σ nm = .tuple #[.int .i64 0, .int .i64 70] := by unfold entV2; rw [ht]; rfl
    rw [hE, hV]
    refine ⟨Hg, _, ?_, ⟨_, _, _, _, hg, rfl⟩, g0g.upd _⟩
    refine theCall_run (hx _ _ _ (by decide)) Try.func14 (rs := [.tmp 6, .tmp 7]) rfl rfl rfl (by simp) fun tm hl hi => ?_
    replace hl : tm.length = 42 := hl
    have i0 := hi 0
    have i1 := hi 1
    have i2 := hi 2
    simp only [List.getD_cons_zero, List.getD_cons_succ] at i0 i1 i2
    simp (config := { decide := true }) only [theCode_seq, theCode_list, theCode_skip, theCode_ret, theCode_exit, theCode_label, theCode_block, theCode_if, evalList_plain, evalList_guard, evalList_nil, nd_move, nd_assign, nd_pick, nd_alloc, nd_box, nd_build, nd_buildSlice, nd_load, nd_store, nd_nilCheck, nd_binOp, nd_unOp, nd_convert, nd_makeInterface, nd_makeFunc, nd_makeMap, nd_slice, nd_fieldAddr, nd_field, nd_indexAddr, nd_index, nd_lookup, nd_mapUpdate, nd_typeAssert, nd_extract, nd_call, nd_panic,
    ok_tmp, ok_const, ok_func, cl_int, cl_bool, cl_string, cl_ptr, cl_map, cl_nilFunc, cl_nilIface, cl_slice, opA_move, opA_assign, opA_pick, opA_load, opA_store, opA_nilCheck, opA_fieldAddr, opA_extract, opA_bin, opA_un, opA_call, opA_call0, opA_build0, opA_len, opA_appendS, opA_makeMap, opA_indexAddr, opA_sliceHi, opA_sliceLo, opA_sliceLH, opA_lookup, opA_mapUpdate, opA_build, opA_box, opA_alloc, opA_makeFunc0, opA_makeFunc00,
    contA_val, contA_skip, contA_enter, contA_panic, contA_ite, callA_ret, callA_panic, callA_ite, putT_some, putT_none, aev_tmp, aev_const, aev_func, rd_same, rd_ne, List.length_set, valA_some, skipA_some, pairA_some,
    thenA_normal, thenA_ret, thenA_exit, thenA_panic, thenA_ite, inBlockA_normal, inBlockA_ret, inBlockA_exit, inBlockA_panic, inBlockA_ite, boolOf_bool, loadS_ptr, storeS_ptr, nilCheckS_ptr, nilCheckS_func, fieldAddrS_eq, extractS_tuple, un_not,
    bin_lss, bin_leq, bin_gtr, bin_geq, bin_eql, bin_neq, bin_add, bin_sub, bin_mul, bin_seql, bin_sneq, bin_ptr_eql, bin_ptr_neq, bin_nil_eql, bin_nil_neq, callS_plain, callS_func, lenS_slice, leaveR_ite, leaveR_ret, leaveR_normal, leaveR_panic, resA_tmp, resA_nil, yieldA_S, slotAt_succ, slotAt_zero, yieldS_some, List.getElem?_toArray, List.getElem?_cons_zero, List.getElem?_cons_succ, resA_cell, cellRes_ptr, Option.bind_some, theCode_rangeS, rangeS_cap, callS_cap, roundA_M, roundM_ready, roundB_N, roundB_R, roundB_E, roundN_none, roundN_some, rangeEnd_M, rangeM_ready, rangeM_ret, setAll_nil, setAll_cons, pack_one, pack_two, pack_none,
    Option.map_some, Option.isSome_some, ne_eq, not_false_eq_true, Nat.reduceEqDiff, Nat.reduceLT, if_true, if_false, Nat.reduceAdd, Nat.add_zero, Nat.zero_add, Option.some.injEq, decide_eq_true_eq, List.map_cons, List.map_nil, List.all_cons, List.all_nil, Bool.and_true, List.nil_append, List.append_nil, List.cons_append,
        hl, i0, i1, i2, vc_string, fl_string, info9, e1, n1, isp23, off55_1, en28, hcall, zf62, vc_agg, hst]
  | false =>
    rw [ht] at hcall
    have hE : σ.enter nm tn = { σ with turns := σ.turns ++ [⟨nm, tn, σ.next⟩], next := σ.next + 1 } := by unfold Sc.enter; rw [ht]; rfl
    have hV : entV2 σ nm = .tuple #[.int .i64 σ.next, .int .i64 0] := by unfold entV2; rw [ht]; rfl
    rw [hE, hV]
    obtain ⟨tl', Hp, p1, p2, p3, p4, p5, p6⟩ := push33 (ext := ext) hx gg.fresh hg hn nm tn σ.next
    have hb62 : buildS Try.prog Hg 62 [(0, .string nm), (1, .bool tn), (2, .int .i64 σ.next)] = some (.val (.agg #[.string nm, .bool tn, .int .i64 σ.next]) Hg) := by
      unfold buildS
      rw [zf62]
      have : Program.built Try.prog 62 [(0, .string nm), (1, .bool tn), (2, .int .i64 σ.next)] = some #[.string nm, .bool tn, .int .i64 σ.next] := by
        kernel_rfl
      rw [this]
    have hw : IntKind.i64.wrap ((σ.next : Int) + 1) = ((σ.next + 1 : Nat) : Int) := by rw [IntWalk.i64_in _ (by omega)]; omega
    have hbH : b < Hg.next := get_lt gg.fresh hg.box
    have hS : SAt (Hp.set b (.box [bl, tl', ts, .int .i64 (σ.next + 1 : Nat)] 55)) b { σ with turns := σ.turns ++ [⟨nm, tn, σ.next⟩], next := σ.next + 1 } bl tl' ts rs :=
      p2.repT p5 (fun j _ hjb _ => get_set_ne hjb) get_set_same (p2.ot.mono fun i hi => get_set_ne (by rintro rfl; exact p2.ot.id_ne p2.box hi))
    refine ⟨Hp.set b (.box [bl, tl', ts, .int .i64 (σ.next + 1 : Nat)] 55), _, ?_, ⟨_, _, _, _, hS, rfl⟩, fun j hj hlt => ?_, fun j hj => ?_, (AHeap.le_set p2.box).fresh p5, Nat.le_trans g0g.next p4⟩
    · refine theCall_run (hx _ _ _ (by decide)) Try.func14 (rs := [.tmp 6, .tmp 7]) rfl rfl rfl (by simp) fun tm hl hi => ?_
      replace hl : tm.length = 42 := hl
      have i0 := hi 0
      have i1 := hi 1
      have i2 := hi 2
      simp only [List.getD_cons_zero, List.getD_cons_succ] at i0 i1 i2
      simp (config := { decide := true }) only [theCode_seq, theCode_list, theCode_skip, theCode_ret, theCode_exit, theCode_label, theCode_block, theCode_if, evalList_plain, evalList_guard, evalList_nil, nd_move, nd_assign, nd_pick, nd_alloc, nd_box, nd_build, nd_buildSlice, nd_load, nd_store, nd_nilCheck, nd_binOp, nd_unOp, nd_convert, nd_makeInterface, nd_makeFunc, nd_makeMap, nd_slice, nd_fieldAddr, nd_field, nd_indexAddr, nd_index, nd_lookup, nd_mapUpdate, nd_typeAssert, nd_extract, nd_call, nd_panic,
    ok_tmp, ok_const, ok_func, cl_int, cl_bool, cl_string, cl_ptr, cl_map, cl_nilFunc, cl_nilIface, cl_slice, opA_move, opA_assign, opA_pick, opA_load, opA_store, opA_nilCheck, opA_fieldAddr, opA_extract, opA_bin, opA_un, opA_call, opA_call0, opA_build0, opA_len, opA_appendS, opA_makeMap, opA_indexAddr, opA_sliceHi, opA_sliceLo, opA_sliceLH, opA_lookup, opA_mapUpdate, opA_build, opA_box, opA_alloc, opA_makeFunc0, opA_makeFunc00,
    contA_val, contA_skip, contA_enter, contA_panic, contA_ite, callA_ret, callA_panic, callA_ite, putT_some, putT_none, aev_tmp, aev_const, aev_func, rd_same, rd_ne, List.length_set, valA_some, skipA_some, pairA_some,
    thenA_normal, thenA_ret, thenA_exit, thenA_panic, thenA_ite, inBlockA_normal, inBlockA_ret, inBlockA_exit, inBlockA_panic, inBlockA_ite, boolOf_bool, loadS_ptr, storeS_ptr, nilCheckS_ptr, nilCheckS_func, fieldAddrS_eq, extractS_tuple, un_not,
    bin_lss, bin_leq, bin_gtr, bin_geq, bin_eql, bin_neq, bin_add, bin_sub, bin_mul, bin_seql, bin_sneq, bin_ptr_eql, bin_ptr_neq, bin_nil_eql, bin_nil_neq, callS_plain, callS_func, lenS_slice, leaveR_ite, leaveR_ret, leaveR_normal, leaveR_panic, resA_tmp, resA_nil, yieldA_S, slotAt_succ, slotAt_zero, yieldS_some, List.getElem?_toArray, List.getElem?_cons_zero, List.getElem?_cons_succ, resA_cell, cellRes_ptr, Option.bind_some, theCode_rangeS, rangeS_cap, callS_cap, roundA_M, roundM_ready, roundB_N, roundB_R, roundB_E, roundN_none, roundN_some, rangeEnd_M, rangeM_ready, rangeM_ret, setAll_nil, setAll_cons, pack_one, pack_two, pack_none,
    Option.map_some, Option.isSome_some, ne_eq, not_false_eq_true, Nat.reduceEqDiff, Nat.reduceLT, if_true, if_false, Nat.reduceAdd, Nat.add_zero, Nat.zero_add, Option.some.injEq, decide_eq_true_eq, List.map_cons, List.map_nil, List.all_cons, List.all_nil, Bool.and_true, List.nil_append, List.append_nil, List.cons_append,
        hl, i0, i1, i2, vc_string, fl_string, info9, e1, n1, isp23, off55_1, off55_3, en28, hcall, zf62, vc_agg, hst, agg3, loadV_flat, cell_eq, hg.box, cellO_box, Bool.false_eq_true]
      rw [theCode_text (by kernel_rfl)]
      simp (config := { decide := true }) only [theCode_seq, theCode_list, theCode_skip, theCode_ret, theCode_exit, theCode_label, theCode_block, theCode_if, evalList_plain, evalList_guard, evalList_nil, nd_move, nd_assign, nd_pick, nd_alloc, nd_box, nd_build, nd_buildSlice, nd_load, nd_store, nd_nilCheck, nd_binOp, nd_unOp, nd_convert, nd_makeInterface, nd_makeFunc, nd_makeMap, nd_slice, nd_fieldAddr, nd_field, nd_indexAddr, nd_index, nd_lookup, nd_mapUpdate, nd_typeAssert, nd_extract, nd_call, nd_panic,
    ok_tmp, ok_const, ok_func, cl_int, cl_bool, cl_string, cl_ptr, cl_map, cl_nilFunc, cl_nilIface, cl_slice, opA_move, opA_assign, opA_pick, opA_load, opA_store, opA_nilCheck, opA_fieldAddr, opA_extract, opA_bin, opA_un, opA_call, opA_call0, opA_build0, opA_len, opA_appendS, opA_makeMap, opA_indexAddr, opA_sliceHi, opA_sliceLo, opA_sliceLH, opA_lookup, opA_mapUpdate, opA_build, opA_box, opA_alloc, opA_makeFunc0, opA_makeFunc00,
    contA_val, contA_skip, contA_enter, contA_panic, contA_ite, callA_ret, callA_panic, callA_ite, putT_some, putT_none, aev_tmp, aev_const, aev_func, rd_same, rd_ne, List.length_set, valA_some, skipA_some, pairA_some,
    thenA_normal, thenA_ret, thenA_exit, thenA_panic, thenA_ite, inBlockA_normal, inBlockA_ret, inBlockA_exit, inBlockA_panic, inBlockA_ite, boolOf_bool, loadS_ptr, storeS_ptr, nilCheckS_ptr, nilCheckS_func, fieldAddrS_eq, extractS_tuple, un_not,
    bin_lss, bin_leq, bin_gtr, bin_geq, bin_eql, bin_neq, bin_add, bin_sub, bin_mul, bin_seql, bin_sneq, bin_ptr_eql, bin_ptr_neq, bin_nil_eql, bin_nil_neq, callS_plain, callS_func, lenS_slice, leaveR_ite, leaveR_ret, leaveR_normal, leaveR_panic, resA_tmp, resA_nil, yieldA_S, slotAt_succ, slotAt_zero, yieldS_some, List.getElem?_toArray, List.getElem?_cons_zero, List.getElem?_cons_succ, resA_cell, cellRes_ptr, Option.bind_some, theCode_rangeS, rangeS_cap, callS_cap, roundA_M, roundM_ready, roundB_N, roundB_R, roundB_E, roundN_none, roundN_some, rangeEnd_M, rangeM_ready, rangeM_ret, setAll_nil, setAll_cons, pack_one, pack_two, pack_none,
    Option.map_some, Option.isSome_some, ne_eq, not_false_eq_true, Nat.reduceEqDiff, Nat.reduceLT, if_true, if_false, Nat.reduceAdd, Nat.add_zero, Nat.zero_add, Option.some.injEq, decide_eq_true_eq, List.map_cons, List.map_nil, List.all_cons, List.all_nil, Bool.and_true, List.nil_append, List.append_nil, List.cons_append, dropP_normal,
        hl, i0, i1, i2, off55_1, off55_3, agg9, agg3, loadV_flat, cell_eq, xg, hg.box, p2.box, cellO_box, zf62, Option.isSome_some, hb62, en33, p1, hw, info3, cells3, storeV_flat, setCell_eq, setCellO_box, vc_int, fl_int, Option.getD_none, List.set_cons_zero, List.set_cons_succ, List.length_cons, List.length_nil]
    · rw [get_set_ne (fun e => hj (.inl e)), p3 j (Nat.lt_of_lt_of_le hlt g0g.next) (fun e => hj (.inl e)) (fun e => hj (.inr (.inr (.inl e))))]
      exact g0g.get j hlt
    · rcases hj with rfl | hj | hj | hj | hj
      · exact .inl (.inl rfl)
      · exact .inl (.inr (.inl hj))
      · exact (p6 j hj).elim (fun e => .inl (.inr (.inr (.inl e)))) (fun e => .inr (Nat.le_trans g0g.next e))
      · exact .inl (.inr (.inr (.inr (.inl hj))))
      · exact .inl (.inr (.inr (.inr (.inr hj))))

end Go.Proofs.Ytnjoaffnfjlcaaa
