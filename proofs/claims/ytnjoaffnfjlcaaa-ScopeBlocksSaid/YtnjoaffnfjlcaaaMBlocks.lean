/-
  Joined by program out of Ops12, RowBlocks.
-/
import Derived.Test.YtnjoaffnfjlcaaaM6
import Derived.Test.YtnjoaffnfjlcaaaM3
namespace Go.Proofs.Ytnjoaffnfjlcaaa
open Go Go.Proofs B
set_option linter.unusedSimpArgs false

theorem fieldAddrS_add {P : Program} {H : AHeap} {s : TypeId} {f : Nat} {a : Addr} : fieldAddrS P H s f (.pointer (some a)) = (fieldOff P s f).map fun off => .val (.pointer (some (addA a off))) H := by
  obtain ⟨b, o, sp⟩ := a
  exact fieldAddrS_eq
theorem findV_shape (σ : Sc) (nm : ByteArray) : ∃ (a t : Int) (c : Bool), findV σ nm = .tuple #[.int .i64 a, .int .i64 t, .bool c] := by
  unfold findV
  cases σ.find nm with
  | none => exact ⟨_, _, _, rfl⟩
  | some k => exact ⟨_, _, _, rfl⟩
theorem targV_shape (σ : Sc) (nm : ByteArray) (tn : Bool) : ∃ (a e : Int), targV σ nm tn = .tuple #[.int .i64 a, .int .i64 e] := by
  unfold targV
  cases σ.target nm tn with
  | none => exact ⟨_, _, rfl⟩
  | some k => exact ⟨_, _, rfl⟩


set_option maxHeartbeats 8000000 in
set_option maxRecDepth 100000 in
theorem blk_l1 {ext : CallT} (hx : ∀ f args H, f ≠ 22 → ext f args H = none) {H0 H5 : AHeap} {F2 : Nat → Prop} {vw v1 : Value} {la lw : List Stp} {σ0 : Sc} {fa ft ta te : Int} {fc tn : Bool} {nm : ByteArray} (hw0 : σ0.wf la.length)
    (hb1 : ¬ (100 : Int) < la.length) (hb2 : ¬ (100 : Int) < lw.length) (hf5 : H5.Fresh) (hsw5 : Scr H5 vw lw) (hblk : 0 < lw.length → ¬ F2 (baseOf vw).block) {c : Code} (hc : (loopsF Try.f3)[0]? = some c) :
    ∀ k s, (fun (k : Nat) (s : St) => ∃ tm H pre post σ, ∃ nb nt : Nat, s = ⟨tm, [], H⟩ ∧ lw = pre ++ post ∧ post.length = k ∧ tm.length = 186 ∧ tm.getD 1 undef = vw ∧ tm.getD 2 undef = .string nm ∧ tm.getD 3 undef = .bool tn ∧ tm.getD 9 undef = .pointer (some ⟨H0.next, 0, none⟩) ∧ tm.getD 10 undef = .int .i64 fa ∧ tm.getD 11 undef = .int .i64 ft ∧ tm.getD 12 undef = .bool fc ∧ tm.getD 13 undef = .int .i64 ta ∧ tm.getD 14 undef = .int .i64 te ∧ tm.getD 15 undef = v1 ∧ tm.getD 18 undef = .int .i64 ((nb : Int) + 1) ∧ tm.getD 19 undef = .int .i64 ((nt : Int) + 1) ∧ tm.getD 20 undef = .int .i64 pre.length ∧ Within σ0 σ (nb + 1) (nt + 1) ∧ USt H5 F2 H H0.next σ ∧ σ.wf (la.length + 2 + pre.length)) k s → ∃ x s', theCode Try.prog ext false (.loop c) s = some (x, s') ∧ x ≠ .normal ∧ (fun (x : AExit) (s : St) => ∃ tm H σ, ∃ nb nt : Nat, s = ⟨tm, [], H⟩ ∧ x = .exit 0 ∧ tm.length = 186 ∧ tm.getD 1 undef = vw ∧ tm.getD 2 undef = .string nm ∧ tm.getD 3 undef = .bool tn ∧ tm.getD 9 undef = .pointer (some ⟨H0.next, 0, none⟩) ∧ tm.getD 10 undef = .int .i64 fa ∧ tm.getD 11 undef = .int .i64 ft ∧ tm.getD 12 undef = .bool fc ∧ tm.getD 13 undef = .int .i64 ta ∧ tm.getD 14 undef = .int .i64 te ∧ tm.getD 15 undef = v1 ∧ tm.getD 18 undef = .int .i64 ((nb : Int) + 1) ∧ tm.getD 19 undef = .int .i64 ((nt : Int) + 1) ∧ Within σ0 σ (nb + 1) (nt + 1) ∧ USt H5 F2 H H0.next σ ∧ σ.wf (la.length + 2 + lw.length)) x s' := by
  have h0 : (loopsF Try.f3)[0]? = some _ := rfl
  rw [h0] at hc
  obtain rfl := Option.some.inj hc
  refine theCode_loop_inv _ _ ?_
  rintro k _ ⟨tm, H, pre, post, σ, nb, nt, rfl, hpp, hk, hl, i1, i2, i3, i9, i10, i11, i12, i13, i14, i15, i18, i19, i20, hW, hust, hwf⟩
  have hsH := hsw5.upd hf5 hblk hust
  have hlnw := hsH.len
  cases post with
  | nil =>
    right
    rw [List.append_nil] at hpp
    subst hpp
    have hlt : ¬ ((lw.length : Int) < lw.length) := by omega
    refine ⟨?x0, ?s0, ?h0, ?hx0, ?hq0⟩
    case h0 =>
      simp (config := { decide := true }) only [theCode_seq, theCode_list, theCode_skip, theCode_ret, theCode_exit, theCode_label, theCode_block, theCode_if, evalList_plain, evalList_guard, evalList_nil, nd_move, nd_assign, nd_pick, nd_alloc, nd_box, nd_build, nd_buildSlice, nd_load, nd_store, nd_nilCheck, nd_binOp, nd_unOp, nd_convert, nd_makeInterface, nd_makeFunc, nd_makeMap, nd_slice, nd_fieldAddr, nd_field, nd_indexAddr, nd_index, nd_lookup, nd_mapUpdate, nd_typeAssert, nd_extract, nd_call, nd_panic,
    ok_tmp, ok_const, ok_func, cl_int, cl_bool, cl_string, cl_ptr, cl_map, cl_nilFunc, cl_nilIface, cl_slice, opA_move, opA_assign, opA_pick, opA_load, opA_store, opA_nilCheck, opA_fieldAddr, opA_extract, opA_bin, opA_un, opA_call, opA_call0, opA_build0, opA_len, opA_appendS, opA_makeMap, opA_indexAddr, opA_sliceHi, opA_sliceLo, opA_sliceLH, opA_lookup, opA_mapUpdate, opA_build, opA_box, opA_alloc, opA_makeFunc0, opA_makeFunc00,
    contA_val, contA_skip, contA_enter, contA_panic, contA_ite, callA_ret, callA_panic, callA_ite, putT_some, putT_none, aev_tmp, aev_const, aev_func, rd_same, rd_ne, List.length_set, valA_some, skipA_some, pairA_some,
    thenA_normal, thenA_ret, thenA_exit, thenA_panic, thenA_ite, inBlockA_normal, inBlockA_ret, inBlockA_exit, inBlockA_panic, inBlockA_ite, boolOf_bool, loadS_ptr, storeS_ptr, nilCheckS_ptr, nilCheckS_func, fieldAddrS_eq, extractS_tuple, un_not,
    bin_lss, bin_leq, bin_gtr, bin_geq, bin_eql, bin_neq, bin_add, bin_sub, bin_mul, bin_seql, bin_sneq, bin_ptr_eql, bin_ptr_neq, bin_nil_eql, bin_nil_neq, callS_plain, callS_func, lenS_slice, leaveR_ite, leaveR_ret, leaveR_normal, leaveR_panic, resA_tmp, resA_nil, yieldA_S, slotAt_succ, slotAt_zero, yieldS_some, List.getElem?_toArray, List.getElem?_cons_zero, List.getElem?_cons_succ, resA_cell, cellRes_ptr, Option.bind_some, theCode_rangeS, rangeS_cap, callS_cap, roundA_M, roundM_ready, roundB_N, roundB_R, roundB_E, roundN_none, roundN_some, rangeEnd_M, rangeM_ready, rangeM_ret, setAll_nil, setAll_cons, pack_one, pack_two, pack_none,
    Option.map_some, Option.isSome_some, ne_eq, not_false_eq_true, ↓reduceIte, Nat.reduceEqDiff, Nat.reduceLT, if_true, if_false, Nat.reduceAdd, Nat.add_zero, Nat.zero_add, Option.some.injEq, decide_eq_true_eq, List.map_cons, List.map_nil, List.all_cons, List.all_nil, Bool.and_true, List.nil_append, List.append_nil, List.cons_append, hl, i1, i2, i3, i9, i10, i11, i12, i13, i14, i15, i18, i19, i20, hlnw, hlt, Bool.false_eq_true]
      rfl
    case hx0 => exact fun h => by cases h
    case hq0 =>
      refine ⟨_, _, σ, nb, nt, rfl, rfl, ?_, ?_, ?_, ?_, ?_, ?_, ?_, ?_, ?_, ?_, ?_, ?_, ?_, hW, hust, hwf⟩
      · simp only [List.length_set, hl]
      all_goals simp (config := { decide := true }) only [rd_ne, rd_same, List.length_set, hl, ne_eq, not_false_eq_true, i1, i2, i3, i9, i10, i11, i12, i13, i14, i15, i18, i19, i20]
  | cons s post =>
    left
    have hil : pre.length < lw.length := by rw [hpp]; simp
    have hlt : (pre.length : Int) < lw.length := by omega
    have hget : lw.getD pre.length ⟨0, ⟨#[]⟩, 0, false⟩ = s := by rw [hpp, List.getD_eq_getElem?_getD, List.getElem?_append_right (Nat.le_refl _)]; simp
    have hixs := hsH.index hil
    have hcl := hsH.cells _ hil
    rw [hget] at hcl
    have hkc : H.cell (addA (addA (baseOf vw) (pre.length * 4)) 0) = some (.int .i64 s.kind) := by
      rw [readN_get hcl (j := 0) (by decide)]; rfl
    have hpk : theCall Try.prog ext 16 [.int .i64 s.kind, .int .i64 6] H = some (.ret (.int .i64 (s.kind % 6)), H) := pick16 hx (by decide) (by decide)
    have w8 : IntKind.i64.wrap ((pre.length : Int) + 1) = ((pre ++ [s]).length : Nat) := by rw [IntWalk.i64_in _ (by omega)]; simp
    have hblkF : ∀ F, Upd H5 F2 H F → ¬ F (baseOf vw).block := fun F hU e => by
      rcases hU.foot _ e with e2 | e2
      · exact hblk (by omega) e2
      · have := hsw5.blk_lt hf5 (by omega); omega
    by_cases k1 : s.kind % 6 = 1
    · by_cases hb : nb = 0
      · subst hb
        refine ⟨?s1, ?h1, post.length, by rw [← hk]; simp, ?q1⟩
        case h1 =>
          simp (config := { decide := true }) only [fieldAddrS_add, theCode_seq, theCode_list, theCode_skip, theCode_ret, theCode_exit, theCode_label, theCode_block, theCode_if, evalList_plain, evalList_guard, evalList_nil, nd_move, nd_assign, nd_pick, nd_alloc, nd_box, nd_build, nd_buildSlice, nd_load, nd_store, nd_nilCheck, nd_binOp, nd_unOp, nd_convert, nd_makeInterface, nd_makeFunc, nd_makeMap, nd_slice, nd_fieldAddr, nd_field, nd_indexAddr, nd_index, nd_lookup, nd_mapUpdate, nd_typeAssert, nd_extract, nd_call, nd_panic,
    ok_tmp, ok_const, ok_func, cl_int, cl_bool, cl_string, cl_ptr, cl_map, cl_nilFunc, cl_nilIface, cl_slice, opA_move, opA_assign, opA_pick, opA_load, opA_store, opA_nilCheck, opA_fieldAddr, opA_extract, opA_bin, opA_un, opA_call, opA_call0, opA_build0, opA_len, opA_appendS, opA_makeMap, opA_indexAddr, opA_sliceHi, opA_sliceLo, opA_sliceLH, opA_lookup, opA_mapUpdate, opA_build, opA_box, opA_alloc, opA_makeFunc0, opA_makeFunc00,
    contA_val, contA_skip, contA_enter, contA_panic, contA_ite, callA_ret, callA_panic, callA_ite, putT_some, putT_none, aev_tmp, aev_const, aev_func, rd_same, rd_ne, List.length_set, valA_some, skipA_some, pairA_some,
    thenA_normal, thenA_ret, thenA_exit, thenA_panic, thenA_ite, inBlockA_normal, inBlockA_ret, inBlockA_exit, inBlockA_panic, inBlockA_ite, boolOf_bool, loadS_ptr, storeS_ptr, nilCheckS_ptr, nilCheckS_func, extractS_tuple, un_not,
    bin_lss, bin_leq, bin_gtr, bin_geq, bin_eql, bin_neq, bin_add, bin_sub, bin_mul, bin_seql, bin_sneq, bin_ptr_eql, bin_ptr_neq, bin_nil_eql, bin_nil_neq, callS_plain, callS_func, lenS_slice, leaveR_ite, leaveR_ret, leaveR_normal, leaveR_panic, resA_tmp, resA_nil, yieldA_S, slotAt_succ, slotAt_zero, yieldS_some, List.getElem?_toArray, List.getElem?_cons_zero, List.getElem?_cons_succ, resA_cell, cellRes_ptr, Option.bind_some, theCode_rangeS, rangeS_cap, callS_cap, roundA_M, roundM_ready, roundB_N, roundB_R, roundB_E, roundN_none, roundN_some, rangeEnd_M, rangeM_ready, rangeM_ret, setAll_nil, setAll_cons, pack_one, pack_two, pack_none,
    Option.map_some, Option.isSome_some, ne_eq, not_false_eq_true, ↓reduceIte, Nat.reduceEqDiff, Nat.reduceLT, if_true, if_false, Nat.reduceAdd, Nat.add_zero, Nat.zero_add, Option.some.injEq, decide_eq_true_eq, List.map_cons, List.map_nil, List.all_cons, List.all_nil, Bool.and_true, List.nil_append, List.append_nil, List.cons_append,
            hl, i1, i2, i3, i9, i10, i11, i12, i13, i14, i15, i18, i19, i20, hlnw, hlt, hixs, sli22, hkc, hpk, k1, Int.natCast_zero, Int.zero_add, en8, en9, en10, en11, en12, en13, en14, en15, en16, en17, en18, en19, isl32, isl22, isp23, off38_0, agg3, loadV_flat, eq_self, decide_true, Bool.not_true, Bool.not_false, Bool.false_eq_true, Bool.true_eq_false]
          rfl
        case q1 =>
          refine ⟨_, _, pre ++ [s], post, σ, 0, nt, rfl, by rw [hpp]; simp, rfl, ?_, ?_, ?_, ?_, ?_, ?_, ?_, ?_, ?_, ?_, ?_, ?_, ?_, ?_, hW, hust, by rw [List.length_append]; exact hwf.up (Nat.le_succ _)⟩
          · simp only [List.length_set, hl]
          all_goals simp (config := { decide := true }) only [rd_ne, rd_same, List.length_set, hl, ne_eq, not_false_eq_true, i1, i2, i3, i9, i10, i11, i12, i13, i14, i15, i18, i19, i20, w8]
      have hbI : ¬ ((nb : Int) + 1 = 1) := by omega
      obtain ⟨vs, hsl, hs1, hvb⟩ := hsH.one hil (t := 22) sli22 rfl H (hsH.eok (by omega))
      rw [hget] at hs1
      obtain ⟨F, hsA, hU⟩ := hust
      obtain ⟨H', a, F', sA', u'⟩ := run9 (ext := ext) hx hU.fresh (n := la.length + 2 + pre.length) hsA hwf hs1 (fun _ e => hblkF F hU (hvb ▸ e)) (by simp; omega)
      have hR : runL σ [s] = runS σ s := rfl
      rw [hR] at sA'
      obtain ⟨nb', nt', hW', e1, e2⟩ := hW.step hw0.pos s (by omega) (by omega)
      have hb1 : runLB σ [s] = runB σ s := by simp [runLB]
      have ht1 : runLT σ [s] = runT σ s := by simp [runLT]
      rw [hb1, ht1] at a
      have hbn := hW'.bn
      have htn' := hW'.tn
      have hwf' := wf_runS hwf s
      have hq1 := hwf'.bl
      have hq2 := hwf'.tl
      have wa : IntKind.i64.wrap ((nb : Int) + 1 + (1 + runB σ s)) = (nb' : Int) + 2 := by rw [IntWalk.i64_in _ (by omega)]; omega
      have wb : IntKind.i64.wrap ((nb' : Int) + 2 - 1) = (nb' : Int) + 1 := by rw [IntWalk.i64_in _ (by omega)]; omega
      have wc : IntKind.i64.wrap ((nt : Int) + 1 + runT σ s) = (nt' : Int) + 1 := by rw [IntWalk.i64_in _ (by omega)]; omega
      have w6 : IntKind.i64.wrap ((pre.length : Int) + 1) = (pre.length : Int) + 1 := IntWalk.i64_in _ (by omega)
      have w9 : (pre.length : Int) + 1 = ((pre ++ [s]).length : Nat) := by simp
      refine ⟨?s2, ?h2, post.length, by rw [← hk]; simp, ?q2⟩
      case h2 =>
        simp (config := { decide := true }) only [fieldAddrS_add, theCode_seq, theCode_list, theCode_skip, theCode_ret, theCode_exit, theCode_label, theCode_block, theCode_if, evalList_plain, evalList_guard, evalList_nil, nd_move, nd_assign, nd_pick, nd_alloc, nd_box, nd_build, nd_buildSlice, nd_load, nd_store, nd_nilCheck, nd_binOp, nd_unOp, nd_convert, nd_makeInterface, nd_makeFunc, nd_makeMap, nd_slice, nd_fieldAddr, nd_field, nd_indexAddr, nd_index, nd_lookup, nd_mapUpdate, nd_typeAssert, nd_extract, nd_call, nd_panic,
    ok_tmp, ok_const, ok_func, cl_int, cl_bool, cl_string, cl_ptr, cl_map, cl_nilFunc, cl_nilIface, cl_slice, opA_move, opA_assign, opA_pick, opA_load, opA_store, opA_nilCheck, opA_fieldAddr, opA_extract, opA_bin, opA_un, opA_call, opA_call0, opA_build0, opA_len, opA_appendS, opA_makeMap, opA_indexAddr, opA_sliceHi, opA_sliceLo, opA_sliceLH, opA_lookup, opA_mapUpdate, opA_build, opA_box, opA_alloc, opA_makeFunc0, opA_makeFunc00,
    contA_val, contA_skip, contA_enter, contA_panic, contA_ite, callA_ret, callA_panic, callA_ite, putT_some, putT_none, aev_tmp, aev_const, aev_func, rd_same, rd_ne, List.length_set, valA_some, skipA_some, pairA_some,
    thenA_normal, thenA_ret, thenA_exit, thenA_panic, thenA_ite, inBlockA_normal, inBlockA_ret, inBlockA_exit, inBlockA_panic, inBlockA_ite, boolOf_bool, loadS_ptr, storeS_ptr, nilCheckS_ptr, nilCheckS_func, extractS_tuple, un_not,
    bin_lss, bin_leq, bin_gtr, bin_geq, bin_eql, bin_neq, bin_add, bin_sub, bin_mul, bin_seql, bin_sneq, bin_ptr_eql, bin_ptr_neq, bin_nil_eql, bin_nil_neq, callS_plain, callS_func, lenS_slice, leaveR_ite, leaveR_ret, leaveR_normal, leaveR_panic, resA_tmp, resA_nil, yieldA_S, slotAt_succ, slotAt_zero, yieldS_some, List.getElem?_toArray, List.getElem?_cons_zero, List.getElem?_cons_succ, resA_cell, cellRes_ptr, Option.bind_some, theCode_rangeS, rangeS_cap, callS_cap, roundA_M, roundM_ready, roundB_N, roundB_R, roundB_E, roundN_none, roundN_some, rangeEnd_M, rangeM_ready, rangeM_ret, setAll_nil, setAll_cons, pack_one, pack_two, pack_none,
    Option.map_some, Option.isSome_some, ne_eq, not_false_eq_true, ↓reduceIte, Nat.reduceEqDiff, Nat.reduceLT, if_true, if_false, Nat.reduceAdd, Nat.add_zero, Nat.zero_add, Option.some.injEq, decide_eq_true_eq, List.map_cons, List.map_nil, List.all_cons, List.all_nil, Bool.and_true, List.nil_append, List.append_nil, List.cons_append,
          hl, i1, i2, i3, i9, i10, i11, i12, i13, i14, i15, i18, i19, i20, hlnw, hlt, hixs, sli22, hkc, hpk, k1, hbI, w6, hsl, a, wa, wb, wc, en8, en9, en10, en11, en12, en13, en14, en15, en16, en17, en18, en19, isl32, isl22, isp23, off38_0, agg3, loadV_flat, eq_self, decide_true, Bool.not_true, Bool.not_false, Bool.false_eq_true, Bool.true_eq_false]
        rfl
      case q2 =>
        refine ⟨_, _, pre ++ [s], post, runS σ s, nb', nt', rfl, by rw [hpp]; simp, rfl, ?_, ?_, ?_, ?_, ?_, ?_, ?_, ?_, ?_, ?_, ?_, ?_, ?_, ?_, hW', ⟨F', sA', hU.trans u'⟩, by rw [List.length_append]; exact hwf'⟩
        · simp only [List.length_set, hl]
        all_goals simp (config := { decide := true }) only [rd_ne, rd_same, List.length_set, hl, ne_eq, not_false_eq_true, i1, i2, i3, i9, i10, i11, i12, i13, i14, i15, i18, i19, i20, w8, w9]
    by_cases k5 : s.kind % 6 = 5
    · by_cases hb : nt = 0
      · subst hb
        refine ⟨?s3, ?h3, post.length, by rw [← hk]; simp, ?q3⟩
        case h3 =>
          simp (config := { decide := true }) only [fieldAddrS_add, theCode_seq, theCode_list, theCode_skip, theCode_ret, theCode_exit, theCode_label, theCode_block, theCode_if, evalList_plain, evalList_guard, evalList_nil, nd_move, nd_assign, nd_pick, nd_alloc, nd_box, nd_build, nd_buildSlice, nd_load, nd_store, nd_nilCheck, nd_binOp, nd_unOp, nd_convert, nd_makeInterface, nd_makeFunc, nd_makeMap, nd_slice, nd_fieldAddr, nd_field, nd_indexAddr, nd_index, nd_lookup, nd_mapUpdate, nd_typeAssert, nd_extract, nd_call, nd_panic,
    ok_tmp, ok_const, ok_func, cl_int, cl_bool, cl_string, cl_ptr, cl_map, cl_nilFunc, cl_nilIface, cl_slice, opA_move, opA_assign, opA_pick, opA_load, opA_store, opA_nilCheck, opA_fieldAddr, opA_extract, opA_bin, opA_un, opA_call, opA_call0, opA_build0, opA_len, opA_appendS, opA_makeMap, opA_indexAddr, opA_sliceHi, opA_sliceLo, opA_sliceLH, opA_lookup, opA_mapUpdate, opA_build, opA_box, opA_alloc, opA_makeFunc0, opA_makeFunc00,
    contA_val, contA_skip, contA_enter, contA_panic, contA_ite, callA_ret, callA_panic, callA_ite, putT_some, putT_none, aev_tmp, aev_const, aev_func, rd_same, rd_ne, List.length_set, valA_some, skipA_some, pairA_some,
    thenA_normal, thenA_ret, thenA_exit, thenA_panic, thenA_ite, inBlockA_normal, inBlockA_ret, inBlockA_exit, inBlockA_panic, inBlockA_ite, boolOf_bool, loadS_ptr, storeS_ptr, nilCheckS_ptr, nilCheckS_func, extractS_tuple, un_not,
    bin_lss, bin_leq, bin_gtr, bin_geq, bin_eql, bin_neq, bin_add, bin_sub, bin_mul, bin_seql, bin_sneq, bin_ptr_eql, bin_ptr_neq, bin_nil_eql, bin_nil_neq, callS_plain, callS_func, lenS_slice, leaveR_ite, leaveR_ret, leaveR_normal, leaveR_panic, resA_tmp, resA_nil, yieldA_S, slotAt_succ, slotAt_zero, yieldS_some, List.getElem?_toArray, List.getElem?_cons_zero, List.getElem?_cons_succ, resA_cell, cellRes_ptr, Option.bind_some, theCode_rangeS, rangeS_cap, callS_cap, roundA_M, roundM_ready, roundB_N, roundB_R, roundB_E, roundN_none, roundN_some, rangeEnd_M, rangeM_ready, rangeM_ret, setAll_nil, setAll_cons, pack_one, pack_two, pack_none,
    Option.map_some, Option.isSome_some, ne_eq, not_false_eq_true, ↓reduceIte, Nat.reduceEqDiff, Nat.reduceLT, if_true, if_false, Nat.reduceAdd, Nat.add_zero, Nat.zero_add, Option.some.injEq, decide_eq_true_eq, List.map_cons, List.map_nil, List.all_cons, List.all_nil, Bool.and_true, List.nil_append, List.append_nil, List.cons_append,
            hl, i1, i2, i3, i9, i10, i11, i12, i13, i14, i15, i18, i19, i20, hlnw, hlt, hixs, sli22, hkc, hpk, k1, k5, Int.natCast_zero, Int.zero_add, en8, en9, en10, en11, en12, en13, en14, en15, en16, en17, en18, en19, isl32, isl22, isp23, off38_0, agg3, loadV_flat, eq_self, decide_true, Bool.not_true, Bool.not_false, Bool.false_eq_true, Bool.true_eq_false]
          rfl
        case q3 =>
          refine ⟨_, _, pre ++ [s], post, σ, nb, 0, rfl, by rw [hpp]; simp, rfl, ?_, ?_, ?_, ?_, ?_, ?_, ?_, ?_, ?_, ?_, ?_, ?_, ?_, ?_, hW, hust, by rw [List.length_append]; exact hwf.up (Nat.le_succ _)⟩
          · simp only [List.length_set, hl]
          all_goals simp (config := { decide := true }) only [rd_ne, rd_same, List.length_set, hl, ne_eq, not_false_eq_true, i1, i2, i3, i9, i10, i11, i12, i13, i14, i15, i18, i19, i20, w8]
      have hbI : ¬ ((nt : Int) + 1 = 1) := by omega
      obtain ⟨vs, hsl, hs1, hvb⟩ := hsH.one hil (t := 22) sli22 rfl H (hsH.eok (by omega))
      rw [hget] at hs1
      obtain ⟨F, hsA, hU⟩ := hust
      obtain ⟨H', a, F', sA', u'⟩ := run9 (ext := ext) hx hU.fresh (n := la.length + 2 + pre.length) hsA hwf hs1 (fun _ e => hblkF F hU (hvb ▸ e)) (by simp; omega)
      have hR : runL σ [s] = runS σ s := rfl
      rw [hR] at sA'
      obtain ⟨nb', nt', hW', e1, e2⟩ := hW.step hw0.pos s (by omega) (by omega)
      have hb1 : runLB σ [s] = runB σ s := by simp [runLB]
      have ht1 : runLT σ [s] = runT σ s := by simp [runLT]
      rw [hb1, ht1] at a
      have hbn := hW'.bn
      have htn' := hW'.tn
      have hwf' := wf_runS hwf s
      have hq1 := hwf'.bl
      have hq2 := hwf'.tl
      have wa : IntKind.i64.wrap ((nb : Int) + 1 + (1 + runB σ s)) = (nb' : Int) + 2 := by rw [IntWalk.i64_in _ (by omega)]; omega
      have wb : IntKind.i64.wrap ((nb' : Int) + 2 - 1) = (nb' : Int) + 1 := by rw [IntWalk.i64_in _ (by omega)]; omega
      have wc : IntKind.i64.wrap ((nt : Int) + 1 + runT σ s) = (nt' : Int) + 1 := by rw [IntWalk.i64_in _ (by omega)]; omega
      have w6 : IntKind.i64.wrap ((pre.length : Int) + 1) = (pre.length : Int) + 1 := IntWalk.i64_in _ (by omega)
      have w9 : (pre.length : Int) + 1 = ((pre ++ [s]).length : Nat) := by simp
      refine ⟨?s4, ?h4, post.length, by rw [← hk]; simp, ?q4⟩
      case h4 =>
        simp (config := { decide := true }) only [fieldAddrS_add, theCode_seq, theCode_list, theCode_skip, theCode_ret, theCode_exit, theCode_label, theCode_block, theCode_if, evalList_plain, evalList_guard, evalList_nil, nd_move, nd_assign, nd_pick, nd_alloc, nd_box, nd_build, nd_buildSlice, nd_load, nd_store, nd_nilCheck, nd_binOp, nd_unOp, nd_convert, nd_makeInterface, nd_makeFunc, nd_makeMap, nd_slice, nd_fieldAddr, nd_field, nd_indexAddr, nd_index, nd_lookup, nd_mapUpdate, nd_typeAssert, nd_extract, nd_call, nd_panic,
    ok_tmp, ok_const, ok_func, cl_int, cl_bool, cl_string, cl_ptr, cl_map, cl_nilFunc, cl_nilIface, cl_slice, opA_move, opA_assign, opA_pick, opA_load, opA_store, opA_nilCheck, opA_fieldAddr, opA_extract, opA_bin, opA_un, opA_call, opA_call0, opA_build0, opA_len, opA_appendS, opA_makeMap, opA_indexAddr, opA_sliceHi, opA_sliceLo, opA_sliceLH, opA_lookup, opA_mapUpdate, opA_build, opA_box, opA_alloc, opA_makeFunc0, opA_makeFunc00,
    contA_val, contA_skip, contA_enter, contA_panic, contA_ite, callA_ret, callA_panic, callA_ite, putT_some, putT_none, aev_tmp, aev_const, aev_func, rd_same, rd_ne, List.length_set, valA_some, skipA_some, pairA_some,
    thenA_normal, thenA_ret, thenA_exit, thenA_panic, thenA_ite, inBlockA_normal, inBlockA_ret, inBlockA_exit, inBlockA_panic, inBlockA_ite, boolOf_bool, loadS_ptr, storeS_ptr, nilCheckS_ptr, nilCheckS_func, extractS_tuple, un_not,
    bin_lss, bin_leq, bin_gtr, bin_geq, bin_eql, bin_neq, bin_add, bin_sub, bin_mul, bin_seql, bin_sneq, bin_ptr_eql, bin_ptr_neq, bin_nil_eql, bin_nil_neq, callS_plain, callS_func, lenS_slice, leaveR_ite, leaveR_ret, leaveR_normal, leaveR_panic, resA_tmp, resA_nil, yieldA_S, slotAt_succ, slotAt_zero, yieldS_some, List.getElem?_toArray, List.getElem?_cons_zero, List.getElem?_cons_succ, resA_cell, cellRes_ptr, Option.bind_some, theCode_rangeS, rangeS_cap, callS_cap, roundA_M, roundM_ready, roundB_N, roundB_R, roundB_E, roundN_none, roundN_some, rangeEnd_M, rangeM_ready, rangeM_ret, setAll_nil, setAll_cons, pack_one, pack_two, pack_none,
    Option.map_some, Option.isSome_some, ne_eq, not_false_eq_true, ↓reduceIte, Nat.reduceEqDiff, Nat.reduceLT, if_true, if_false, Nat.reduceAdd, Nat.add_zero, Nat.zero_add, Option.some.injEq, decide_eq_true_eq, List.map_cons, List.map_nil, List.all_cons, List.all_nil, Bool.and_true, List.nil_append, List.append_nil, List.cons_append,
          hl, i1, i2, i3, i9, i10, i11, i12, i13, i14, i15, i18, i19, i20, hlnw, hlt, hixs, sli22, hkc, hpk, k1, k5, hbI, w6, hsl, a, wa, wb, wc, en8, en9, en10, en11, en12, en13, en14, en15, en16, en17, en18, en19, isl32, isl22, isp23, off38_0, agg3, loadV_flat, eq_self, decide_true, Bool.not_true, Bool.not_false, Bool.false_eq_true, Bool.true_eq_false]
        rfl
      case q4 =>
        refine ⟨_, _, pre ++ [s], post, runS σ s, nb', nt', rfl, by rw [hpp]; simp, rfl, ?_, ?_, ?_, ?_, ?_, ?_, ?_, ?_, ?_, ?_, ?_, ?_, ?_, ?_, hW', ⟨F', sA', hU.trans u'⟩, by rw [List.length_append]; exact hwf'⟩
        · simp only [List.length_set, hl]
        all_goals simp (config := { decide := true }) only [rd_ne, rd_same, List.length_set, hl, ne_eq, not_false_eq_true, i1, i2, i3, i9, i10, i11, i12, i13, i14, i15, i18, i19, i20, w8, w9]
    · have k0 := True.intro
      obtain ⟨vs, hsl, hs1, hvb⟩ := hsH.one hil (t := 22) sli22 rfl H (hsH.eok (by omega))
      rw [hget] at hs1
      obtain ⟨F, hsA, hU⟩ := hust
      obtain ⟨H', a, F', sA', u'⟩ := run9 (ext := ext) hx hU.fresh (n := la.length + 2 + pre.length) hsA hwf hs1 (fun _ e => hblkF F hU (hvb ▸ e)) (by simp; omega)
      have hR : runL σ [s] = runS σ s := rfl
      rw [hR] at sA'
      obtain ⟨nb', nt', hW', e1, e2⟩ := hW.step hw0.pos s (by omega) (by omega)
      have hb1 : runLB σ [s] = runB σ s := by simp [runLB]
      have ht1 : runLT σ [s] = runT σ s := by simp [runLT]
      rw [hb1, ht1] at a
      have hbn := hW'.bn
      have htn' := hW'.tn
      have hwf' := wf_runS hwf s
      have hq1 := hwf'.bl
      have hq2 := hwf'.tl
      have wa : IntKind.i64.wrap ((nb : Int) + 1 + (1 + runB σ s)) = (nb' : Int) + 2 := by rw [IntWalk.i64_in _ (by omega)]; omega
      have wb : IntKind.i64.wrap ((nb' : Int) + 2 - 1) = (nb' : Int) + 1 := by rw [IntWalk.i64_in _ (by omega)]; omega
      have wc : IntKind.i64.wrap ((nt : Int) + 1 + runT σ s) = (nt' : Int) + 1 := by rw [IntWalk.i64_in _ (by omega)]; omega
      have w6 : IntKind.i64.wrap ((pre.length : Int) + 1) = (pre.length : Int) + 1 := IntWalk.i64_in _ (by omega)
      have w9 : (pre.length : Int) + 1 = ((pre ++ [s]).length : Nat) := by simp
      refine ⟨?s5, ?h5, post.length, by rw [← hk]; simp, ?q5⟩
      case h5 =>
        simp (config := { decide := true }) only [fieldAddrS_add, theCode_seq, theCode_list, theCode_skip, theCode_ret, theCode_exit, theCode_label, theCode_block, theCode_if, evalList_plain, evalList_guard, evalList_nil, nd_move, nd_assign, nd_pick, nd_alloc, nd_box, nd_build, nd_buildSlice, nd_load, nd_store, nd_nilCheck, nd_binOp, nd_unOp, nd_convert, nd_makeInterface, nd_makeFunc, nd_makeMap, nd_slice, nd_fieldAddr, nd_field, nd_indexAddr, nd_index, nd_lookup, nd_mapUpdate, nd_typeAssert, nd_extract, nd_call, nd_panic,
    ok_tmp, ok_const, ok_func, cl_int, cl_bool, cl_string, cl_ptr, cl_map, cl_nilFunc, cl_nilIface, cl_slice, opA_move, opA_assign, opA_pick, opA_load, opA_store, opA_nilCheck, opA_fieldAddr, opA_extract, opA_bin, opA_un, opA_call, opA_call0, opA_build0, opA_len, opA_appendS, opA_makeMap, opA_indexAddr, opA_sliceHi, opA_sliceLo, opA_sliceLH, opA_lookup, opA_mapUpdate, opA_build, opA_box, opA_alloc, opA_makeFunc0, opA_makeFunc00,
    contA_val, contA_skip, contA_enter, contA_panic, contA_ite, callA_ret, callA_panic, callA_ite, putT_some, putT_none, aev_tmp, aev_const, aev_func, rd_same, rd_ne, List.length_set, valA_some, skipA_some, pairA_some,
    thenA_normal, thenA_ret, thenA_exit, thenA_panic, thenA_ite, inBlockA_normal, inBlockA_ret, inBlockA_exit, inBlockA_panic, inBlockA_ite, boolOf_bool, loadS_ptr, storeS_ptr, nilCheckS_ptr, nilCheckS_func, extractS_tuple, un_not,
    bin_lss, bin_leq, bin_gtr, bin_geq, bin_eql, bin_neq, bin_add, bin_sub, bin_mul, bin_seql, bin_sneq, bin_ptr_eql, bin_ptr_neq, bin_nil_eql, bin_nil_neq, callS_plain, callS_func, lenS_slice, leaveR_ite, leaveR_ret, leaveR_normal, leaveR_panic, resA_tmp, resA_nil, yieldA_S, slotAt_succ, slotAt_zero, yieldS_some, List.getElem?_toArray, List.getElem?_cons_zero, List.getElem?_cons_succ, resA_cell, cellRes_ptr, Option.bind_some, theCode_rangeS, rangeS_cap, callS_cap, roundA_M, roundM_ready, roundB_N, roundB_R, roundB_E, roundN_none, roundN_some, rangeEnd_M, rangeM_ready, rangeM_ret, setAll_nil, setAll_cons, pack_one, pack_two, pack_none,
    Option.map_some, Option.isSome_some, ne_eq, not_false_eq_true, ↓reduceIte, Nat.reduceEqDiff, Nat.reduceLT, if_true, if_false, Nat.reduceAdd, Nat.add_zero, Nat.zero_add, Option.some.injEq, decide_eq_true_eq, List.map_cons, List.map_nil, List.all_cons, List.all_nil, Bool.and_true, List.nil_append, List.append_nil, List.cons_append,
          hl, i1, i2, i3, i9, i10, i11, i12, i13, i14, i15, i18, i19, i20, hlnw, hlt, hixs, sli22, hkc, hpk, k1, k5, w6, hsl, a, wa, wb, wc, en8, en9, en10, en11, en12, en13, en14, en15, en16, en17, en18, en19, isl32, isl22, isp23, off38_0, agg3, loadV_flat, eq_self, decide_true, Bool.not_true, Bool.not_false, Bool.false_eq_true, Bool.true_eq_false]
        rfl
      case q5 =>
        refine ⟨_, _, pre ++ [s], post, runS σ s, nb', nt', rfl, by rw [hpp]; simp, rfl, ?_, ?_, ?_, ?_, ?_, ?_, ?_, ?_, ?_, ?_, ?_, ?_, ?_, ?_, hW', ⟨F', sA', hU.trans u'⟩, by rw [List.length_append]; exact hwf'⟩
        · simp only [List.length_set, hl]
        all_goals simp (config := { decide := true }) only [rd_ne, rd_same, List.length_set, hl, ne_eq, not_false_eq_true, i1, i2, i3, i9, i10, i11, i12, i13, i14, i15, i18, i19, i20, w8, w9]


set_option maxHeartbeats 8000000 in
set_option maxRecDepth 100000 in
theorem blk_l2 {ext : CallT} (hx : ∀ f args H, f ≠ 22 → ext f args H = none) {H0 H5 : AHeap} {F2 : Nat → Prop} {vw v1 : Value} {la lw : List Stp} {σ0 : Sc} {fa ft ta te : Int} {fc tn : Bool} {nm : ByteArray} (hw0 : σ0.wf la.length)
    (hb1 : ¬ (100 : Int) < la.length) (hb2 : ¬ (100 : Int) < lw.length) {nb nt : Nat} (hnb : nb < 1000) {c : Code} (hc : (loopsF Try.f3)[1]? = some c) :
    ∀ k s, (fun (k : Nat) (s : St) => ∃ tm H σ i, s = ⟨tm, [], H⟩ ∧ i + k = nb + 1 ∧ tm.length = 186 ∧ tm.getD 1 undef = vw ∧ tm.getD 2 undef = .string nm ∧ tm.getD 3 undef = .bool tn ∧ tm.getD 9 undef = .pointer (some ⟨H0.next, 0, none⟩) ∧ tm.getD 10 undef = .int .i64 fa ∧ tm.getD 11 undef = .int .i64 ft ∧ tm.getD 12 undef = .bool fc ∧ tm.getD 13 undef = .int .i64 ta ∧ tm.getD 14 undef = .int .i64 te ∧ tm.getD 15 undef = v1 ∧ tm.getD 18 undef = .int .i64 ((nb : Int) + 1) ∧ tm.getD 19 undef = .int .i64 ((nt : Int) + 1) ∧ tm.getD 24 undef = .int .i64 (i : Nat) ∧ Within σ0 σ k (nt + 1) ∧ USt H5 F2 H H0.next σ ∧ σ.wf (la.length + 2 + lw.length)) k s → ∃ x s', theCode Try.prog ext false (.loop c) s = some (x, s') ∧ x ≠ .normal ∧ (fun (x : AExit) (s : St) => ∃ tm H σ, s = ⟨tm, [], H⟩ ∧ x = .exit 2 ∧ tm.length = 186 ∧ tm.getD 1 undef = vw ∧ tm.getD 2 undef = .string nm ∧ tm.getD 3 undef = .bool tn ∧ tm.getD 9 undef = .pointer (some ⟨H0.next, 0, none⟩) ∧ tm.getD 10 undef = .int .i64 fa ∧ tm.getD 11 undef = .int .i64 ft ∧ tm.getD 12 undef = .bool fc ∧ tm.getD 13 undef = .int .i64 ta ∧ tm.getD 14 undef = .int .i64 te ∧ tm.getD 15 undef = v1 ∧ tm.getD 19 undef = .int .i64 ((nt : Int) + 1) ∧ Within σ0 σ 0 (nt + 1) ∧ USt H5 F2 H H0.next σ ∧ σ.wf (la.length + 2 + lw.length)) x s' := by
  have h0 : (loopsF Try.f3)[1]? = some _ := rfl
  rw [h0] at hc
  obtain rfl := Option.some.inj hc
  refine theCode_loop_inv _ _ ?_
  rintro k _ ⟨tm, H, σ, i, rfl, hik, hl, i1, i2, i3, i9, i10, i11, i12, i13, i14, i15, i18, i19, i24, hW, hust, hwf⟩
  cases k with
  | zero =>
    right
    have hlt : ¬ ((i : Int) < (nb : Int) + 1) := by omega
    refine ⟨?x60, ?s60, ?h60, ?hx60, ?hq60⟩
    case h60 =>
      simp (config := { decide := true }) only [theCode_seq, theCode_list, theCode_skip, theCode_ret, theCode_exit, theCode_label, theCode_block, theCode_if, evalList_plain, evalList_guard, evalList_nil, nd_move, nd_assign, nd_pick, nd_alloc, nd_box, nd_build, nd_buildSlice, nd_load, nd_store, nd_nilCheck, nd_binOp, nd_unOp, nd_convert, nd_makeInterface, nd_makeFunc, nd_makeMap, nd_slice, nd_fieldAddr, nd_field, nd_indexAddr, nd_index, nd_lookup, nd_mapUpdate, nd_typeAssert, nd_extract, nd_call, nd_panic,
    ok_tmp, ok_const, ok_func, cl_int, cl_bool, cl_string, cl_ptr, cl_map, cl_nilFunc, cl_nilIface, cl_slice, opA_move, opA_assign, opA_pick, opA_load, opA_store, opA_nilCheck, opA_fieldAddr, opA_extract, opA_bin, opA_un, opA_call, opA_call0, opA_build0, opA_len, opA_appendS, opA_makeMap, opA_indexAddr, opA_sliceHi, opA_sliceLo, opA_sliceLH, opA_lookup, opA_mapUpdate, opA_build, opA_box, opA_alloc, opA_makeFunc0, opA_makeFunc00,
    contA_val, contA_skip, contA_enter, contA_panic, contA_ite, callA_ret, callA_panic, callA_ite, putT_some, putT_none, aev_tmp, aev_const, aev_func, rd_same, rd_ne, List.length_set, valA_some, skipA_some, pairA_some,
    thenA_normal, thenA_ret, thenA_exit, thenA_panic, thenA_ite, inBlockA_normal, inBlockA_ret, inBlockA_exit, inBlockA_panic, inBlockA_ite, boolOf_bool, loadS_ptr, storeS_ptr, nilCheckS_ptr, nilCheckS_func, fieldAddrS_eq, extractS_tuple, un_not,
    bin_lss, bin_leq, bin_gtr, bin_geq, bin_eql, bin_neq, bin_add, bin_sub, bin_mul, bin_seql, bin_sneq, bin_ptr_eql, bin_ptr_neq, bin_nil_eql, bin_nil_neq, callS_plain, callS_func, lenS_slice, leaveR_ite, leaveR_ret, leaveR_normal, leaveR_panic, resA_tmp, resA_nil, yieldA_S, slotAt_succ, slotAt_zero, yieldS_some, List.getElem?_toArray, List.getElem?_cons_zero, List.getElem?_cons_succ, resA_cell, cellRes_ptr, Option.bind_some, theCode_rangeS, rangeS_cap, callS_cap, roundA_M, roundM_ready, roundB_N, roundB_R, roundB_E, roundN_none, roundN_some, rangeEnd_M, rangeM_ready, rangeM_ret, setAll_nil, setAll_cons, pack_one, pack_two, pack_none,
    Option.map_some, Option.isSome_some, ne_eq, not_false_eq_true, ↓reduceIte, Nat.reduceEqDiff, Nat.reduceLT, if_true, if_false, Nat.reduceAdd, Nat.add_zero, Nat.zero_add, Option.some.injEq, decide_eq_true_eq, List.map_cons, List.map_nil, List.all_cons, List.all_nil, Bool.and_true, List.nil_append, List.append_nil, List.cons_append, hl, i1, i2, i3, i9, i10, i11, i12, i13, i14, i15, i18, i19, i24, hlt, Bool.false_eq_true]
      rfl
    case hx60 => exact fun h => by cases h
    case hq60 =>
      refine ⟨_, _, σ, rfl, rfl, ?_, ?_, ?_, ?_, ?_, ?_, ?_, ?_, ?_, ?_, ?_, ?_, hW, hust, hwf⟩
      · simp only [List.length_set, hl]
      all_goals simp (config := { decide := true }) only [rd_ne, rd_same, List.length_set, hl, ne_eq, not_false_eq_true, i1, i2, i3, i9, i10, i11, i12, i13, i14, i15, i18, i19, i24]
  | succ k =>
    left
    have hlt : (i : Int) < (nb : Int) + 1 := by omega
    obtain ⟨F, hsA, hU⟩ := hust
    obtain ⟨hW', hgt⟩ := hW.close hw0.pos
    obtain ⟨H', F', a, sA, u⟩ := close17 (ext := ext) hx hU.fresh hsA (by have := hwf.bl; omega)
    rw [decide_eq_true hgt] at a
    have wi : IntKind.i64.wrap ((i : Int) + 1) = ((i + 1 : Nat) : Int) := by rw [IntWalk.i64_in _ (by omega)]; omega
    refine ⟨?s61, ?h61, k, Nat.lt_succ_self _, ?q61⟩
    case h61 =>
      simp (config := { decide := true }) only [theCode_seq, theCode_list, theCode_skip, theCode_ret, theCode_exit, theCode_label, theCode_block, theCode_if, evalList_plain, evalList_guard, evalList_nil, nd_move, nd_assign, nd_pick, nd_alloc, nd_box, nd_build, nd_buildSlice, nd_load, nd_store, nd_nilCheck, nd_binOp, nd_unOp, nd_convert, nd_makeInterface, nd_makeFunc, nd_makeMap, nd_slice, nd_fieldAddr, nd_field, nd_indexAddr, nd_index, nd_lookup, nd_mapUpdate, nd_typeAssert, nd_extract, nd_call, nd_panic,
    ok_tmp, ok_const, ok_func, cl_int, cl_bool, cl_string, cl_ptr, cl_map, cl_nilFunc, cl_nilIface, cl_slice, opA_move, opA_assign, opA_pick, opA_load, opA_store, opA_nilCheck, opA_fieldAddr, opA_extract, opA_bin, opA_un, opA_call, opA_call0, opA_build0, opA_len, opA_appendS, opA_makeMap, opA_indexAddr, opA_sliceHi, opA_sliceLo, opA_sliceLH, opA_lookup, opA_mapUpdate, opA_build, opA_box, opA_alloc, opA_makeFunc0, opA_makeFunc00,
    contA_val, contA_skip, contA_enter, contA_panic, contA_ite, callA_ret, callA_panic, callA_ite, putT_some, putT_none, aev_tmp, aev_const, aev_func, rd_same, rd_ne, List.length_set, valA_some, skipA_some, pairA_some,
    thenA_normal, thenA_ret, thenA_exit, thenA_panic, thenA_ite, inBlockA_normal, inBlockA_ret, inBlockA_exit, inBlockA_panic, inBlockA_ite, boolOf_bool, loadS_ptr, storeS_ptr, nilCheckS_ptr, nilCheckS_func, fieldAddrS_eq, extractS_tuple, un_not,
    bin_lss, bin_leq, bin_gtr, bin_geq, bin_eql, bin_neq, bin_add, bin_sub, bin_mul, bin_seql, bin_sneq, bin_ptr_eql, bin_ptr_neq, bin_nil_eql, bin_nil_neq, callS_plain, callS_func, lenS_slice, leaveR_ite, leaveR_ret, leaveR_normal, leaveR_panic, resA_tmp, resA_nil, yieldA_S, slotAt_succ, slotAt_zero, yieldS_some, List.getElem?_toArray, List.getElem?_cons_zero, List.getElem?_cons_succ, resA_cell, cellRes_ptr, Option.bind_some, theCode_rangeS, rangeS_cap, callS_cap, roundA_M, roundM_ready, roundB_N, roundB_R, roundB_E, roundN_none, roundN_some, rangeEnd_M, rangeM_ready, rangeM_ret, setAll_nil, setAll_cons, pack_one, pack_two, pack_none,
    Option.map_some, Option.isSome_some, ne_eq, not_false_eq_true, ↓reduceIte, Nat.reduceEqDiff, Nat.reduceLT, if_true, if_false, Nat.reduceAdd, Nat.add_zero, Nat.zero_add, Option.some.injEq, decide_eq_true_eq, List.map_cons, List.map_nil, List.all_cons, List.all_nil, Bool.and_true, List.nil_append, List.append_nil, List.cons_append, hl, i1, i2, i3, i9, i10, i11, i12, i13, i14, i15, i18, i19, i24, hlt, a, en8, en9, en10, en11, en12, en13, en14, en15, en16, en17, en18, en19, isl32, isl22, isp23, off38_0, agg3, loadV_flat, eq_self, decide_true, Bool.not_true, Bool.not_false, Bool.false_eq_true, Bool.true_eq_false]
      rfl
    case q61 =>
      refine ⟨_, _, _, i + 1, rfl, by omega, ?_, ?_, ?_, ?_, ?_, ?_, ?_, ?_, ?_, ?_, ?_, ?_, ?_, ?_, hW', ⟨F', sA, hU.trans u⟩, wf_close hwf⟩
      · simp only [List.length_set, hl]
      all_goals simp (config := { decide := true }) only [rd_ne, rd_same, List.length_set, hl, ne_eq, not_false_eq_true, i1, i2, i3, i9, i10, i11, i12, i13, i14, i15, i18, i19, i24, wi]


set_option maxHeartbeats 8000000 in
set_option maxRecDepth 100000 in
theorem blk_l3 {ext : CallT} (hx : ∀ f args H, f ≠ 22 → ext f args H = none) {H0 H5 : AHeap} {F2 : Nat → Prop} {vw v1 : Value} {la lw : List Stp} {σ0 : Sc} {fa ft ta te : Int} {fc tn : Bool} {nm : ByteArray} (hw0 : σ0.wf la.length)
    (hb1 : ¬ (100 : Int) < la.length) (hb2 : ¬ (100 : Int) < lw.length) {nt : Nat} (hnt : nt < 1000) {c : Code} (hc : (loopsF Try.f3)[2]? = some c) :
    ∀ k s, (fun (k : Nat) (s : St) => ∃ tm H σ i, s = ⟨tm, [], H⟩ ∧ i + k = nt + 1 ∧ tm.length = 186 ∧ tm.getD 1 undef = vw ∧ tm.getD 2 undef = .string nm ∧ tm.getD 3 undef = .bool tn ∧ tm.getD 9 undef = .pointer (some ⟨H0.next, 0, none⟩) ∧ tm.getD 10 undef = .int .i64 fa ∧ tm.getD 11 undef = .int .i64 ft ∧ tm.getD 12 undef = .bool fc ∧ tm.getD 13 undef = .int .i64 ta ∧ tm.getD 14 undef = .int .i64 te ∧ tm.getD 15 undef = v1 ∧ tm.getD 19 undef = .int .i64 ((nt : Int) + 1) ∧ tm.getD 25 undef = .int .i64 (i : Nat) ∧ Within σ0 σ 0 k ∧ USt H5 F2 H H0.next σ ∧ σ.wf (la.length + 2 + lw.length)) k s → ∃ x s', theCode Try.prog ext false (.loop c) s = some (x, s') ∧ x ≠ .normal ∧ (fun (x : AExit) (s : St) => ∃ tm H σ, s = ⟨tm, [], H⟩ ∧ x = .exit 4 ∧ tm.length = 186 ∧ tm.getD 1 undef = vw ∧ tm.getD 2 undef = .string nm ∧ tm.getD 3 undef = .bool tn ∧ tm.getD 9 undef = .pointer (some ⟨H0.next, 0, none⟩) ∧ tm.getD 10 undef = .int .i64 fa ∧ tm.getD 11 undef = .int .i64 ft ∧ tm.getD 12 undef = .bool fc ∧ tm.getD 13 undef = .int .i64 ta ∧ tm.getD 14 undef = .int .i64 te ∧ tm.getD 15 undef = v1 ∧ Within σ0 σ 0 0 ∧ USt H5 F2 H H0.next σ ∧ σ.wf (la.length + 2 + lw.length)) x s' := by
  have h0 : (loopsF Try.f3)[2]? = some _ := rfl
  rw [h0] at hc
  obtain rfl := Option.some.inj hc
  refine theCode_loop_inv _ _ ?_
  rintro k _ ⟨tm, H, σ, i, rfl, hik, hl, i1, i2, i3, i9, i10, i11, i12, i13, i14, i15, i19, i25, hW, hust, hwf⟩
  cases k with
  | zero =>
    right
    have hlt : ¬ ((i : Int) < (nt : Int) + 1) := by omega
    refine ⟨?x70, ?s70, ?h70, ?hx70, ?hq70⟩
    case h70 =>
      simp (config := { decide := true }) only [theCode_seq, theCode_list, theCode_skip, theCode_ret, theCode_exit, theCode_label, theCode_block, theCode_if, evalList_plain, evalList_guard, evalList_nil, nd_move, nd_assign, nd_pick, nd_alloc, nd_box, nd_build, nd_buildSlice, nd_load, nd_store, nd_nilCheck, nd_binOp, nd_unOp, nd_convert, nd_makeInterface, nd_makeFunc, nd_makeMap, nd_slice, nd_fieldAddr, nd_field, nd_indexAddr, nd_index, nd_lookup, nd_mapUpdate, nd_typeAssert, nd_extract, nd_call, nd_panic,
    ok_tmp, ok_const, ok_func, cl_int, cl_bool, cl_string, cl_ptr, cl_map, cl_nilFunc, cl_nilIface, cl_slice, opA_move, opA_assign, opA_pick, opA_load, opA_store, opA_nilCheck, opA_fieldAddr, opA_extract, opA_bin, opA_un, opA_call, opA_call0, opA_build0, opA_len, opA_appendS, opA_makeMap, opA_indexAddr, opA_sliceHi, opA_sliceLo, opA_sliceLH, opA_lookup, opA_mapUpdate, opA_build, opA_box, opA_alloc, opA_makeFunc0, opA_makeFunc00,
    contA_val, contA_skip, contA_enter, contA_panic, contA_ite, callA_ret, callA_panic, callA_ite, putT_some, putT_none, aev_tmp, aev_const, aev_func, rd_same, rd_ne, List.length_set, valA_some, skipA_some, pairA_some,
    thenA_normal, thenA_ret, thenA_exit, thenA_panic, thenA_ite, inBlockA_normal, inBlockA_ret, inBlockA_exit, inBlockA_panic, inBlockA_ite, boolOf_bool, loadS_ptr, storeS_ptr, nilCheckS_ptr, nilCheckS_func, fieldAddrS_eq, extractS_tuple, un_not,
    bin_lss, bin_leq, bin_gtr, bin_geq, bin_eql, bin_neq, bin_add, bin_sub, bin_mul, bin_seql, bin_sneq, bin_ptr_eql, bin_ptr_neq, bin_nil_eql, bin_nil_neq, callS_plain, callS_func, lenS_slice, leaveR_ite, leaveR_ret, leaveR_normal, leaveR_panic, resA_tmp, resA_nil, yieldA_S, slotAt_succ, slotAt_zero, yieldS_some, List.getElem?_toArray, List.getElem?_cons_zero, List.getElem?_cons_succ, resA_cell, cellRes_ptr, Option.bind_some, theCode_rangeS, rangeS_cap, callS_cap, roundA_M, roundM_ready, roundB_N, roundB_R, roundB_E, roundN_none, roundN_some, rangeEnd_M, rangeM_ready, rangeM_ret, setAll_nil, setAll_cons, pack_one, pack_two, pack_none,
    Option.map_some, Option.isSome_some, ne_eq, not_false_eq_true, ↓reduceIte, Nat.reduceEqDiff, Nat.reduceLT, if_true, if_false, Nat.reduceAdd, Nat.add_zero, Nat.zero_add, Option.some.injEq, decide_eq_true_eq, List.map_cons, List.map_nil, List.all_cons, List.all_nil, Bool.and_true, List.nil_append, List.append_nil, List.cons_append, hl, i1, i2, i3, i9, i10, i11, i12, i13, i14, i15, i19, i25, hlt, Bool.false_eq_true]
      rfl
    case hx70 => exact fun h => by cases h
    case hq70 =>
      refine ⟨_, _, σ, rfl, rfl, ?_, ?_, ?_, ?_, ?_, ?_, ?_, ?_, ?_, ?_, ?_, hW, hust, hwf⟩
      · simp only [List.length_set, hl]
      all_goals simp (config := { decide := true }) only [rd_ne, rd_same, List.length_set, hl, ne_eq, not_false_eq_true, i1, i2, i3, i9, i10, i11, i12, i13, i14, i15, i19, i25]
  | succ k =>
    left
    have hlt : (i : Int) < (nt : Int) + 1 := by omega
    obtain ⟨F, hsA, hU⟩ := hust
    obtain ⟨hW', hgt⟩ := hW.leave
    obtain ⟨H', F', a, sA, u⟩ := leave18 (ext := ext) hx hU.fresh hsA (by have := hwf.tl; omega)
    rw [decide_eq_true hgt] at a
    have wi : IntKind.i64.wrap ((i : Int) + 1) = ((i + 1 : Nat) : Int) := by rw [IntWalk.i64_in _ (by omega)]; omega
    refine ⟨?s71, ?h71, k, Nat.lt_succ_self _, ?q71⟩
    case h71 =>
      simp (config := { decide := true }) only [theCode_seq, theCode_list, theCode_skip, theCode_ret, theCode_exit, theCode_label, theCode_block, theCode_if, evalList_plain, evalList_guard, evalList_nil, nd_move, nd_assign, nd_pick, nd_alloc, nd_box, nd_build, nd_buildSlice, nd_load, nd_store, nd_nilCheck, nd_binOp, nd_unOp, nd_convert, nd_makeInterface, nd_makeFunc, nd_makeMap, nd_slice, nd_fieldAddr, nd_field, nd_indexAddr, nd_index, nd_lookup, nd_mapUpdate, nd_typeAssert, nd_extract, nd_call, nd_panic,
    ok_tmp, ok_const, ok_func, cl_int, cl_bool, cl_string, cl_ptr, cl_map, cl_nilFunc, cl_nilIface, cl_slice, opA_move, opA_assign, opA_pick, opA_load, opA_store, opA_nilCheck, opA_fieldAddr, opA_extract, opA_bin, opA_un, opA_call, opA_call0, opA_build0, opA_len, opA_appendS, opA_makeMap, opA_indexAddr, opA_sliceHi, opA_sliceLo, opA_sliceLH, opA_lookup, opA_mapUpdate, opA_build, opA_box, opA_alloc, opA_makeFunc0, opA_makeFunc00,
    contA_val, contA_skip, contA_enter, contA_panic, contA_ite, callA_ret, callA_panic, callA_ite, putT_some, putT_none, aev_tmp, aev_const, aev_func, rd_same, rd_ne, List.length_set, valA_some, skipA_some, pairA_some,
    thenA_normal, thenA_ret, thenA_exit, thenA_panic, thenA_ite, inBlockA_normal, inBlockA_ret, inBlockA_exit, inBlockA_panic, inBlockA_ite, boolOf_bool, loadS_ptr, storeS_ptr, nilCheckS_ptr, nilCheckS_func, fieldAddrS_eq, extractS_tuple, un_not,
    bin_lss, bin_leq, bin_gtr, bin_geq, bin_eql, bin_neq, bin_add, bin_sub, bin_mul, bin_seql, bin_sneq, bin_ptr_eql, bin_ptr_neq, bin_nil_eql, bin_nil_neq, callS_plain, callS_func, lenS_slice, leaveR_ite, leaveR_ret, leaveR_normal, leaveR_panic, resA_tmp, resA_nil, yieldA_S, slotAt_succ, slotAt_zero, yieldS_some, List.getElem?_toArray, List.getElem?_cons_zero, List.getElem?_cons_succ, resA_cell, cellRes_ptr, Option.bind_some, theCode_rangeS, rangeS_cap, callS_cap, roundA_M, roundM_ready, roundB_N, roundB_R, roundB_E, roundN_none, roundN_some, rangeEnd_M, rangeM_ready, rangeM_ret, setAll_nil, setAll_cons, pack_one, pack_two, pack_none,
    Option.map_some, Option.isSome_some, ne_eq, not_false_eq_true, ↓reduceIte, Nat.reduceEqDiff, Nat.reduceLT, if_true, if_false, Nat.reduceAdd, Nat.add_zero, Nat.zero_add, Option.some.injEq, decide_eq_true_eq, List.map_cons, List.map_nil, List.all_cons, List.all_nil, Bool.and_true, List.nil_append, List.append_nil, List.cons_append, hl, i1, i2, i3, i9, i10, i11, i12, i13, i14, i15, i19, i25, hlt, a, en8, en9, en10, en11, en12, en13, en14, en15, en16, en17, en18, en19, isl32, isl22, isp23, off38_0, agg3, loadV_flat, eq_self, decide_true, Bool.not_true, Bool.not_false, Bool.false_eq_true, Bool.true_eq_false]
      rfl
    case q71 =>
      refine ⟨_, _, _, i + 1, rfl, by omega, ?_, ?_, ?_, ?_, ?_, ?_, ?_, ?_, ?_, ?_, ?_, ?_, ?_, hW', ⟨F', sA, hU.trans u⟩, wf_leave hwf⟩
      · simp only [List.length_set, hl]
      all_goals simp (config := { decide := true }) only [rd_ne, rd_same, List.length_set, hl, ne_eq, not_false_eq_true, i1, i2, i3, i9, i10, i11, i12, i13, i14, i15, i19, i25, wi]


set_option maxHeartbeats 8000000 in
set_option maxRecDepth 100000 in
theorem blk_a1 {ext : CallT} (hx : ∀ f args H, f ≠ 22 → ext f args H = none) {H0 : AHeap} {va vw : Value} {nm : ByteArray} {tn : Bool} {la : Nat} (hlna : ∀ H2, lenS Try.prog H2 22 va = some (ARes.val (Value.int .i64 la) H2)) (hb : (100 : Int) < la) :
    theCall Try.prog ext 3 [va, vw, .string nm, .bool tn] H0 = some (.ret (.bool true), H0) := by
  refine theCall_run (hx _ _ _ (by decide)) Try.func3 (rs := [.tmp 8]) rfl rfl rfl (by simp) fun tm hl hi => ?_
  replace hl : tm.length = 186 := hl
  have i0 := hi 0
  have i1 := hi 1
  have i2 := hi 2
  have i3 := hi 3
  simp only [List.getD_cons_zero, List.getD_cons_succ] at i0 i1 i2 i3
  simp (config := { decide := true }) only [theCode_seq, theCode_list, theCode_skip, theCode_ret, theCode_exit, theCode_label, theCode_block, theCode_if, evalList_plain, evalList_guard, evalList_nil, nd_move, nd_assign, nd_pick, nd_alloc, nd_box, nd_build, nd_buildSlice, nd_load, nd_store, nd_nilCheck, nd_binOp, nd_unOp, nd_convert, nd_makeInterface, nd_makeFunc, nd_makeMap, nd_slice, nd_fieldAddr, nd_field, nd_indexAddr, nd_index, nd_lookup, nd_mapUpdate, nd_typeAssert, nd_extract, nd_call, nd_panic,
    ok_tmp, ok_const, ok_func, cl_int, cl_bool, cl_string, cl_ptr, cl_map, cl_nilFunc, cl_nilIface, cl_slice, opA_move, opA_assign, opA_pick, opA_load, opA_store, opA_nilCheck, opA_fieldAddr, opA_extract, opA_bin, opA_un, opA_call, opA_call0, opA_build0, opA_len, opA_appendS, opA_makeMap, opA_indexAddr, opA_sliceHi, opA_sliceLo, opA_sliceLH, opA_lookup, opA_mapUpdate, opA_build, opA_box, opA_alloc, opA_makeFunc0, opA_makeFunc00,
    contA_val, contA_skip, contA_enter, contA_panic, contA_ite, callA_ret, callA_panic, callA_ite, putT_some, putT_none, aev_tmp, aev_const, aev_func, rd_same, rd_ne, List.length_set, valA_some, skipA_some, pairA_some,
    thenA_normal, thenA_ret, thenA_exit, thenA_panic, thenA_ite, inBlockA_normal, inBlockA_ret, inBlockA_exit, inBlockA_panic, inBlockA_ite, boolOf_bool, loadS_ptr, storeS_ptr, nilCheckS_ptr, nilCheckS_func, fieldAddrS_eq, extractS_tuple, un_not,
    bin_lss, bin_leq, bin_gtr, bin_geq, bin_eql, bin_neq, bin_add, bin_sub, bin_mul, bin_seql, bin_sneq, bin_ptr_eql, bin_ptr_neq, bin_nil_eql, bin_nil_neq, callS_plain, callS_func, lenS_slice, leaveR_ite, leaveR_ret, leaveR_normal, leaveR_panic, resA_tmp, resA_nil, yieldA_S, slotAt_succ, slotAt_zero, yieldS_some, List.getElem?_toArray, List.getElem?_cons_zero, List.getElem?_cons_succ, resA_cell, cellRes_ptr, Option.bind_some, theCode_rangeS, rangeS_cap, callS_cap, roundA_M, roundM_ready, roundB_N, roundB_R, roundB_E, roundN_none, roundN_some, rangeEnd_M, rangeM_ready, rangeM_ret, setAll_nil, setAll_cons, pack_one, pack_two, pack_none,
    Option.map_some, Option.isSome_some, ne_eq, not_false_eq_true, ↓reduceIte, Nat.reduceEqDiff, Nat.reduceLT, if_true, if_false, Nat.reduceAdd, Nat.add_zero, Nat.zero_add, Option.some.injEq, decide_eq_true_eq, List.map_cons, List.map_nil, List.all_cons, List.all_nil, Bool.and_true, List.nil_append, List.append_nil, List.cons_append, hl, i0, i1, i2, i3, hlna, hb, Bool.true_eq_false]

set_option maxHeartbeats 8000000 in
set_option maxRecDepth 100000 in
theorem blk_a2 {ext : CallT} (hx : ∀ f args H, f ≠ 22 → ext f args H = none) {H0 : AHeap} {va vw : Value} {nm : ByteArray} {tn : Bool} {la : Nat} (hlna : ∀ H2, lenS Try.prog H2 22 va = some (ARes.val (Value.int .i64 la) H2)) (hb : ¬ (100 : Int) < la) {lw : Nat} (hlnw : ∀ H2, lenS Try.prog H2 22 vw = some (ARes.val (Value.int .i64 lw) H2)) (hb2 : (100 : Int) < lw) :
    theCall Try.prog ext 3 [va, vw, .string nm, .bool tn] H0 = some (.ret (.bool true), H0) := by
  refine theCall_run (hx _ _ _ (by decide)) Try.func3 (rs := [.tmp 8]) rfl rfl rfl (by simp) fun tm hl hi => ?_
  replace hl : tm.length = 186 := hl
  have i0 := hi 0
  have i1 := hi 1
  have i2 := hi 2
  have i3 := hi 3
  simp only [List.getD_cons_zero, List.getD_cons_succ] at i0 i1 i2 i3
  simp (config := { decide := true }) only [theCode_seq, theCode_list, theCode_skip, theCode_ret, theCode_exit, theCode_label, theCode_block, theCode_if, evalList_plain, evalList_guard, evalList_nil, nd_move, nd_assign, nd_pick, nd_alloc, nd_box, nd_build, nd_buildSlice, nd_load, nd_store, nd_nilCheck, nd_binOp, nd_unOp, nd_convert, nd_makeInterface, nd_makeFunc, nd_makeMap, nd_slice, nd_fieldAddr, nd_field, nd_indexAddr, nd_index, nd_lookup, nd_mapUpdate, nd_typeAssert, nd_extract, nd_call, nd_panic,
    ok_tmp, ok_const, ok_func, cl_int, cl_bool, cl_string, cl_ptr, cl_map, cl_nilFunc, cl_nilIface, cl_slice, opA_move, opA_assign, opA_pick, opA_load, opA_store, opA_nilCheck, opA_fieldAddr, opA_extract, opA_bin, opA_un, opA_call, opA_call0, opA_build0, opA_len, opA_appendS, opA_makeMap, opA_indexAddr, opA_sliceHi, opA_sliceLo, opA_sliceLH, opA_lookup, opA_mapUpdate, opA_build, opA_box, opA_alloc, opA_makeFunc0, opA_makeFunc00,
    contA_val, contA_skip, contA_enter, contA_panic, contA_ite, callA_ret, callA_panic, callA_ite, putT_some, putT_none, aev_tmp, aev_const, aev_func, rd_same, rd_ne, List.length_set, valA_some, skipA_some, pairA_some,
    thenA_normal, thenA_ret, thenA_exit, thenA_panic, thenA_ite, inBlockA_normal, inBlockA_ret, inBlockA_exit, inBlockA_panic, inBlockA_ite, boolOf_bool, loadS_ptr, storeS_ptr, nilCheckS_ptr, nilCheckS_func, fieldAddrS_eq, extractS_tuple, un_not,
    bin_lss, bin_leq, bin_gtr, bin_geq, bin_eql, bin_neq, bin_add, bin_sub, bin_mul, bin_seql, bin_sneq, bin_ptr_eql, bin_ptr_neq, bin_nil_eql, bin_nil_neq, callS_plain, callS_func, lenS_slice, leaveR_ite, leaveR_ret, leaveR_normal, leaveR_panic, resA_tmp, resA_nil, yieldA_S, slotAt_succ, slotAt_zero, yieldS_some, List.getElem?_toArray, List.getElem?_cons_zero, List.getElem?_cons_succ, resA_cell, cellRes_ptr, Option.bind_some, theCode_rangeS, rangeS_cap, callS_cap, roundA_M, roundM_ready, roundB_N, roundB_R, roundB_E, roundN_none, roundN_some, rangeEnd_M, rangeM_ready, rangeM_ret, setAll_nil, setAll_cons, pack_one, pack_two, pack_none,
    Option.map_some, Option.isSome_some, ne_eq, not_false_eq_true, ↓reduceIte, Nat.reduceEqDiff, Nat.reduceLT, if_true, if_false, Nat.reduceAdd, Nat.add_zero, Nat.zero_add, Option.some.injEq, decide_eq_true_eq, List.map_cons, List.map_nil, List.all_cons, List.all_nil, Bool.and_true, List.nil_append, List.append_nil, List.cons_append, hl, i0, i1, i2, i3, hlna, hb, hlnw, hb2, Bool.false_eq_true]

set_option maxHeartbeats 8000000 in
set_option maxRecDepth 100000 in
theorem blk_a3 {ext : CallT} (hx : ∀ f args H, f ≠ 22 → ext f args H = none) {H0 : AHeap} {va vw : Value} {nm : ByteArray} {tn : Bool} {la : Nat} (hlna : ∀ H2, lenS Try.prog H2 22 va = some (ARes.val (Value.int .i64 la) H2)) (hb : ¬ (100 : Int) < la) {lw : Nat} (hlnw : ∀ H2, lenS Try.prog H2 22 vw = some (ARes.val (Value.int .i64 lw) H2)) (hb2 : ¬ (100 : Int) < lw) {H1 H2 H3 H4 H5 H6 H7 : AHeap} {p r1 r2 v1 r6 : Value} {fa ft ta te f7 e7 : Int} {fc : Bool}
    (a1 : theCall Try.prog ext 8 [] H0 = some (.ret p, H1)) (a2 : theCall Try.prog ext 9 [p, va] H1 = some (.ret (.tuple #[r1, r2]), H2))
    (a3 : theCall Try.prog ext 10 [p, .string nm] H2 = some (.ret (.tuple #[.int .i64 fa, .int .i64 ft, .bool fc]), H3)) (a4 : theCall Try.prog ext 11 [p, .string nm, .bool tn] H3 = some (.ret (.tuple #[.int .i64 ta, .int .i64 te]), H4))
    (a5 : theCall Try.prog ext 12 [p] H4 = some (.ret v1, H5)) (a6 : theCall Try.prog ext 13 [p] H5 = some (.ret r6, H6)) (a7 : theCall Try.prog ext 14 [p, .string ⟨#[105, 110, 110, 101, 114, 32, 108, 97, 98, 101, 108]⟩, .bool true] H6 = some (.ret (.tuple #[.int .i64 f7, .int .i64 e7]), H7)) {H8 : AHeap} (a8 : theCall Try.prog ext 15 [] H7 = some (.ret (.bool true), H8)) (he : ¬ e7 = 0) :
    theCall Try.prog ext 3 [va, vw, .string nm, .bool tn] H0 = some (.ret (.bool true), H8) := by
  refine theCall_run (hx _ _ _ (by decide)) Try.func3 (rs := [.tmp 8]) rfl rfl rfl (by simp) fun tm hl hi => ?_
  replace hl : tm.length = 186 := hl
  have i0 := hi 0
  have i1 := hi 1
  have i2 := hi 2
  have i3 := hi 3
  simp only [List.getD_cons_zero, List.getD_cons_succ] at i0 i1 i2 i3
  simp (config := { decide := true }) only [theCode_seq, theCode_list, theCode_skip, theCode_ret, theCode_exit, theCode_label, theCode_block, theCode_if, evalList_plain, evalList_guard, evalList_nil, nd_move, nd_assign, nd_pick, nd_alloc, nd_box, nd_build, nd_buildSlice, nd_load, nd_store, nd_nilCheck, nd_binOp, nd_unOp, nd_convert, nd_makeInterface, nd_makeFunc, nd_makeMap, nd_slice, nd_fieldAddr, nd_field, nd_indexAddr, nd_index, nd_lookup, nd_mapUpdate, nd_typeAssert, nd_extract, nd_call, nd_panic,
    ok_tmp, ok_const, ok_func, cl_int, cl_bool, cl_string, cl_ptr, cl_map, cl_nilFunc, cl_nilIface, cl_slice, opA_move, opA_assign, opA_pick, opA_load, opA_store, opA_nilCheck, opA_fieldAddr, opA_extract, opA_bin, opA_un, opA_call, opA_call0, opA_build0, opA_len, opA_appendS, opA_makeMap, opA_indexAddr, opA_sliceHi, opA_sliceLo, opA_sliceLH, opA_lookup, opA_mapUpdate, opA_build, opA_box, opA_alloc, opA_makeFunc0, opA_makeFunc00,
    contA_val, contA_skip, contA_enter, contA_panic, contA_ite, callA_ret, callA_panic, callA_ite, putT_some, putT_none, aev_tmp, aev_const, aev_func, rd_same, rd_ne, List.length_set, valA_some, skipA_some, pairA_some,
    thenA_normal, thenA_ret, thenA_exit, thenA_panic, thenA_ite, inBlockA_normal, inBlockA_ret, inBlockA_exit, inBlockA_panic, inBlockA_ite, boolOf_bool, loadS_ptr, storeS_ptr, nilCheckS_ptr, nilCheckS_func, fieldAddrS_eq, extractS_tuple, un_not,
    bin_lss, bin_leq, bin_gtr, bin_geq, bin_eql, bin_neq, bin_add, bin_sub, bin_mul, bin_seql, bin_sneq, bin_ptr_eql, bin_ptr_neq, bin_nil_eql, bin_nil_neq, callS_plain, callS_func, lenS_slice, leaveR_ite, leaveR_ret, leaveR_normal, leaveR_panic, resA_tmp, resA_nil, yieldA_S, slotAt_succ, slotAt_zero, yieldS_some, List.getElem?_toArray, List.getElem?_cons_zero, List.getElem?_cons_succ, resA_cell, cellRes_ptr, Option.bind_some, theCode_rangeS, rangeS_cap, callS_cap, roundA_M, roundM_ready, roundB_N, roundB_R, roundB_E, roundN_none, roundN_some, rangeEnd_M, rangeM_ready, rangeM_ret, setAll_nil, setAll_cons, pack_one, pack_two, pack_none,
    Option.map_some, Option.isSome_some, ne_eq, not_false_eq_true, ↓reduceIte, Nat.reduceEqDiff, Nat.reduceLT, if_true, if_false, Nat.reduceAdd, Nat.add_zero, Nat.zero_add, Option.some.injEq, decide_eq_true_eq, List.map_cons, List.map_nil, List.all_cons, List.all_nil, Bool.and_true, List.nil_append, List.append_nil, List.cons_append, hl, i0, i1, i2, i3, hlna, hb, hlnw, hb2, a1, a2, a3, a4, a5, a6, a7, a8, he, en8, en9, en10, en11, en12, en13, en14, en15, en16, en17, en18, en19, isl32, isl22, isp23, off38_0, agg3, loadV_flat, eq_self, decide_true, Bool.not_true, Bool.not_false, Bool.false_eq_true, Bool.true_eq_false]


set_option maxHeartbeats 8000000 in
set_option maxRecDepth 100000 in
theorem blk_s1 {ext : CallT} (hx : ∀ f args H, f ≠ 22 → ext f args H = none) {H0 : AHeap} {va vw : Value} {nm : ByteArray} {tn : Bool} {tm : List Value} (hl : tm.length = 186) (i0 : tm.getD 0 undef = va) (i1 : tm.getD 1 undef = vw) (i2 : tm.getD 2 undef = .string nm) (i3 : tm.getD 3 undef = .bool tn) {la : Nat} (hlna : ∀ H2, lenS Try.prog H2 22 va = some (ARes.val (Value.int .i64 la) H2)) (hb : ¬ (100 : Int) < la) {lw : Nat} (hlnw : ∀ H2, lenS Try.prog H2 22 vw = some (ARes.val (Value.int .i64 lw) H2)) (hb2 : ¬ (100 : Int) < lw) {H1 H2 H3 H4 H5 H6 H7 : AHeap} {p r1 r2 v1 r6 : Value} {fa ft ta te f7 e7 : Int} {fc : Bool}
    (a1 : theCall Try.prog ext 8 [] H0 = some (.ret p, H1)) (a2 : theCall Try.prog ext 9 [p, va] H1 = some (.ret (.tuple #[r1, r2]), H2))
    (a3 : theCall Try.prog ext 10 [p, .string nm] H2 = some (.ret (.tuple #[.int .i64 fa, .int .i64 ft, .bool fc]), H3)) (a4 : theCall Try.prog ext 11 [p, .string nm, .bool tn] H3 = some (.ret (.tuple #[.int .i64 ta, .int .i64 te]), H4))
    (a5 : theCall Try.prog ext 12 [p] H4 = some (.ret v1, H5)) (a6 : theCall Try.prog ext 13 [p] H5 = some (.ret r6, H6)) (a7 : theCall Try.prog ext 14 [p, .string ⟨#[105, 110, 110, 101, 114, 32, 108, 97, 98, 101, 108]⟩, .bool true] H6 = some (.ret (.tuple #[.int .i64 f7, .int .i64 e7]), H7)) (he : e7 = 0) :
    ∃ tm', theList Try.prog ext false ((seqsF Try.f3).take 14) ⟨tm, [], H0⟩ = some (.normal, ⟨tm', [], H7⟩) ∧ tm'.length = 186 ∧ tm'.getD 1 undef = vw ∧ tm'.getD 2 undef = .string nm ∧ tm'.getD 3 undef = .bool tn ∧ tm'.getD 9 undef = p ∧ tm'.getD 10 undef = .int .i64 fa ∧ tm'.getD 11 undef = .int .i64 ft ∧ tm'.getD 12 undef = .bool fc ∧ tm'.getD 13 undef = .int .i64 ta ∧ tm'.getD 14 undef = .int .i64 te ∧ tm'.getD 15 undef = v1 ∧ tm'.getD 18 undef = .int .i64 1 ∧ tm'.getD 19 undef = .int .i64 1 ∧ tm'.getD 20 undef = .int .i64 0 := by
  have hc : (seqsF Try.f3).take 14 = [_, _, _, _, _, _, _, _, _, _, _, _, _, _] := rfl
  rw [hc]
  refine ⟨?tm, ?h, ?q⟩
  case h =>
    simp (config := { decide := true }) only [theList_cons, theList_nil, theCode_seq, theCode_list, theCode_skip, theCode_ret, theCode_exit, theCode_label, theCode_block, theCode_if, evalList_plain, evalList_guard, evalList_nil, nd_move, nd_assign, nd_pick, nd_alloc, nd_box, nd_build, nd_buildSlice, nd_load, nd_store, nd_nilCheck, nd_binOp, nd_unOp, nd_convert, nd_makeInterface, nd_makeFunc, nd_makeMap, nd_slice, nd_fieldAddr, nd_field, nd_indexAddr, nd_index, nd_lookup, nd_mapUpdate, nd_typeAssert, nd_extract, nd_call, nd_panic,
    ok_tmp, ok_const, ok_func, cl_int, cl_bool, cl_string, cl_ptr, cl_map, cl_nilFunc, cl_nilIface, cl_slice, opA_move, opA_assign, opA_pick, opA_load, opA_store, opA_nilCheck, opA_fieldAddr, opA_extract, opA_bin, opA_un, opA_call, opA_call0, opA_build0, opA_len, opA_appendS, opA_makeMap, opA_indexAddr, opA_sliceHi, opA_sliceLo, opA_sliceLH, opA_lookup, opA_mapUpdate, opA_build, opA_box, opA_alloc, opA_makeFunc0, opA_makeFunc00,
    contA_val, contA_skip, contA_enter, contA_panic, contA_ite, callA_ret, callA_panic, callA_ite, putT_some, putT_none, aev_tmp, aev_const, aev_func, rd_same, rd_ne, List.length_set, valA_some, skipA_some, pairA_some,
    thenA_normal, thenA_ret, thenA_exit, thenA_panic, thenA_ite, inBlockA_normal, inBlockA_ret, inBlockA_exit, inBlockA_panic, inBlockA_ite, boolOf_bool, loadS_ptr, storeS_ptr, nilCheckS_ptr, nilCheckS_func, fieldAddrS_eq, extractS_tuple, un_not,
    bin_lss, bin_leq, bin_gtr, bin_geq, bin_eql, bin_neq, bin_add, bin_sub, bin_mul, bin_seql, bin_sneq, bin_ptr_eql, bin_ptr_neq, bin_nil_eql, bin_nil_neq, callS_plain, callS_func, lenS_slice, leaveR_ite, leaveR_ret, leaveR_normal, leaveR_panic, resA_tmp, resA_nil, yieldA_S, slotAt_succ, slotAt_zero, yieldS_some, List.getElem?_toArray, List.getElem?_cons_zero, List.getElem?_cons_succ, resA_cell, cellRes_ptr, Option.bind_some, theCode_rangeS, rangeS_cap, callS_cap, roundA_M, roundM_ready, roundB_N, roundB_R, roundB_E, roundN_none, roundN_some, rangeEnd_M, rangeM_ready, rangeM_ret, setAll_nil, setAll_cons, pack_one, pack_two, pack_none,
    Option.map_some, Option.isSome_some, ne_eq, not_false_eq_true, ↓reduceIte, Nat.reduceEqDiff, Nat.reduceLT, if_true, if_false, Nat.reduceAdd, Nat.add_zero, Nat.zero_add, Option.some.injEq, decide_eq_true_eq, List.map_cons, List.map_nil, List.all_cons, List.all_nil, Bool.and_true, List.nil_append, List.append_nil, List.cons_append, hl, i0, i1, i2, i3, hlna, hb, hlnw, hb2, a1, a2, a3, a4, a5, a6, a7, he, en8, en9, en10, en11, en12, en13, en14, en15, en16, en17, en18, en19, isl32, isl22, isp23, off38_0, agg3, loadV_flat, eq_self, decide_true, Bool.not_true, Bool.not_false, Bool.false_eq_true, Bool.true_eq_false]
    rfl
  case q =>
    refine ⟨by simp only [List.length_set, hl], ?_, ?_, ?_, ?_, ?_, ?_, ?_, ?_, ?_, ?_, ?_, ?_, ?_⟩
    all_goals simp (config := { decide := true }) only [rd_ne, rd_same, List.length_set, hl, ne_eq, not_false_eq_true, i0, i1, i2, i3]


set_option maxHeartbeats 8000000 in
set_option maxRecDepth 100000 in
theorem blk_s2 {ext : CallT} {vw v1 p : Value} {nm : ByteArray} {fa ft ta te : Int} {fc tn : Bool} {tm : List Value} {H : AHeap} {nb nt : Int} (hl : tm.length = 186) (i1 : tm.getD 1 undef = vw) (i2 : tm.getD 2 undef = .string nm) (i3 : tm.getD 3 undef = .bool tn) (i9 : tm.getD 9 undef = p) (i10 : tm.getD 10 undef = .int .i64 fa) (i11 : tm.getD 11 undef = .int .i64 ft) (i12 : tm.getD 12 undef = .bool fc) (i13 : tm.getD 13 undef = .int .i64 ta) (i14 : tm.getD 14 undef = .int .i64 te) (i15 : tm.getD 15 undef = v1) (i18 : tm.getD 18 undef = .int .i64 nb) (i19 : tm.getD 19 undef = .int .i64 nt) :
    ∃ tm', theList Try.prog ext false (((seqsF Try.f3).drop 15).take 1) ⟨tm, [], H⟩ = some (.normal, ⟨tm', [], H⟩) ∧ tm'.length = 186 ∧ tm'.getD 1 undef = vw ∧ tm'.getD 2 undef = .string nm ∧ tm'.getD 3 undef = .bool tn ∧ tm'.getD 9 undef = p ∧ tm'.getD 10 undef = .int .i64 fa ∧ tm'.getD 11 undef = .int .i64 ft ∧ tm'.getD 12 undef = .bool fc ∧ tm'.getD 13 undef = .int .i64 ta ∧ tm'.getD 14 undef = .int .i64 te ∧ tm'.getD 15 undef = v1 ∧ tm'.getD 18 undef = .int .i64 nb ∧ tm'.getD 19 undef = .int .i64 nt ∧ tm'.getD 24 undef = .int .i64 0 := by
  have hc : ((seqsF Try.f3).drop 15).take 1 = [_] := rfl
  rw [hc]
  refine ⟨?tm, ?h, ?q⟩
  case h =>
    simp (config := { decide := true }) only [theList_cons, theList_nil, theCode_seq, theCode_list, theCode_skip, theCode_ret, theCode_exit, theCode_label, theCode_block, theCode_if, evalList_plain, evalList_guard, evalList_nil, nd_move, nd_assign, nd_pick, nd_alloc, nd_box, nd_build, nd_buildSlice, nd_load, nd_store, nd_nilCheck, nd_binOp, nd_unOp, nd_convert, nd_makeInterface, nd_makeFunc, nd_makeMap, nd_slice, nd_fieldAddr, nd_field, nd_indexAddr, nd_index, nd_lookup, nd_mapUpdate, nd_typeAssert, nd_extract, nd_call, nd_panic,
    ok_tmp, ok_const, ok_func, cl_int, cl_bool, cl_string, cl_ptr, cl_map, cl_nilFunc, cl_nilIface, cl_slice, opA_move, opA_assign, opA_pick, opA_load, opA_store, opA_nilCheck, opA_fieldAddr, opA_extract, opA_bin, opA_un, opA_call, opA_call0, opA_build0, opA_len, opA_appendS, opA_makeMap, opA_indexAddr, opA_sliceHi, opA_sliceLo, opA_sliceLH, opA_lookup, opA_mapUpdate, opA_build, opA_box, opA_alloc, opA_makeFunc0, opA_makeFunc00,
    contA_val, contA_skip, contA_enter, contA_panic, contA_ite, callA_ret, callA_panic, callA_ite, putT_some, putT_none, aev_tmp, aev_const, aev_func, rd_same, rd_ne, List.length_set, valA_some, skipA_some, pairA_some,
    thenA_normal, thenA_ret, thenA_exit, thenA_panic, thenA_ite, inBlockA_normal, inBlockA_ret, inBlockA_exit, inBlockA_panic, inBlockA_ite, boolOf_bool, loadS_ptr, storeS_ptr, nilCheckS_ptr, nilCheckS_func, fieldAddrS_eq, extractS_tuple, un_not,
    bin_lss, bin_leq, bin_gtr, bin_geq, bin_eql, bin_neq, bin_add, bin_sub, bin_mul, bin_seql, bin_sneq, bin_ptr_eql, bin_ptr_neq, bin_nil_eql, bin_nil_neq, callS_plain, callS_func, lenS_slice, leaveR_ite, leaveR_ret, leaveR_normal, leaveR_panic, resA_tmp, resA_nil, yieldA_S, slotAt_succ, slotAt_zero, yieldS_some, List.getElem?_toArray, List.getElem?_cons_zero, List.getElem?_cons_succ, resA_cell, cellRes_ptr, Option.bind_some, theCode_rangeS, rangeS_cap, callS_cap, roundA_M, roundM_ready, roundB_N, roundB_R, roundB_E, roundN_none, roundN_some, rangeEnd_M, rangeM_ready, rangeM_ret, setAll_nil, setAll_cons, pack_one, pack_two, pack_none,
    Option.map_some, Option.isSome_some, ne_eq, not_false_eq_true, ↓reduceIte, Nat.reduceEqDiff, Nat.reduceLT, if_true, if_false, Nat.reduceAdd, Nat.add_zero, Nat.zero_add, Option.some.injEq, decide_eq_true_eq, List.map_cons, List.map_nil, List.all_cons, List.all_nil, Bool.and_true, List.nil_append, List.append_nil, List.cons_append, hl, i1, i2, i3, i9, i10, i11, i12, i13, i14, i15, i18, i19]
    rfl
  case q =>
    refine ⟨by simp only [List.length_set, hl], ?_, ?_, ?_, ?_, ?_, ?_, ?_, ?_, ?_, ?_, ?_, ?_, ?_⟩
    all_goals simp (config := { decide := true }) only [rd_ne, rd_same, List.length_set, hl, ne_eq, not_false_eq_true, i1, i2, i3, i9, i10, i11, i12, i13, i14, i15, i18, i19]


set_option maxHeartbeats 8000000 in
set_option maxRecDepth 100000 in
theorem blk_s3 {ext : CallT} {vw v1 p : Value} {nm : ByteArray} {fa ft ta te : Int} {fc tn : Bool} {tm : List Value} {H : AHeap} {nb nt : Int} (hl : tm.length = 186) (i1 : tm.getD 1 undef = vw) (i2 : tm.getD 2 undef = .string nm) (i3 : tm.getD 3 undef = .bool tn) (i9 : tm.getD 9 undef = p) (i10 : tm.getD 10 undef = .int .i64 fa) (i11 : tm.getD 11 undef = .int .i64 ft) (i12 : tm.getD 12 undef = .bool fc) (i13 : tm.getD 13 undef = .int .i64 ta) (i14 : tm.getD 14 undef = .int .i64 te) (i15 : tm.getD 15 undef = v1) (i19 : tm.getD 19 undef = .int .i64 nt) :
    ∃ tm', theList Try.prog ext false (((seqsF Try.f3).drop 17).take 1) ⟨tm, [], H⟩ = some (.normal, ⟨tm', [], H⟩) ∧ tm'.length = 186 ∧ tm'.getD 1 undef = vw ∧ tm'.getD 2 undef = .string nm ∧ tm'.getD 3 undef = .bool tn ∧ tm'.getD 9 undef = p ∧ tm'.getD 10 undef = .int .i64 fa ∧ tm'.getD 11 undef = .int .i64 ft ∧ tm'.getD 12 undef = .bool fc ∧ tm'.getD 13 undef = .int .i64 ta ∧ tm'.getD 14 undef = .int .i64 te ∧ tm'.getD 15 undef = v1 ∧ tm'.getD 19 undef = .int .i64 nt ∧ tm'.getD 25 undef = .int .i64 0 := by
  have hc : ((seqsF Try.f3).drop 17).take 1 = [_] := rfl
  rw [hc]
  refine ⟨?tm, ?h, ?q⟩
  case h =>
    simp (config := { decide := true }) only [theList_cons, theList_nil, theCode_seq, theCode_list, theCode_skip, theCode_ret, theCode_exit, theCode_label, theCode_block, theCode_if, evalList_plain, evalList_guard, evalList_nil, nd_move, nd_assign, nd_pick, nd_alloc, nd_box, nd_build, nd_buildSlice, nd_load, nd_store, nd_nilCheck, nd_binOp, nd_unOp, nd_convert, nd_makeInterface, nd_makeFunc, nd_makeMap, nd_slice, nd_fieldAddr, nd_field, nd_indexAddr, nd_index, nd_lookup, nd_mapUpdate, nd_typeAssert, nd_extract, nd_call, nd_panic,
    ok_tmp, ok_const, ok_func, cl_int, cl_bool, cl_string, cl_ptr, cl_map, cl_nilFunc, cl_nilIface, cl_slice, opA_move, opA_assign, opA_pick, opA_load, opA_store, opA_nilCheck, opA_fieldAddr, opA_extract, opA_bin, opA_un, opA_call, opA_call0, opA_build0, opA_len, opA_appendS, opA_makeMap, opA_indexAddr, opA_sliceHi, opA_sliceLo, opA_sliceLH, opA_lookup, opA_mapUpdate, opA_build, opA_box, opA_alloc, opA_makeFunc0, opA_makeFunc00,
    contA_val, contA_skip, contA_enter, contA_panic, contA_ite, callA_ret, callA_panic, callA_ite, putT_some, putT_none, aev_tmp, aev_const, aev_func, rd_same, rd_ne, List.length_set, valA_some, skipA_some, pairA_some,
    thenA_normal, thenA_ret, thenA_exit, thenA_panic, thenA_ite, inBlockA_normal, inBlockA_ret, inBlockA_exit, inBlockA_panic, inBlockA_ite, boolOf_bool, loadS_ptr, storeS_ptr, nilCheckS_ptr, nilCheckS_func, fieldAddrS_eq, extractS_tuple, un_not,
    bin_lss, bin_leq, bin_gtr, bin_geq, bin_eql, bin_neq, bin_add, bin_sub, bin_mul, bin_seql, bin_sneq, bin_ptr_eql, bin_ptr_neq, bin_nil_eql, bin_nil_neq, callS_plain, callS_func, lenS_slice, leaveR_ite, leaveR_ret, leaveR_normal, leaveR_panic, resA_tmp, resA_nil, yieldA_S, slotAt_succ, slotAt_zero, yieldS_some, List.getElem?_toArray, List.getElem?_cons_zero, List.getElem?_cons_succ, resA_cell, cellRes_ptr, Option.bind_some, theCode_rangeS, rangeS_cap, callS_cap, roundA_M, roundM_ready, roundB_N, roundB_R, roundB_E, roundN_none, roundN_some, rangeEnd_M, rangeM_ready, rangeM_ret, setAll_nil, setAll_cons, pack_one, pack_two, pack_none,
    Option.map_some, Option.isSome_some, ne_eq, not_false_eq_true, ↓reduceIte, Nat.reduceEqDiff, Nat.reduceLT, if_true, if_false, Nat.reduceAdd, Nat.add_zero, Nat.zero_add, Option.some.injEq, decide_eq_true_eq, List.map_cons, List.map_nil, List.all_cons, List.all_nil, Bool.and_true, List.nil_append, List.append_nil, List.cons_append, hl, i1, i2, i3, i9, i10, i11, i12, i13, i14, i15, i19]
    rfl
  case q =>
    refine ⟨by simp only [List.length_set, hl], ?_, ?_, ?_, ?_, ?_, ?_, ?_, ?_, ?_, ?_, ?_, ?_⟩
    all_goals simp (config := { decide := true }) only [rd_ne, rd_same, List.length_set, hl, ne_eq, not_false_eq_true, i1, i2, i3, i9, i10, i11, i12, i13, i14, i15, i19]


set_option maxHeartbeats 8000000 in
set_option maxRecDepth 100000 in
theorem blk_s4 {ext : CallT} {vw v1 p : Value} {nm : ByteArray} {fa ft ta te : Int} {fc tn : Bool} {tm : List Value} {H : AHeap} {nb nt : Int} (hl : tm.length = 186) (hx : ∀ f args H, f ≠ 22 → ext f args H = none) (i1 : tm.getD 1 undef = vw) (i2 : tm.getD 2 undef = .string nm) (i3 : tm.getD 3 undef = .bool tn) (i9 : tm.getD 9 undef = p) (i10 : tm.getD 10 undef = .int .i64 fa) (i11 : tm.getD 11 undef = .int .i64 ft) (i12 : tm.getD 12 undef = .bool fc) (i13 : tm.getD 13 undef = .int .i64 ta) (i14 : tm.getD 14 undef = .int .i64 te) (i15 : tm.getD 15 undef = v1) {H8 H9 Hx Hy : AHeap} {v2 v3 : Value} {n m : Nat} (b1 : theCall Try.prog ext 10 [p, .string nm] H = some (.ret (.tuple #[.int .i64 fa, .int .i64 ft, .bool fc]), H8)) (b2 : theCall Try.prog ext 11 [p, .string nm, .bool tn] H8 = some (.ret (.tuple #[.int .i64 ta, .int .i64 te]), H9))
    (b3 : theCall Try.prog ext 12 [p] H9 = some (.ret v2, Hx)) (d1 : ∀ H2, lenS Try.prog H2 32 v2 = some (ARes.val (.int .i64 n) H2)) (c1 : ∀ H2, lenS Try.prog H2 32 v1 = some (ARes.val (.int .i64 m) H2)) (hge : (m : Int) ≤ n)
    (b4 : sliceS Try.prog Hx 32 v2 none (some (.int .i64 m)) = some (.val v3 Hx)) (b5 : theCall Try.prog ext 19 [v3, v1] Hx = some (.ret (.bool true), Hx)) (b6 : theCall Try.prog ext 15 [] Hx = some (.ret (.bool true), Hy)) :
    leaveR Try.prog [.tmp 8] (theList Try.prog ext false ((seqsF Try.f3).drop 19) ⟨tm, [], H⟩) = some (.ret (.bool true), Hy) := by
  have hc : (seqsF Try.f3).drop 19 = [_, _, _, _, _] := rfl
  rw [hc]
  simp (config := { decide := true }) only [theList_cons, theList_nil, theCode_seq, theCode_list, theCode_skip, theCode_ret, theCode_exit, theCode_label, theCode_block, theCode_if, evalList_plain, evalList_guard, evalList_nil, nd_move, nd_assign, nd_pick, nd_alloc, nd_box, nd_build, nd_buildSlice, nd_load, nd_store, nd_nilCheck, nd_binOp, nd_unOp, nd_convert, nd_makeInterface, nd_makeFunc, nd_makeMap, nd_slice, nd_fieldAddr, nd_field, nd_indexAddr, nd_index, nd_lookup, nd_mapUpdate, nd_typeAssert, nd_extract, nd_call, nd_panic,
    ok_tmp, ok_const, ok_func, cl_int, cl_bool, cl_string, cl_ptr, cl_map, cl_nilFunc, cl_nilIface, cl_slice, opA_move, opA_assign, opA_pick, opA_load, opA_store, opA_nilCheck, opA_fieldAddr, opA_extract, opA_bin, opA_un, opA_call, opA_call0, opA_build0, opA_len, opA_appendS, opA_makeMap, opA_indexAddr, opA_sliceHi, opA_sliceLo, opA_sliceLH, opA_lookup, opA_mapUpdate, opA_build, opA_box, opA_alloc, opA_makeFunc0, opA_makeFunc00,
    contA_val, contA_skip, contA_enter, contA_panic, contA_ite, callA_ret, callA_panic, callA_ite, putT_some, putT_none, aev_tmp, aev_const, aev_func, rd_same, rd_ne, List.length_set, valA_some, skipA_some, pairA_some,
    thenA_normal, thenA_ret, thenA_exit, thenA_panic, thenA_ite, inBlockA_normal, inBlockA_ret, inBlockA_exit, inBlockA_panic, inBlockA_ite, boolOf_bool, loadS_ptr, storeS_ptr, nilCheckS_ptr, nilCheckS_func, fieldAddrS_eq, extractS_tuple, un_not,
    bin_lss, bin_leq, bin_gtr, bin_geq, bin_eql, bin_neq, bin_add, bin_sub, bin_mul, bin_seql, bin_sneq, bin_ptr_eql, bin_ptr_neq, bin_nil_eql, bin_nil_neq, callS_plain, callS_func, lenS_slice, leaveR_ite, leaveR_ret, leaveR_normal, leaveR_panic, resA_tmp, resA_nil, yieldA_S, slotAt_succ, slotAt_zero, yieldS_some, List.getElem?_toArray, List.getElem?_cons_zero, List.getElem?_cons_succ, resA_cell, cellRes_ptr, Option.bind_some, theCode_rangeS, rangeS_cap, callS_cap, roundA_M, roundM_ready, roundB_N, roundB_R, roundB_E, roundN_none, roundN_some, rangeEnd_M, rangeM_ready, rangeM_ret, setAll_nil, setAll_cons, pack_one, pack_two, pack_none,
    Option.map_some, Option.isSome_some, ne_eq, not_false_eq_true, ↓reduceIte, Nat.reduceEqDiff, Nat.reduceLT, if_true, if_false, Nat.reduceAdd, Nat.add_zero, Nat.zero_add, Option.some.injEq, decide_eq_true_eq, List.map_cons, List.map_nil, List.all_cons, List.all_nil, Bool.and_true, List.nil_append, List.append_nil, List.cons_append, hl, i1, i2, i3, i9, i10, i11, i12, i13, i14, i15, b1, b2, b3, b4, b5, b6, c1, d1, hge, sli32, bin_beql ub4, beq_self_eq_true, en8, en9, en10, en11, en12, en13, en14, en15, en16, en17, en18, en19, isl32, isl22, isp23, off38_0, agg3, loadV_flat, eq_self, decide_true, Bool.not_true, Bool.not_false, Bool.false_eq_true, Bool.true_eq_false]


set_option maxHeartbeats 8000000 in
set_option maxRecDepth 100000 in
theorem blocks3 {ext : CallT} (hx : ∀ f args H, f ≠ 22 → ext f args H = none) {H0 : AHeap} (hf0 : H0.Fresh) {va vw : Value} {la lw : List Stp} (hsa : Scr H0 va la) (hsw : Scr H0 vw lw) (nm : ByteArray) (tn : Bool) :
    ∃ H', theCall Try.prog ext 3 [va, vw, .string nm, .bool tn] H0 = some (.ret (.bool true), H') := by
  have hlna := hsa.len
  have hlnw := hsw.len
  by_cases hb1 : (100 : Int) < la.length
  · exact ⟨H0, blk_a1 hx hlna hb1⟩
  by_cases hb2 : (100 : Int) < lw.length
  · exact ⟨H0, blk_a2 hx hlna hb1 hlnw hb2⟩
  obtain ⟨H1, F1, a1, s1, g1, f1⟩ := new8 (ext := ext) hx hf0
  obtain ⟨H2, a2, F2, s2, u2⟩ := run9 (ext := ext) hx g1.fresh (n := 0) s1 wf_sc0 (hsa.grown hf0 g1) (fun hl e => by have := f1 _ e; have := hsa.blk_lt hf0 hl; omega) (by omega)
  have hw0 : (runL sc0 la).wf la.length := by have := wf_runL la wf_sc0; rwa [Nat.zero_add] at this
  obtain ⟨σ0, hσ0⟩ : ∃ σ, σ = runL sc0 la := ⟨_, rfl⟩
  rw [← hσ0] at hw0 s2
  obtain ⟨H3, a3, g3⟩ := find10 (ext := ext) hx u2.fresh s2 hw0.ok (by have := hw0.bl; omega) (by have := hw0.yl; omega) nm
  obtain ⟨H4, a4, g4⟩ := target11 (ext := ext) hx g3.fresh (s2.grown u2.fresh g3) (by have := hw0.tl; omega) nm tn
  have g34 := g3.trans g4
  obtain ⟨v1, H5, a5, o1, g5, hv1⟩ := slots12 (ext := ext) hx g4.fresh (s2.grown u2.fresh g34) (by have := hw0.yl; omega)
  have g35 := g34.trans g5
  have s5 := s2.grown u2.fresh g35
  obtain ⟨fa, ft, fc, hfv⟩ := findV_shape σ0 nm
  obtain ⟨ta, te, htv⟩ := targV_shape σ0 nm tn
  rw [hfv] at a3
  rw [htv] at a4
  have c1 := fun H2 => o1.lenS isl32 H2
  have f2 : ∀ j, F2 j → H0.next ≤ j := fun j hj => (u2.foot j hj).elim (f1 j) (fun e => Nat.le_trans g1.next e)
  have G5 : Grown H0 H5 := ⟨fun j hj => by
    rw [g35.get j (Nat.lt_of_lt_of_le hj (Nat.le_trans g1.next u2.next)), u2.frame j (fun e => by have := f1 j e; omega) (Nat.lt_of_lt_of_le hj g1.next)]; exact g1.get j hj, Nat.le_trans g1.next (Nat.le_trans u2.next g35.next), g5.fresh⟩
  have hsw5 := hsw.grown hf0 G5
  have hblk : 0 < lw.length → ¬ F2 (baseOf vw).block := fun hl e => by have := f2 _ e; have := hsw.blk_lt hf0 hl; omega
  have hv1F : ∀ j, idOf v1 = some j → ¬ F2 j := fun j hj e => by
    have h1 := hv1 j hj
    have h2 := s2.lt u2.fresh e
    have := g34.next; omega
  obtain ⟨H6, F6, a6, s6, u6⟩ := open13 (ext := ext) hx g5.fresh s5 (by have := hw0.bl; omega)
  have hw6 := wf_open hw0
  obtain ⟨H7, F7, a7, s7, u7⟩ := enter14 (ext := ext) hx u6.fresh s6 (by have := hw6.tl; omega) (by have := hw6.nx; omega) ⟨#[105, 110, 110, 101, 114, 32, 108, 97, 98, 101, 108]⟩ true
  have U7 := u6.trans u7
  cases htw : (Sc.open' σ0).twice ⟨#[105, 110, 110, 101, 114, 32, 108, 97, 98, 101, 108]⟩ with
  | true =>
    rw [show entV2 (Sc.open' σ0) ⟨#[105, 110, 110, 101, 114, 32, 108, 97, 98, 101, 108]⟩ = .tuple #[.int .i64 0, .int .i64 70] by unfold entV2; rw [htw]; rfl] at a7
    obtain ⟨H8, a8, g8⟩ := works15 (ext := ext) hx u7.fresh
    exact ⟨H8, blk_a3 hx hlna hb1 hlnw hb2 a1 a2 a3 a4 a5 a6 a7 a8 (by decide)⟩
  | false =>
  rw [show entV2 (Sc.open' σ0) ⟨#[105, 110, 110, 101, 114, 32, 108, 97, 98, 101, 108]⟩ = .tuple #[.int .i64 (Sc.open' σ0).next, .int .i64 0] by unfold entV2; rw [htw]; rfl] at a7
  have hW7 : Within σ0 ((Sc.open' σ0).enter ⟨#[105, 110, 110, 101, 114, 32, 108, 97, 98, 101, 108]⟩ true) (0 + 1) (0 + 1) := (Within.refl σ0).open.enter _ _ htw
  have hw7 := wf_enter hw6 ⟨#[105, 110, 110, 101, 114, 32, 108, 97, 98, 101, 108]⟩ true
  refine theCall_list (F := fun z => ∃ H', z = some (.ret (.bool true), H')) (hx _ _ _ (by decide)) Try.func3 (rs := [.tmp 8]) rfl rfl rfl (by simp) fun tm hl hi => ?_
  obtain ⟨tm1, e1, l1, x1, x2, x3, x9, x10, x11, x12, x13, x14, x15, x18, x19, x20⟩ := blk_s1 hx hl (hi 0) (hi 1) (hi 2) (hi 3) hlna hb1 hlnw hb2 a1 a2 a3 a4 a5 a6 a7 rfl
  obtain ⟨cA, p1, q1⟩ : ∃ c, (seqsF Try.f3)[14]? = some (.block 0 (.loop c)) ∧ (loopsF Try.f3)[0]? = some c := ⟨_, rfl, rfl⟩
  obtain ⟨cB, p2, q2⟩ : ∃ c, (seqsF Try.f3)[16]? = some (.block 2 (.loop c)) ∧ (loopsF Try.f3)[1]? = some c := ⟨_, rfl, rfl⟩
  obtain ⟨cC, p3, q3⟩ : ∃ c, (seqsF Try.f3)[18]? = some (.block 4 (.loop c)) ∧ (loopsF Try.f3)[2]? = some c := ⟨_, rfl, rfl⟩
  rw [theList_drop (n := 14), e1, thenA_normal, theList_at p1, theCode_block]
  refine loop_use (F := fun z => ∃ H', leaveR Try.prog [.tmp 8] (thenA (inBlockA 0 z) _) = some (.ret (.bool true), H'))
    (I := (fun (k : Nat) (s : St) => ∃ tm H pre post σ, ∃ nb nt : Nat, s = ⟨tm, [], H⟩ ∧ lw = pre ++ post ∧ post.length = k ∧ tm.length = 186 ∧ tm.getD 1 undef = vw ∧ tm.getD 2 undef = .string nm ∧ tm.getD 3 undef = .bool tn ∧ tm.getD 9 undef = .pointer (some ⟨H0.next, 0, none⟩) ∧ tm.getD 10 undef = .int .i64 fa ∧ tm.getD 11 undef = .int .i64 ft ∧ tm.getD 12 undef = .bool fc ∧ tm.getD 13 undef = .int .i64 ta ∧ tm.getD 14 undef = .int .i64 te ∧ tm.getD 15 undef = v1 ∧ tm.getD 18 undef = .int .i64 ((nb : Int) + 1) ∧ tm.getD 19 undef = .int .i64 ((nt : Int) + 1) ∧ tm.getD 20 undef = .int .i64 pre.length ∧ Within σ0 σ (nb + 1) (nt + 1) ∧ USt H5 F2 H H0.next σ ∧ σ.wf (la.length + 2 + pre.length))) (Q := (fun (x : AExit) (s : St) => ∃ tm H σ, ∃ nb nt : Nat, s = ⟨tm, [], H⟩ ∧ x = .exit 0 ∧ tm.length = 186 ∧ tm.getD 1 undef = vw ∧ tm.getD 2 undef = .string nm ∧ tm.getD 3 undef = .bool tn ∧ tm.getD 9 undef = .pointer (some ⟨H0.next, 0, none⟩) ∧ tm.getD 10 undef = .int .i64 fa ∧ tm.getD 11 undef = .int .i64 ft ∧ tm.getD 12 undef = .bool fc ∧ tm.getD 13 undef = .int .i64 ta ∧ tm.getD 14 undef = .int .i64 te ∧ tm.getD 15 undef = v1 ∧ tm.getD 18 undef = .int .i64 ((nb : Int) + 1) ∧ tm.getD 19 undef = .int .i64 ((nt : Int) + 1) ∧ Within σ0 σ (nb + 1) (nt + 1) ∧ USt H5 F2 H H0.next σ ∧ σ.wf (la.length + 2 + lw.length))) (blk_l1 hx hw0 hb1 hb2 g5.fresh hsw5 hblk q1) lw.length ?_ ?_
  · exact ⟨_, _, [], lw, _, 0, 0, rfl, rfl, rfl, l1, x1, x2, x3, x9, x10, x11, x12, x13, x14, x15, x18, x19, x20, hW7, ⟨F7, s7, U7⟩, hw7⟩
  clear x1 x2 x3 x9 x10 x11 x12 x13 x14 x15 x18 x19 x20 l1 e1
  rintro x _ hx' ⟨tm, H, σ, nb, nt, rfl, rfl, hl, i1, i2, i3, i9, i10, i11, i12, i13, i14, i15, i18, i19, hW, hust, hwf⟩
  have hnb : nb < 1000 := by have := hW.bn; have := hwf.bl; omega
  have hnt : nt < 1000 := by have := hW.tn; have := hwf.tl; omega
  obtain ⟨tm1, e1, l1, x1, x2, x3, x9, x10, x11, x12, x13, x14, x15, x18, x19, x24⟩ := blk_s2 (ext := ext) (H := H) hl i1 i2 i3 i9 i10 i11 i12 i13 i14 i15 i18 i19
  rw [inBlockA_exit, if_pos rfl, thenA_normal, theList_drop (n := 1), e1, thenA_normal, List.drop_drop]
  rw [theList_at p2, theCode_block]
  refine loop_use (F := fun z => ∃ H', leaveR Try.prog [.tmp 8] (thenA (inBlockA 2 z) _) = some (.ret (.bool true), H'))
    (I := (fun (k : Nat) (s : St) => ∃ tm H σ i, s = ⟨tm, [], H⟩ ∧ i + k = nb + 1 ∧ tm.length = 186 ∧ tm.getD 1 undef = vw ∧ tm.getD 2 undef = .string nm ∧ tm.getD 3 undef = .bool tn ∧ tm.getD 9 undef = .pointer (some ⟨H0.next, 0, none⟩) ∧ tm.getD 10 undef = .int .i64 fa ∧ tm.getD 11 undef = .int .i64 ft ∧ tm.getD 12 undef = .bool fc ∧ tm.getD 13 undef = .int .i64 ta ∧ tm.getD 14 undef = .int .i64 te ∧ tm.getD 15 undef = v1 ∧ tm.getD 18 undef = .int .i64 ((nb : Int) + 1) ∧ tm.getD 19 undef = .int .i64 ((nt : Int) + 1) ∧ tm.getD 24 undef = .int .i64 (i : Nat) ∧ Within σ0 σ k (nt + 1) ∧ USt H5 F2 H H0.next σ ∧ σ.wf (la.length + 2 + lw.length))) (Q := (fun (x : AExit) (s : St) => ∃ tm H σ, s = ⟨tm, [], H⟩ ∧ x = .exit 2 ∧ tm.length = 186 ∧ tm.getD 1 undef = vw ∧ tm.getD 2 undef = .string nm ∧ tm.getD 3 undef = .bool tn ∧ tm.getD 9 undef = .pointer (some ⟨H0.next, 0, none⟩) ∧ tm.getD 10 undef = .int .i64 fa ∧ tm.getD 11 undef = .int .i64 ft ∧ tm.getD 12 undef = .bool fc ∧ tm.getD 13 undef = .int .i64 ta ∧ tm.getD 14 undef = .int .i64 te ∧ tm.getD 15 undef = v1 ∧ tm.getD 19 undef = .int .i64 ((nt : Int) + 1) ∧ Within σ0 σ 0 (nt + 1) ∧ USt H5 F2 H H0.next σ ∧ σ.wf (la.length + 2 + lw.length))) (blk_l2 hx hw0 hb1 hb2 hnb q2) (nb + 1) ?_ ?_
  · exact ⟨_, _, σ, 0, rfl, by omega, l1, x1, x2, x3, x9, x10, x11, x12, x13, x14, x15, x18, x19, x24, hW, hust, hwf⟩
  clear hust hW hwf e1 l1 x1 x2 x3 x9 x10 x11 x12 x13 x14 x15 x18 x19 x24
  rintro x _ hx' ⟨tm, H, σ, rfl, rfl, hl, i1, i2, i3, i9, i10, i11, i12, i13, i14, i15, i19, hW, hust, hwf⟩
  obtain ⟨tm1, e1, l1, x1, x2, x3, x9, x10, x11, x12, x13, x14, x15, x19, x25⟩ := blk_s3 (ext := ext) (H := H) (nb := 0) hl i1 i2 i3 i9 i10 i11 i12 i13 i14 i15 i19
  rw [inBlockA_exit, if_pos rfl, thenA_normal, theList_drop (n := 1), e1, thenA_normal, List.drop_drop]
  rw [theList_at p3, theCode_block]
  refine loop_use (F := fun z => ∃ H', leaveR Try.prog [.tmp 8] (thenA (inBlockA 4 z) _) = some (.ret (.bool true), H'))
    (I := (fun (k : Nat) (s : St) => ∃ tm H σ i, s = ⟨tm, [], H⟩ ∧ i + k = nt + 1 ∧ tm.length = 186 ∧ tm.getD 1 undef = vw ∧ tm.getD 2 undef = .string nm ∧ tm.getD 3 undef = .bool tn ∧ tm.getD 9 undef = .pointer (some ⟨H0.next, 0, none⟩) ∧ tm.getD 10 undef = .int .i64 fa ∧ tm.getD 11 undef = .int .i64 ft ∧ tm.getD 12 undef = .bool fc ∧ tm.getD 13 undef = .int .i64 ta ∧ tm.getD 14 undef = .int .i64 te ∧ tm.getD 15 undef = v1 ∧ tm.getD 19 undef = .int .i64 ((nt : Int) + 1) ∧ tm.getD 25 undef = .int .i64 (i : Nat) ∧ Within σ0 σ 0 k ∧ USt H5 F2 H H0.next σ ∧ σ.wf (la.length + 2 + lw.length))) (Q := (fun (x : AExit) (s : St) => ∃ tm H σ, s = ⟨tm, [], H⟩ ∧ x = .exit 4 ∧ tm.length = 186 ∧ tm.getD 1 undef = vw ∧ tm.getD 2 undef = .string nm ∧ tm.getD 3 undef = .bool tn ∧ tm.getD 9 undef = .pointer (some ⟨H0.next, 0, none⟩) ∧ tm.getD 10 undef = .int .i64 fa ∧ tm.getD 11 undef = .int .i64 ft ∧ tm.getD 12 undef = .bool fc ∧ tm.getD 13 undef = .int .i64 ta ∧ tm.getD 14 undef = .int .i64 te ∧ tm.getD 15 undef = v1 ∧ Within σ0 σ 0 0 ∧ USt H5 F2 H H0.next σ ∧ σ.wf (la.length + 2 + lw.length))) (blk_l3 hx hw0 hb1 hb2 hnt q3) (nt + 1) ?_ ?_
  · exact ⟨_, _, σ, 0, rfl, by omega, l1, x1, x2, x3, x9, x10, x11, x12, x13, x14, x15, x19, x25, hW, hust, hwf⟩
  clear hust hW hwf e1 l1 x1 x2 x3 x9 x10 x11 x12 x13 x14 x15 x19 x25
  rintro x _ hx' ⟨tm, H, σ, rfl, rfl, hl, i1, i2, i3, i9, i10, i11, i12, i13, i14, i15, hW, hust, hwf⟩
  rw [inBlockA_exit, if_pos rfl, thenA_normal]
  obtain ⟨F, hsA, hU⟩ := hust
  obtain ⟨e1, e2⟩ := hW.same hw0.ok nm nm tn
  obtain ⟨H8, b1, g8⟩ := find10 (ext := ext) hx hU.fresh hsA hwf.ok (by have := hwf.bl; omega) (by have := hwf.yl; omega) nm
  obtain ⟨H9, b2, g9⟩ := target11 (ext := ext) hx g8.fresh (hsA.grown hU.fresh g8) (by have := hwf.tl; omega) nm tn
  obtain ⟨v2, Hx, b3, o2, gx, _⟩ := slots12 (ext := ext) hx g9.fresh (hsA.grown hU.fresh (g8.trans g9)) (by have := hwf.yl; omega)
  rw [e1, hfv] at b1
  rw [e2, htv] at b2
  have d1 := fun H2 => o2.lenS isl32 H2
  obtain ⟨v3, b4, o3⟩ := own_upto (k := .i64) o2 sli32 hW.yn Hx
  rw [Nat.mul_one, ← List.map_take, hW.yl] at o3
  have o1' : Own H 3 1 v1 σ0.types.length (σ0.types.map tyC) := o1.mono fun j hj => hU.frame j (hv1F j hj) (o1.id_lt g5.fresh j hj)
  have o1x := ((g8.trans g9).trans gx).own hU.fresh o1'
  have b5 := same19 (ext := ext) hx o3 o1x (by have := hw0.yl; omega)
  obtain ⟨Hy, b6, _⟩ := works15 (ext := ext) hx gx.fresh
  have hge : ((σ0.types.length : Nat) : Int) ≤ (σ.types.length : Int) := by have := hW.yn; omega
  exact ⟨Hy, blk_s4 (nb := 0) (nt := 0) hl hx i1 i2 i3 i9 i10 i11 i12 i13 i14 i15 b1 b2 b3 d1 c1 hge b4 b5 b6⟩

end Go.Proofs.Ytnjoaffnfjlcaaa

namespace Go.Proofs.Ytnjoaffnfjlcaaa
open Go Go.Proofs B Go.ChangeShapes Go.WideShapes Go.ChangeAt Go.RowKit Go.ChangeMaps

set_option maxRecDepth 100000 in
theorem blocks_lifted (os : Os) (started : os.Started) (H : Type) (enc : TypeId × Value → H) :
    ReturnsInHanded {} Try.checked os 3 .any (Rows.scopeBlocksSpec.pre6 enc Try.prog Try.f3 Rows.scopeBlocksRow.domain false) (Rows.scopeBlocksSpec.post enc Try.prog Try.f3 false true false false) := by
  refine returnsInHanded_of_change (C := Try.checked) Try.own started (by kernel_rfl) Try.func3
    (ChangeSpec.witness6 (enc := enc) (C := Try.checked) false ⟨#[], #[.slice none 0 0, .slice none 0 0, .string ⟨#[]⟩, .bool false], []⟩ 8 (by kernel_rfl) (by kernel_rfl) (by kernel_rfl) (by kernel_rfl)) ?_
  intro W base args ds gs before hval0 hW hcnd _
  have hval : ∀ (j : Nat) t v, Try.f3.params[j]? = some t → args[j]? = some v → Value.okWide Try.prog W .any base t v := hval0
  have hW' := hW
  obtain ⟨p, q, hA0, hV, rfl, hfz, hnd⟩ := hW
  have hA : DataW.TrodAll enc Try.prog W 0 (fun _ => true) true Try.f3.params.toList args.toList ds p := hA0
  rw [Try.params3] at hA hval
  obtain ⟨v0, v1, v2, v3, d0, d1, d2, d3, p0, p1, p2, p3, rfl, rfl, rfl, h0, h1, h2, h3⟩ := trodAll_four hA
  obtain ⟨rfl, rfl⟩ := trodVars_none hV
  obtain ⟨w0, l0, hrel0, hscr0⟩ := script_in (okWide_slice (und_of Try.underlying22) (hval 0 22 v0 rfl rfl)) (fun _ => rfl) h0
  obtain ⟨w1, l1, hrel1, hscr1⟩ := script_in (okWide_slice (und_of Try.underlying22) (hval 1 22 v1 rfl rfl)) (fun _ => rfl) h1
  obtain ⟨a, rfl, rfl, rfl, wa⟩ := open_string Try.underlying9 (hval 2 9 v2 rfl rfl) h2
  obtain ⟨c, rfl, rfl, rfl⟩ := open_bool Try.underlying4 (hval 3 4 v3 rfl rfl) h3
  obtain ⟨H', hcall⟩ := blocks3 (ext := fun _ _ _ => none) (fun _ _ _ _ => rfl) (heapOf_rel Try.prog W).fresh hscr0 hscr1 a c
  refine (entry ext0_ok Try.mixed Try.func3 hcall rfl (.cons hrel0 (.cons hrel1 (.cons (.closed rfl) (.cons (.closed rfl) .nil))))).mono fun e W' ⟨he, hw⟩ => ?_
  subst he
  exact ⟨_, rfl, post_true Try.kids Try.full hW' (by rw [Try.params3]; intro t ht; simp at ht; rcases ht with rfl | rfl | rfl <;> (show _ < Try.prog.types.size; rw [Try.types_size]; decide)) rfl rfl (und_of Try.underlying4) rfl rfl rfl hw⟩

theorem scopeBlocks_holds : Rows.ScopeBlocksSaid :=
  OpenClaim.holds_of_wide 3 Try.f3 rfl rfl rfl rfl rfl rfl rfl ⟨rfl, rfl, rfl, rfl, rfl⟩ rfl rfl rfl rfl rfl (by kernel_rfl) Try.func3 (by kernel_rfl)
    (of_decide_eq_true (by kernel_rfl)) (by unfold Func.isWrapper; rw [if_neg (of_decide_eq_false (by kernel_rfl))]; exact ⟨rfl, rfl⟩)
    (fun os started H enc _ => blocks_lifted os started H enc)

end Go.Proofs.Ytnjoaffnfjlcaaa
