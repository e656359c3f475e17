/-
  Joined by program out of Ops8, Ops10, Ops12, Ops23, RowPlays.
-/
import Derived.Test.YtnjoaffnfjlcaaaM5
import Derived.Test.YtnjoaffnfjlcaaaM6
import Derived.Test.YtnjoaffnfjlcaaaM3
import Derived.Test.YtnjoaffnfjlcaaaM7
namespace Go.Proofs.Ytnjoaffnfjlcaaa
open Go Go.Proofs B


set_option maxRecDepth 100000 in
set_option maxHeartbeats 4000000 in
theorem none6 {ext : CallT} (hx : ∀ f args H, f ≠ 22 → ext f args H = none) (h22 : ∀ H, ext 22 [.pointer none] H = none) {H : AHeap} (hf : H.Fresh) (nm : ByteArray) (ty : Int) (tn : Bool) : ∃ H', theCall Try.prog ext 6 [.string nm, .int .i64 ty, .bool tn] H = some (.ret (.bool true), H') ∧ Grown H H' := by
  have g1 : Grown H ((((H.push (.box [.string nm] 9)).push (.box [.string nm] 9)).push (.box [.bool tn] 4)).push (.box [.string nm] 9)) := (((Grown.push hf _).push2 _).push2 _).push2 _
  obtain ⟨H', hw, gw⟩ := works15 (ext := ext) hx g1.fresh
  refine ⟨H', ?_, g1.trans gw⟩
  refine theCall_lit [.string nm, .int .i64 ty, .bool tn, undef, undef, undef, undef, undef, undef, undef, undef, undef, undef, undef, undef, undef, undef, undef, undef, undef, undef, undef, undef, undef, undef, undef, undef, undef, undef, undef, undef, undef, undef, undef, undef, undef, undef, undef, undef, undef, undef, undef, undef, undef, undef, undef, undef, undef, undef, undef, undef, undef, undef, undef, undef, undef, undef, undef, undef, undef, undef, undef, undef, undef, undef, undef, undef, undef, undef, undef, undef, undef, undef, undef, undef, undef, undef, undef, undef, undef, undef, undef, undef, undef, undef, undef, undef, undef, undef, undef, undef, undef, undef, undef, undef, undef, undef, undef, undef, undef, undef, undef, undef, undef, undef, undef, undef, undef] (hx _ _ _ (by decide)) Try.func6 (rs := [.tmp 6]) rfl rfl rfl ?_
  simp only [theCode_seq, theCode_list, theCode_ret, evalList_plain, evalList_guard, evalList_nil, nd_move, nd_assign, nd_pick, nd_binOp, nd_unOp, nd_extract, nd_call, ok_tmp, ok_const, ok_func, cl_int, cl_bool, cl_ptr, opA_move, opA_assign, opA_pick, opA_extract, opA_bin, opA_un, opA_call, opA_call0, opA_len, contA_val, contA_enter, callA_ret, putT_some, aev_tmp, aev_const, aev_func, List.set_cons_succ, List.set_cons_zero, List.getD_cons_succ, List.getD_cons_zero, valA_some, thenA_normal, boolOf_bool, extractS_tuple, un_not,
    bin_eql, bin_nil_eql, callS_func, lenS_slice, leaveR_ret, resA_tmp, resA_nil, yieldA_S, slotAt_succ, slotAt_zero, yieldS_cons, yieldS_head, List.getElem?_toArray, List.getElem?_cons_zero, List.getElem?_cons_succ, pack_one, Option.map_some, Option.isSome_some, ↓reduceIte, eq_self, decide_true, List.map_cons, List.map_nil, List.all_cons, List.all_nil, Bool.and_true, List.nil_append, List.append_nil, en20, en14, en11, en10, en13, en17, en18, en12, en22, en15, isp23, isl32, nil20 hx, nil14 hx, nil11 hx, nil10 hx, nil13 hx, nil17 hx, nil18 hx, nil12 hx, nil22 (h22 _), hw, Bool.not_false, Int.cast_ofNat_Int]

end Go.Proofs.Ytnjoaffnfjlcaaa

namespace Go.Proofs.Ytnjoaffnfjlcaaa
open Go Go.Proofs B


set_option maxHeartbeats 4000000 in
theorem rises4 {ext : CallT} (hx : ∀ f args H, f ≠ 22 → ext f args H = none) {H0 : AHeap} (hf0 : H0.Fresh) {v : Value} {l : List Stp} (hs : Scr H0 v l) :
    ∃ H', theCall Try.prog ext 4 [v] H0 = some (.ret (.bool true), H') ∧ Grown H0 H' := by
  have hln0 := hs.len
  by_cases hbig : (300 : Int) < l.length
  · refine ⟨H0, ?_, Grown.refl hf0⟩
    refine theCall_run (hx _ _ _ (by decide)) Try.func4 (rs := [.tmp 2]) rfl rfl rfl (by simp) fun tm hl hi => ?_
    replace hl : tm.length = 150 := hl
    have i0 := hi 0
    simp only [List.getD_cons_zero] at i0
    simp (config := { decide := true }) only [theCode_seq, theCode_list, theCode_ret, theCode_block, theCode_if, evalList_plain, evalList_nil, nd_move, nd_assign, nd_binOp, nd_call, ok_tmp, ok_const, ok_func, cl_int, cl_bool, opA_move, opA_assign, opA_bin, opA_call, opA_call0, opA_len, contA_val, contA_enter, putT_some, aev_tmp, aev_const, aev_func, rd_same, rd_ne, List.length_set, thenA_normal, thenA_ret, boolOf_bool, bin_gtr, callS_func, leaveR_ret, resA_tmp, resA_nil, pack_one, Option.map_some, Option.isSome_some, ne_eq, ↓reduceIte, Nat.reduceLT, Option.some.injEq, List.map_cons, List.map_nil, List.all_cons, List.all_nil, Bool.and_true, List.nil_append, List.append_nil, hl, i0, hln0, hbig]
  obtain ⟨H1, F1, a1, s1, g1, f1⟩ := new8 (ext := ext) hx hf0
  refine theCall_goal (F := fun z => ∃ H', z = some (.ret (.bool true), H') ∧ Grown H0 H') (hx _ _ _ (by decide)) Try.func4 (rs := [.tmp 2]) rfl rfl rfl (by simp) fun tm hl hi => ?_
  replace hl : tm.length = 150 := hl
  have i0 := hi 0
  simp only [List.getD_cons_zero] at i0
  simp (config := { decide := true }) only [theCode_seq, theCode_list, theCode_skip, theCode_ret, theCode_block, theCode_if, evalList_plain, evalList_nil, nd_move, nd_assign, nd_binOp, nd_call, ok_tmp, ok_const, ok_func, cl_int, cl_bool, opA_move, opA_assign, opA_bin, opA_call, opA_call0, opA_len, contA_val, contA_enter, callA_ret, putT_some, aev_tmp, aev_const, aev_func, rd_same, rd_ne, List.length_set, thenA_normal, boolOf_bool, bin_gtr, callS_func, Option.isSome_some, ne_eq, ↓reduceIte, Nat.reduceLT, Option.some.injEq, List.map_cons, List.map_nil, List.all_cons, List.all_nil, Bool.and_true, List.nil_append, List.append_nil, hl, i0, hln0, hbig, en8, a1]
  refine loop_goal (F := fun z => ∃ H', leaveR Try.prog [.tmp 2] (thenA (inBlockA 0 z) _) = some (.ret (.bool true), H') ∧ Grown H0 H')
    (fun k s => ∃ tm H pre post σ, s = ⟨tm, [], H⟩ ∧ l = pre ++ post ∧ post.length = k ∧ tm.length = 150 ∧ tm.getD 0 undef = v ∧ tm.getD 3 undef = .pointer (some ⟨H0.next, 0, none⟩) ∧ tm.getD 4 undef = .int .i64 σ.types.length ∧ tm.getD 5 undef = .int .i64 σ.next ∧ tm.getD 6 undef = .int .i64 pre.length ∧ St0 H0 H H0.next σ ∧ σ.wf pre.length)
    (fun x s => ∃ tm H σ, s = ⟨tm, [], H⟩ ∧ x = .exit 0 ∧ tm.length = 150 ∧ tm.getD 3 undef = .pointer (some ⟨H0.next, 0, none⟩) ∧ tm.getD 4 undef = .int .i64 σ.types.length ∧ St0 H0 H H0.next σ ∧ σ.wf l.length) l.length ?_ ?_ ?_
  · refine ⟨_, _, [], l, sc0, rfl, rfl, rfl, ?_, ?_, ?_, ?_, ?_, ?_, ⟨g1, F1, s1, f1⟩, wf_sc0⟩
    · simp only [List.length_set, hl]
    all_goals simp (config := { decide := true }) only [rd_ne, rd_same, List.length_set, hl, ne_eq, i0, List.length_nil]
    all_goals rfl
  · rintro k _ ⟨tm, H, pre, post, σ, rfl, hpp, hk, hl, i0, i3, i4, i5, i6, h, hwp⟩
    have hsH := hs.grown hf0 h.1
    have hln := hsH.len
    cases post with
    | nil =>
      right
      rw [List.append_nil] at hpp
      subst hpp
      have hlt : ¬ ((l.length : Int) < l.length) := by omega
      refine ⟨?x0, ?s0, ?h0, ?hx0, ?hq0⟩
      case h0 =>
        simp (config := { decide := true }) only [theCode_seq, theCode_list, theCode_exit, theCode_if, evalList_plain, evalList_nil, nd_move, nd_binOp, nd_call, ok_tmp, opA_move, opA_bin, opA_len, contA_val, putT_some, aev_tmp, rd_same, rd_ne, List.length_set, thenA_normal, thenA_exit, boolOf_bool, bin_lss, Option.isSome_some, ne_eq, ↓reduceIte, Nat.reduceLT, Option.some.injEq, hl, i0, i6, hln, hlt]
        rfl
      case hx0 => exact fun h => by cases h
      case hq0 =>
        refine ⟨_, _, σ, rfl, rfl, ?_, ?_, ?_, h, hwp⟩
        · simp only [List.length_set, hl]
        all_goals simp (config := { decide := true }) only [rd_ne, ne_eq, i3, i4]
    | cons s post =>
      left
      have hil : pre.length < l.length := by rw [hpp]; simp
      have hlt : (pre.length : Int) < l.length := by omega
      have hget : l.getD pre.length ⟨0, ⟨#[]⟩, 0, false⟩ = s := by rw [hpp, List.getD_eq_getElem?_getD, List.getElem?_append_right (Nat.le_refl _)]; simp
      have hixs := hsH.index hil
      have hcl := hsH.cells _ hil
      rw [hget] at hcl
      have ld0 : H.loadV Try.prog 38 (addA (baseOf v) (pre.length * 4)) = some (.agg (stpC s).toArray) := by
        rw [loadV_agg agg38 info38, cells38, hcl]; rfl
      obtain ⟨Hb, eb⟩ : ∃ X, (H.push (.box [.int .i64 0, .string ⟨#[]⟩, .int .i64 0, .bool false] 38)).set H.next (.box (stpC s) 38) = X := ⟨_, rfl⟩
      have st0 : (H.push (.box [.int .i64 0, .string ⟨#[]⟩, .int .i64 0, .bool false] 38)).storeV Try.prog 38 ⟨H.next, 0, none⟩ (.agg (stpC s).toArray) = some Hb := by
        rw [storeV_box info38 get_push_new (by rw [cells38]; rfl) (by rw [vc_agg]; rfl) (by rw [vc_agg]; simp [stpC, fl_string, fl_bool, fl_int]), vc_agg, ← eb]
      have gb : Grown H Hb := by rw [← eb]; exact (Grown.push h.1.fresh _).set2 _ get_push_new (Nat.le_refl _)
      have hbx : Hb.get H.next = some (.box [.int .i64 s.kind, .string s.name, .int .i64 s.ty, .bool s.turns] 38) := by rw [← eb]; exact get_set_same
      obtain ⟨hg00, F, hsA0, hF⟩ := h
      have hg0 := hg00.trans gb
      have hsA := hsA0.grown hg00.fresh gb
      have hbn : H.next < Hb.next := get_lt gb.fresh hbx
      have hnF : ∀ j, F j → j ≠ H.next := fun j hj => by have := hsA0.lt hg00.fresh hj; omega
      have hpk : theCall Try.prog ext 16 [.int .i64 s.kind, .int .i64 6] Hb = some (.ret (.int .i64 (s.kind % 6)), Hb) := pick16 hx (by decide) (by decide)
      have w8 : IntKind.i64.wrap ((pre.length : Int) + 1) = ((pre ++ [s]).length : Nat) := by rw [IntWalk.i64_in _ (by omega)]; simp
      by_cases k2 : s.kind % 6 = 2
      · obtain ⟨H', F', a, sA, u⟩ := declare20 (ext := ext) hx gb.fresh hsA hwp.pos (by have := hwp.bl; omega) (by have := hwp.yl; omega) s.name s.ty
        have hS := St0.upd hg0 hF u sA
        have hwd := wf_decl hwp s.name s.ty
        by_cases e0 : σ.declErr s.name = 0
        · rw [show declV σ s.name = .tuple #[.int .i64 σ.types.length, .int .i64 0] by unfold declV; rw [e0]; rfl] at a
          obtain ⟨f1, f2⟩ := find_decl (ty := s.ty) e0 hwp.pos
          obtain ⟨H2, a2, g2⟩ := find10 (ext := ext) hx u.fresh sA hwd.ok (by have := hwd.bl; omega) (by have := hwd.yl; omega) s.name
          rw [show findV (σ.decl s.name s.ty) s.name = .tuple #[.int .i64 σ.types.length, .int .i64 s.ty, .bool true] by unfold findV; rw [f1]; dsimp only; rw [f2]; rfl] at a2
          have hbx2 : H2.get H.next = some (.box [.int .i64 s.kind, .string s.name, .int .i64 s.ty, .bool s.turns] 38) := g2.has u.fresh (by rw [u.frame _ (fun e => hnF _ e rfl) hbn]; exact hbx)
          have hbx3 : H'.get H.next = some (.box [.int .i64 s.kind, .string s.name, .int .i64 s.ty, .bool s.turns] 38) := by rw [u.frame _ (fun e => hnF _ e rfl) hbn]; exact hbx
          have eT : (σ.decl s.name s.ty).types.length = σ.types.length + 1 := by unfold Sc.decl; rw [if_pos e0]; simp
          have eN : (σ.decl s.name s.ty).next = σ.next := by unfold Sc.decl; rw [if_pos e0]
          have hy := hwd.y256
          have w4 : IntKind.i64.wrap ((σ.types.length : Int) + 1) = ((σ.decl s.name s.ty).types.length : Int) := by rw [eT, IntWalk.i64_in _ (by omega)]; omega
          have w5 : (σ.next : Int) = ((σ.decl s.name s.ty).next : Int) := by rw [eN]
          have hgt : ¬ ((256 : Int) < ((σ.decl s.name s.ty).types.length : Int)) := by omega
          refine ⟨?s1, ?h1, post.length, by rw [← hk]; simp, ?q1⟩
          case h1 =>
            simp (config := { decide := true }) only [theCode_seq, theCode_list, theCode_skip, theCode_block, theCode_if, evalList_plain, evalList_guard, evalList_nil, nd_move, nd_assign, nd_pick, nd_alloc, nd_load, nd_store, nd_binOp, nd_unOp, nd_fieldAddr, nd_indexAddr, nd_extract, nd_call, ok_tmp, ok_const, ok_func, cl_int, cl_bool, opA_move, opA_assign, opA_pick, opA_load, opA_store, opA_fieldAddr, opA_extract, opA_bin, opA_un, opA_call, opA_len, opA_indexAddr, opA_alloc, contA_val, contA_skip, contA_enter, callA_ret, putT_some, putT_none, aev_tmp, aev_const, aev_func, rd_same, rd_ne, List.length_set, valA_some, skipA_some, thenA_normal, inBlockA_normal, boolOf_bool, loadS_ptr, storeS_ptr, fieldAddrS_eq, extractS_tuple, un_not,
    bin_lss, bin_gtr, bin_eql, bin_neq, bin_add, callS_func, yieldA_S, slotAt_succ, slotAt_zero, yieldS_some, List.getElem?_toArray, List.getElem?_cons_zero, List.getElem?_cons_succ, Option.map_some, Option.isSome_some, ne_eq, ↓reduceIte, Nat.reduceLT, Nat.zero_add, Option.some.injEq, List.map_cons, List.map_nil, List.all_cons, List.all_nil, Bool.and_true, List.nil_append, List.append_nil, hl, i0, i3, i4, i6, hln, hlt, hixs, sli22, ld0, zf38, vc_agg, st0, hbx, cellO_box, off38_0, off38_1, off38_2, agg3, agg9, loadV_flat, cell_eq, en16, hpk, en20, en10, k2, a, a2, hbx2, hbx3, w4, hgt, eq_self, decide_true, decide_false, Bool.not_true]
            rfl
          case q1 =>
            refine ⟨_, _, pre ++ [s], post, σ.decl s.name s.ty, rfl, by rw [hpp]; simp, rfl, ?_, ?_, ?_, ?_, ?_, ?_, hS.grow g2, by rw [List.length_append]; exact hwd⟩
            · simp only [List.length_set, hl]
            all_goals simp (config := { decide := true }) only [rd_ne, rd_same, List.length_set, hl, ne_eq, i0, i3, i5, w5, w8]
        · by_cases e73 : σ.declErr s.name = 73
          · rw [show declV σ s.name = .tuple #[.int .i64 0, .int .i64 73] by unfold declV; rw [e73]; rfl] at a
            have h256 : (σ.types.length : Int) = 256 := by
              unfold Sc.declErr at e73
              split at e73
              · simp at e73
              · split at e73
                · rename_i h; omega
                · simp at e73
            have hgt : ¬ ((256 : Int) < (σ.types.length : Int)) := by omega
            have eD : σ.decl s.name s.ty = σ := by unfold Sc.decl; rw [if_neg e0]
            have w4 := True.intro
            have w5 := True.intro
            rw [h256] at i4 hgt
            refine ⟨?s2, ?h2, post.length, by rw [← hk]; simp, ?q2⟩
            case h2 =>
              simp (config := { decide := true }) only [theCode_seq, theCode_list, theCode_skip, theCode_block, theCode_if, evalList_plain, evalList_guard, evalList_nil, nd_move, nd_assign, nd_pick, nd_alloc, nd_load, nd_store, nd_binOp, nd_fieldAddr, nd_indexAddr, nd_extract, nd_call, ok_tmp, ok_const, ok_func, cl_int, cl_bool, opA_move, opA_assign, opA_pick, opA_load, opA_store, opA_fieldAddr, opA_extract, opA_bin, opA_call, opA_len, opA_indexAddr, opA_alloc, contA_val, contA_skip, contA_enter, callA_ret, putT_some, putT_none, aev_tmp, aev_const, aev_func, rd_same, rd_ne, List.length_set, valA_some, skipA_some, thenA_normal, inBlockA_normal, boolOf_bool, loadS_ptr, storeS_ptr, fieldAddrS_eq, extractS_tuple, bin_lss, bin_gtr, bin_eql, bin_neq, bin_add, callS_func, yieldA_S, slotAt_succ, slotAt_zero, yieldS_some, List.getElem?_toArray, List.getElem?_cons_zero, List.getElem?_cons_succ, Option.map_some, Option.isSome_some, ne_eq, ↓reduceIte, Nat.reduceLT, Nat.zero_add, Option.some.injEq, List.map_cons, List.map_nil, List.all_cons, List.all_nil, Bool.and_true, List.nil_append, List.append_nil, hl, i0, i3, i4, i6, hln, hlt, hixs, sli22, ld0, zf38, vc_agg, st0, hbx, cellO_box, off38_0, off38_1, off38_2, agg3, agg9, loadV_flat, cell_eq, en16, hpk, en20, k2, a, eq_self, decide_true, decide_false, Bool.not_true]
              rfl
            case q2 =>
              refine ⟨_, _, pre ++ [s], post, σ, rfl, by rw [hpp]; simp, rfl, ?_, ?_, ?_, ?_, ?_, ?_, eD ▸ hS, by rw [List.length_append]; exact hwp.up (Nat.le_succ _)⟩
              · simp only [List.length_set, hl]
              all_goals simp (config := { decide := true }) only [rd_ne, rd_same, List.length_set, hl, ne_eq, i0, i3, i4, i5, w8, h256]
          · have e70 : σ.declErr s.name = 70 := by
              unfold Sc.declErr at e0 e73 ⊢
              split
              · rfl
              · rename_i hne
                rw [if_neg hne] at e0 e73
                split at e73
                · exact absurd rfl e73
                · rename_i hne2; rw [if_neg hne2] at e0; exact absurd rfl e0
            rw [show declV σ s.name = .tuple #[.int .i64 0, .int .i64 70] by unfold declV; rw [e70]; rfl] at a
            have hy := hwp.y256
            have hgt : ¬ ((256 : Int) < (σ.types.length : Int)) := by omega
            have eD : σ.decl s.name s.ty = σ := by unfold Sc.decl; rw [if_neg e0]
            refine ⟨?s3, ?h3, post.length, by rw [← hk]; simp, ?q3⟩
            case h3 =>
              simp (config := { decide := true }) only [theCode_seq, theCode_list, theCode_skip, theCode_block, theCode_if, evalList_plain, evalList_guard, evalList_nil, nd_move, nd_assign, nd_pick, nd_alloc, nd_load, nd_store, nd_binOp, nd_fieldAddr, nd_indexAddr, nd_extract, nd_call, ok_tmp, ok_const, ok_func, cl_int, cl_bool, opA_move, opA_assign, opA_pick, opA_load, opA_store, opA_fieldAddr, opA_extract, opA_bin, opA_call, opA_len, opA_indexAddr, opA_alloc, contA_val, contA_skip, contA_enter, callA_ret, putT_some, putT_none, aev_tmp, aev_const, aev_func, rd_same, rd_ne, List.length_set, valA_some, skipA_some, thenA_normal, inBlockA_normal, boolOf_bool, loadS_ptr, storeS_ptr, fieldAddrS_eq, extractS_tuple, bin_lss, bin_gtr, bin_eql, bin_add, callS_func, yieldA_S, slotAt_succ, slotAt_zero, yieldS_some, List.getElem?_toArray, List.getElem?_cons_zero, List.getElem?_cons_succ, Option.map_some, Option.isSome_some, ne_eq, ↓reduceIte, Nat.reduceLT, Nat.zero_add, Option.some.injEq, List.map_cons, List.map_nil, List.all_cons, List.all_nil, Bool.and_true, List.nil_append, List.append_nil, hl, i0, i3, i4, i6, hln, hlt, hixs, sli22, ld0, zf38, vc_agg, st0, hbx, cellO_box, off38_0, off38_1, off38_2, agg3, agg9, loadV_flat, cell_eq, en16, hpk, en20, k2, a, hgt, eq_self, decide_true, decide_false]
              rfl
            case q3 =>
              refine ⟨_, _, pre ++ [s], post, σ, rfl, by rw [hpp]; simp, rfl, ?_, ?_, ?_, ?_, ?_, ?_, eD ▸ hS, by rw [List.length_append]; exact hwp.up (Nat.le_succ _)⟩
              · simp only [List.length_set, hl]
              all_goals simp (config := { decide := true }) only [rd_ne, rd_same, List.length_set, hl, ne_eq, i0, i3, i4, i5, w8]
      by_cases k4 : s.kind % 6 = 4
      · obtain ⟨H', F', a, sA, u⟩ := enter14 (ext := ext) hx gb.fresh hsA (by have := hwp.tl; omega) (by have := hwp.nx; omega) s.name s.turns
        have hS := St0.upd hg0 hF u sA
        have hwd := wf_enter hwp s.name s.turns
        cases hc : σ.twice s.name with
        | true =>
          rw [show entV2 σ s.name = .tuple #[.int .i64 0, .int .i64 70] by unfold entV2; rw [hc]; rfl] at a
          have eD : σ.enter s.name s.turns = σ := by unfold Sc.enter; rw [hc]; rfl
          refine ⟨?s4, ?h4, post.length, by rw [← hk]; simp, ?q4⟩
          case h4 =>
            simp (config := { decide := true }) only [theCode_seq, theCode_list, theCode_skip, theCode_block, theCode_if, evalList_plain, evalList_nil, nd_move, nd_assign, nd_alloc, nd_load, nd_store, nd_binOp, nd_fieldAddr, nd_indexAddr, nd_extract, nd_call, ok_tmp, ok_const, ok_func, cl_int, opA_move, opA_assign, opA_load, opA_store, opA_fieldAddr, opA_extract, opA_bin, opA_call, opA_len, opA_indexAddr, opA_alloc, contA_val, contA_skip, contA_enter, callA_ret, putT_some, putT_none, aev_tmp, aev_const, aev_func, rd_same, rd_ne, List.length_set, valA_some, skipA_some, thenA_normal, inBlockA_normal, boolOf_bool, loadS_ptr, storeS_ptr, fieldAddrS_eq, extractS_tuple, bin_lss, bin_eql, bin_add, callS_func, List.getElem?_toArray, List.getElem?_cons_zero, List.getElem?_cons_succ, Option.map_some, Option.isSome_some, ne_eq, ↓reduceIte, Nat.reduceLT, Nat.zero_add, Option.some.injEq, List.map_cons, List.map_nil, List.all_cons, List.all_nil, Bool.and_true, List.nil_append, List.append_nil, hl, i0, i3, i6, hln, hlt, hixs, sli22, ld0, zf38, vc_agg, st0, hbx, cellO_box, off38_0, off38_1, off38_3, agg3, agg9, agg4, loadV_flat, cell_eq, en16, hpk, en14, k4, a, eq_self, decide_true, decide_false]
            rfl
          case q4 =>
            refine ⟨_, _, pre ++ [s], post, σ, rfl, by rw [hpp]; simp, rfl, ?_, ?_, ?_, ?_, ?_, ?_, eD ▸ hS, by rw [List.length_append]; exact hwp.up (Nat.le_succ _)⟩
            · simp only [List.length_set, hl]
            all_goals simp (config := { decide := true }) only [rd_ne, rd_same, List.length_set, hl, ne_eq, i0, i3, i4, i5, w8]
        | false =>
          rw [show entV2 σ s.name = .tuple #[.int .i64 σ.next, .int .i64 0] by unfold entV2; rw [hc]; rfl] at a
          obtain ⟨t1, t2⟩ := target_enter (tn := s.turns) hc
          obtain ⟨H2, a2, g2⟩ := target11 (ext := ext) hx u.fresh sA (by have := hwd.tl; omega) ⟨#[]⟩ false
          obtain ⟨H3, a3, g3⟩ := target11 (ext := ext) hx g2.fresh (sA.grown u.fresh g2) (by have := hwd.tl; omega) s.name false
          rw [show targV (σ.enter s.name s.turns) ⟨#[]⟩ false = .tuple #[.int .i64 σ.next, .int .i64 0] by unfold targV; rw [t1]] at a2
          rw [show targV (σ.enter s.name s.turns) s.name false = .tuple #[.int .i64 σ.next, .int .i64 0] by unfold targV; rw [t2]] at a3
          have hbx2 : H2.get H.next = some (.box [.int .i64 s.kind, .string s.name, .int .i64 s.ty, .bool s.turns] 38) := g2.has u.fresh (by rw [u.frame _ (fun e => hnF _ e rfl) hbn]; exact hbx)
          have eN : (σ.enter s.name s.turns).next = σ.next + 1 := by unfold Sc.enter; rw [hc]; rfl
          have eT : (σ.enter s.name s.turns).types.length = σ.types.length := by unfold Sc.enter; rw [hc]; rfl
          have hnx := hwp.nx
          have w5 : IntKind.i64.wrap ((σ.next : Int) + 1) = ((σ.enter s.name s.turns).next : Int) := by rw [eN, IntWalk.i64_in _ (by omega)]; omega
          have w4 : (σ.types.length : Int) = ((σ.enter s.name s.turns).types.length : Int) := by rw [eT]
          refine ⟨?s5, ?h5, post.length, by rw [← hk]; simp, ?q5⟩
          case h5 =>
            simp (config := { decide := true }) only [theCode_seq, theCode_list, theCode_skip, theCode_block, theCode_if, evalList_plain, evalList_guard, evalList_nil, nd_move, nd_assign, nd_pick, nd_alloc, nd_load, nd_store, nd_binOp, nd_fieldAddr, nd_indexAddr, nd_extract, nd_call, ok_tmp, ok_const, ok_func, cl_int, cl_bool, cl_string, opA_move, opA_assign, opA_pick, opA_load, opA_store, opA_fieldAddr, opA_extract, opA_bin, opA_call, opA_len, opA_indexAddr, opA_alloc, contA_val, contA_skip, contA_enter, callA_ret, putT_some, putT_none, aev_tmp, aev_const, aev_func, rd_same, rd_ne, List.length_set, valA_some, skipA_some, thenA_normal, inBlockA_normal, boolOf_bool, loadS_ptr, storeS_ptr, fieldAddrS_eq, extractS_tuple, bin_lss, bin_eql, bin_neq, bin_add, callS_func, yieldA_S, slotAt_succ, slotAt_zero, yieldS_some, List.getElem?_toArray, List.getElem?_cons_zero, List.getElem?_cons_succ, Option.map_some, Option.isSome_some, ne_eq, ↓reduceIte, Nat.reduceLT, Nat.zero_add, Option.some.injEq, List.map_cons, List.map_nil, List.all_cons, List.all_nil, Bool.and_true, List.nil_append, List.append_nil, hl, i0, i3, i5, i6, hln, hlt, hixs, sli22, ld0, zf38, vc_agg, st0, hbx, cellO_box, off38_0, off38_1, off38_3, agg3, agg9, agg4, loadV_flat, cell_eq, en16, hpk, en14, en11, k4, a, a2, a3, hbx2, w5, eq_self, decide_true, decide_false, Bool.not_true]
            rfl
          case q5 =>
            refine ⟨_, _, pre ++ [s], post, σ.enter s.name s.turns, rfl, by rw [hpp]; simp, rfl, ?_, ?_, ?_, ?_, ?_, ?_, (hS.grow g2).grow g3, by rw [List.length_append]; exact hwd⟩
            · simp only [List.length_set, hl]
            all_goals simp (config := { decide := true }) only [rd_ne, rd_same, List.length_set, hl, ne_eq, i0, i3, i4, w4, w8]
      obtain ⟨v', hsl, hs1, _⟩ := hs.one hil (t := 22) sli22 rfl Hb ((hs.grown hf0 hg0).eok (by omega))
      rw [hget] at hs1
      have hbl := hs1.blk_lt hf0 (by simp)
      obtain ⟨H', a, F', sA', u'⟩ := run9 (ext := ext) hx gb.fresh (n := pre.length) hsA hwp (hs1.grown hf0 hg0) (fun _ e => by have := hF _ e; omega) (by simp; omega)
      have hR : runL σ [s] = runS σ s := rfl
      rw [hR] at sA'
      have hS := St0.upd hg0 hF u' sA'
      have eT : (runS σ s).types.length = σ.types.length := by
        unfold runS
        split
        · rfl
        · split
          · unfold Sc.close; split <;> rfl
          · (try rw [if_neg k2]); (try rw [if_neg k4])
            split
            · unfold Sc.leave; split <;> rfl
            · rfl
      have eN : (runS σ s).next = σ.next := by
        unfold runS
        split
        · rfl
        · split
          · unfold Sc.close; split <;> rfl
          · (try rw [if_neg k2]); (try rw [if_neg k4])
            split
            · unfold Sc.leave; split <;> rfl
            · rfl
      have w4 : (σ.types.length : Int) = ((runS σ s).types.length : Int) := by rw [eT]
      have w5 : (σ.next : Int) = ((runS σ s).next : Int) := by rw [eN]
      have w6 : IntKind.i64.wrap ((pre.length : Int) + 1) = (pre.length : Int) + 1 := IntWalk.i64_in _ (by omega)
      have w9 : (pre.length : Int) + 1 = ((pre ++ [s]).length : Nat) := by simp
      refine ⟨?s6, ?h6, post.length, by rw [← hk]; simp, ?q6⟩
      case h6 =>
        simp (config := { decide := true }) only [theCode_seq, theCode_list, theCode_skip, theCode_block, theCode_if, evalList_plain, evalList_nil, nd_move, nd_assign, nd_alloc, nd_load, nd_store, nd_binOp, nd_slice, nd_fieldAddr, nd_indexAddr, nd_call, ok_tmp, ok_const, ok_func, cl_int, opA_move, opA_assign, opA_load, opA_store, opA_fieldAddr, opA_bin, opA_call, opA_len, opA_indexAddr, opA_sliceLH, opA_alloc, contA_val, contA_skip, contA_enter, callA_ret, putT_some, putT_none, aev_tmp, aev_const, aev_func, rd_same, rd_ne, List.length_set, valA_some, skipA_some, thenA_normal, inBlockA_normal, boolOf_bool, loadS_ptr, storeS_ptr, fieldAddrS_eq, bin_lss, bin_eql, bin_add, callS_func, List.getElem?_cons_zero, Option.map_some, Option.isSome_some, ne_eq, ↓reduceIte, Nat.reduceLT, Nat.zero_add, Option.some.injEq, List.map_cons, List.map_nil, List.all_cons, List.all_nil, Bool.and_true, List.nil_append, List.append_nil, hl, i0, i3, i6, hln, hlt, hixs, sli22, ld0, zf38, vc_agg, st0, hbx, cellO_box, off38_0, agg3, loadV_flat, cell_eq, en16, hpk, en9, k2, k4, w6, hsl, a, eq_self, decide_true, decide_false]
        rfl
      case q6 =>
        refine ⟨_, _, pre ++ [s], post, runS σ s, rfl, by rw [hpp]; simp, rfl, ?_, ?_, ?_, ?_, ?_, ?_, hS, by rw [List.length_append]; exact wf_runS hwp s⟩
        · simp only [List.length_set, hl]
        all_goals simp (config := { decide := true }) only [rd_ne, rd_same, List.length_set, hl, ne_eq, i0, i3, i4, i5, ← w4, ← w5, w9]
  · rintro x _ hx' ⟨tm, H, σ, rfl, rfl, hl, i3, i4, h, hwp⟩
    obtain ⟨hg, F, hsA, hF⟩ := h
    obtain ⟨vs, H2, b1, b2, b3, b4⟩ := slots12 (ext := ext) hx hg.fresh hsA (by have := hwp.yl; omega)
    obtain ⟨H3, c1, c2⟩ := works15 (ext := ext) hx b3.fresh
    have hl2 := fun H2 => b2.lenS isl32 H2
    refine ⟨H3, ?_, (hg.trans b3).trans c2⟩
    simp (config := { decide := true }) only [evalList_plain, evalList_guard, evalList_nil, nd_move, nd_assign, nd_pick, nd_binOp, nd_call, ok_tmp, ok_const, ok_func, cl_bool, opA_move, opA_assign, opA_pick, opA_bin, opA_call0, opA_len, contA_val, contA_enter, callA_ret, putT_some, aev_tmp, aev_func, rd_same, rd_ne, List.length_set, thenA_normal, inBlockA_exit, boolOf_bool, bin_eql, callS_func, leaveR_ret, resA_tmp, resA_nil, yieldA_S, slotAt_succ, slotAt_zero, yieldS_some, pack_one, Option.map_some, Option.isSome_some, ne_eq, ↓reduceIte, Nat.reduceLT, List.append_nil, hl, i3, i4, b1, hl2, en15, c1, eq_self, decide_true]

end Go.Proofs.Ytnjoaffnfjlcaaa

namespace Go.Proofs.Ytnjoaffnfjlcaaa
open Go Go.Proofs B

theorem fieldAddrS_add {P : Program} {H : AHeap} {s : TypeId} {f : Nat} {a : Addr} : fieldAddrS P H s f (.pointer (some a)) = (fieldOff P s f).map fun off => .val (.pointer (some (addA a off))) H := by
  obtain ⟨b, o, sp⟩ := a
  exact fieldAddrS_eq
theorem findV_shape (σ : Sc) (nm : ByteArray) : ∃ (a t : Int) (c : Bool), findV σ nm = .tuple #[.int .i64 a, .int .i64 t, .bool c] := by
  unfold findV
  cases σ.find nm with
  | none => exact ⟨_, _, _, rfl⟩
  | some k => exact ⟨_, _, _, rfl⟩
theorem targV_shape (σ : Sc) (nm : ByteArray) (tn : Bool) : ∃ (a e : Int), targV σ nm tn = .tuple #[.int .i64 a, .int .i64 e] := by
  unfold targV
  cases σ.target nm tn with
  | none => exact ⟨_, _, rfl⟩
  | some k => exact ⟨_, _, rfl⟩


set_option maxHeartbeats 8000000 in
set_option maxRecDepth 100000 in
theorem blk_l1 {ext : CallT} (hx : ∀ f args H, f ≠ 22 → ext f args H = none) {H0 H5 : AHeap} {F2 : Nat → Prop} {vw v1 : Value} {la lw : List Stp} {σ0 : Sc} {fa ft ta te : Int} {fc tn : Bool} {nm : ByteArray} (hw0 : σ0.wf la.length)
    (hb1 : ¬ (100 : Int) < la.length) (hb2 : ¬ (100 : Int) < lw.length) (hf5 : H5.Fresh) (hsw5 : Scr H5 vw lw) (hblk : 0 < lw.length → ¬ F2 (baseOf vw).block) {c : Code} (hc : (loopsF Try.f3)[0]? = some c) :
    ∀ k s, (fun (k : Nat) (s : St) => ∃ tm H pre post σ, ∃ nb nt : Nat, s = ⟨tm, [], H⟩ ∧ lw = pre ++ post ∧ post.length = k ∧ tm.length = 186 ∧ tm.getD 1 undef = vw ∧ tm.getD 2 undef = .string nm ∧ tm.getD 3 undef = .bool tn ∧ tm.getD 9 undef = .pointer (some ⟨H0.next, 0, none⟩) ∧ tm.getD 10 undef = .int .i64 fa ∧ tm.getD 11 undef = .int .i64 ft ∧ tm.getD 12 undef = .bool fc ∧ tm.getD 13 undef = .int .i64 ta ∧ tm.getD 14 undef = .int .i64 te ∧ tm.getD 15 undef = v1 ∧ tm.getD 18 undef = .int .i64 ((nb : Int) + 1) ∧ tm.getD 19 undef = .int .i64 ((nt : Int) + 1) ∧ tm.getD 20 undef = .int .i64 pre.length ∧ Within σ0 σ (nb + 1) (nt + 1) ∧ USt H5 F2 H H0.next σ ∧ σ.wf (la.length + 2 + pre.length)) k s → ∃ x s', theCode Try.prog ext false (.loop c) s = some (x, s') ∧ x ≠ .normal ∧ (fun (x : AExit) (s : St) => ∃ tm H σ, ∃ nb nt : Nat, s = ⟨tm, [], H⟩ ∧ x = .exit 0 ∧ tm.length = 186 ∧ tm.getD 1 undef = vw ∧ tm.getD 2 undef = .string nm ∧ tm.getD 3 undef = .bool tn ∧ tm.getD 9 undef = .pointer (some ⟨H0.next, 0, none⟩) ∧ tm.getD 10 undef = .int .i64 fa ∧ tm.getD 11 undef = .int .i64 ft ∧ tm.getD 12 undef = .bool fc ∧ tm.getD 13 undef = .int .i64 ta ∧ tm.getD 14 undef = .int .i64 te ∧ tm.getD 15 undef = v1 ∧ tm.getD 18 undef = .int .i64 ((nb : Int) + 1) ∧ tm.getD 19 undef = .int .i64 ((nt : Int) + 1) ∧ Within σ0 σ (nb + 1) (nt + 1) ∧ USt H5 F2 H H0.next σ ∧ σ.wf (la.length + 2 + lw.length)) x s' := by
  have h0 : (loopsF Try.f3)[0]? = some _ := rfl
  rw [h0] at hc
  obtain rfl := Option.some.inj hc
  refine theCode_loop_inv _ _ ?_
  rintro k _ ⟨tm, H, pre, post, σ, nb, nt, rfl, hpp, hk, hl, i1, i2, i3, i9, i10, i11, i12, i13, i14, i15, i18, i19, i20, hW, hust, hwf⟩
  have hsH := hsw5.upd hf5 hblk hust
  have hlnw := hsH.len
  cases post with
  | nil =>
    right
    rw [List.append_nil] at hpp
    subst hpp
    have hlt : ¬ ((lw.length : Int) < lw.length) := by omega
    refine ⟨?x0, ?s0, ?h0, ?hx0, ?hq0⟩
    case h0 =>
      simp (config := { decide := true }) only [theCode_seq, theCode_list, theCode_exit, theCode_if, evalList_plain, evalList_nil, nd_move, nd_binOp, nd_call, ok_tmp, opA_move, opA_bin, opA_len, contA_val, putT_some, aev_tmp, rd_same, rd_ne, List.length_set, thenA_normal, thenA_exit, boolOf_bool, bin_lss, Option.isSome_some, ne_eq, ↓reduceIte, Nat.reduceLT, Option.some.injEq, hl, i1, i20, hlnw, hlt]
      rfl
    case hx0 => exact fun h => by cases h
    case hq0 =>
      refine ⟨_, _, σ, nb, nt, rfl, rfl, ?_, ?_, ?_, ?_, ?_, ?_, ?_, ?_, ?_, ?_, ?_, ?_, ?_, hW, hust, hwf⟩
      · simp only [List.length_set, hl]
      all_goals simp (config := { decide := true }) only [rd_ne, ne_eq, i1, i2, i3, i9, i10, i11, i12, i13, i14, i15, i18, i19]
  | cons s post =>
    left
    have hil : pre.length < lw.length := by rw [hpp]; simp
    have hlt : (pre.length : Int) < lw.length := by omega
    have hget : lw.getD pre.length ⟨0, ⟨#[]⟩, 0, false⟩ = s := by rw [hpp, List.getD_eq_getElem?_getD, List.getElem?_append_right (Nat.le_refl _)]; simp
    have hixs := hsH.index hil
    have hcl := hsH.cells _ hil
    rw [hget] at hcl
    have hkc : H.cell (addA (addA (baseOf vw) (pre.length * 4)) 0) = some (.int .i64 s.kind) := by
      rw [readN_get hcl (j := 0) (by decide)]; rfl
    have hpk : theCall Try.prog ext 16 [.int .i64 s.kind, .int .i64 6] H = some (.ret (.int .i64 (s.kind % 6)), H) := pick16 hx (by decide) (by decide)
    have w8 : IntKind.i64.wrap ((pre.length : Int) + 1) = ((pre ++ [s]).length : Nat) := by rw [IntWalk.i64_in _ (by omega)]; simp
    have hblkF : ∀ F, Upd H5 F2 H F → ¬ F (baseOf vw).block := fun F hU e => by
      rcases hU.foot _ e with e2 | e2
      · exact hblk (by omega) e2
      · have := hsw5.blk_lt hf5 (by omega); omega
    by_cases k1 : s.kind % 6 = 1
    · by_cases hb : nb = 0
      · subst hb
        refine ⟨?s1, ?h1, post.length, by rw [← hk]; simp, ?q1⟩
        case h1 =>
          simp (config := { decide := true }) only [fieldAddrS_add, theCode_seq, theCode_list, theCode_skip, theCode_exit, theCode_block, theCode_if, evalList_plain, evalList_guard, evalList_nil, nd_move, nd_assign, nd_pick, nd_load, nd_binOp, nd_fieldAddr, nd_indexAddr, nd_call, ok_tmp, ok_const, ok_func, cl_int, cl_bool, opA_move, opA_assign, opA_pick, opA_load, opA_fieldAddr, opA_bin, opA_call, opA_len, opA_indexAddr, contA_val, contA_enter, callA_ret, putT_some, aev_tmp, aev_const, aev_func, rd_same, rd_ne, List.length_set, valA_some, thenA_normal, thenA_exit, inBlockA_exit, boolOf_bool, loadS_ptr, bin_lss, bin_eql, bin_add, callS_func, yieldA_S, slotAt_succ, slotAt_zero, yieldS_some, Option.map_some, Option.isSome_some, ne_eq, ↓reduceIte, Nat.reduceLT, Option.some.injEq, List.map_cons, List.map_nil, List.all_cons, List.all_nil, Bool.and_true, List.nil_append, List.append_nil, hl, i1, i18, i20, hlnw, hlt, hixs, sli22, hkc, hpk, k1, Int.natCast_zero, Int.zero_add, en16, off38_0, agg3, loadV_flat, eq_self, decide_true]
          rfl
        case q1 =>
          refine ⟨_, _, pre ++ [s], post, σ, 0, nt, rfl, by rw [hpp]; simp, rfl, ?_, ?_, ?_, ?_, ?_, ?_, ?_, ?_, ?_, ?_, ?_, ?_, ?_, ?_, hW, hust, by rw [List.length_append]; exact hwf.up (Nat.le_succ _)⟩
          · simp only [List.length_set, hl]
          all_goals simp (config := { decide := true }) only [rd_ne, rd_same, List.length_set, hl, ne_eq, i1, i2, i3, i9, i10, i11, i12, i13, i14, i15, i18, i19, w8]
      have hbI : ¬ ((nb : Int) + 1 = 1) := by omega
      obtain ⟨vs, hsl, hs1, hvb⟩ := hsH.one hil (t := 22) sli22 rfl H (hsH.eok (by omega))
      rw [hget] at hs1
      obtain ⟨F, hsA, hU⟩ := hust
      obtain ⟨H', a, F', sA', u'⟩ := run9 (ext := ext) hx hU.fresh (n := la.length + 2 + pre.length) hsA hwf hs1 (fun _ e => hblkF F hU (hvb ▸ e)) (by simp; omega)
      have hR : runL σ [s] = runS σ s := rfl
      rw [hR] at sA'
      obtain ⟨nb', nt', hW', e1, e2⟩ := hW.step hw0.pos s (by omega) (by omega)
      have hb1 : runLB σ [s] = runB σ s := by simp [runLB]
      have ht1 : runLT σ [s] = runT σ s := by simp [runLT]
      rw [hb1, ht1] at a
      have hbn := hW'.bn
      have htn' := hW'.tn
      have hwf' := wf_runS hwf s
      have hq1 := hwf'.bl
      have hq2 := hwf'.tl
      have wa : IntKind.i64.wrap ((nb : Int) + 1 + (1 + runB σ s)) = (nb' : Int) + 2 := by rw [IntWalk.i64_in _ (by omega)]; omega
      have wb : IntKind.i64.wrap ((nb' : Int) + 2 - 1) = (nb' : Int) + 1 := by rw [IntWalk.i64_in _ (by omega)]; omega
      have wc : IntKind.i64.wrap ((nt : Int) + 1 + runT σ s) = (nt' : Int) + 1 := by rw [IntWalk.i64_in _ (by omega)]; omega
      have w6 : IntKind.i64.wrap ((pre.length : Int) + 1) = (pre.length : Int) + 1 := IntWalk.i64_in _ (by omega)
      have w9 : (pre.length : Int) + 1 = ((pre ++ [s]).length : Nat) := by simp
      refine ⟨?s2, ?h2, post.length, by rw [← hk]; simp, ?q2⟩
      case h2 =>
        simp (config := { decide := true }) only [fieldAddrS_add, theCode_seq, theCode_list, theCode_skip, theCode_block, theCode_if, evalList_plain, evalList_guard, evalList_nil, nd_move, nd_assign, nd_pick, nd_load, nd_binOp, nd_slice, nd_fieldAddr, nd_indexAddr, nd_extract, nd_call, ok_tmp, ok_const, ok_func, cl_int, cl_bool, opA_move, opA_assign, opA_pick, opA_load, opA_fieldAddr, opA_extract, opA_bin, opA_call, opA_len, opA_indexAddr, opA_sliceLH, contA_val, contA_enter, callA_ret, putT_some, aev_tmp, aev_const, aev_func, rd_same, rd_ne, List.length_set, valA_some, thenA_normal, inBlockA_normal, boolOf_bool, loadS_ptr, extractS_tuple, bin_lss, bin_eql, bin_add, bin_sub, callS_func, yieldA_S, slotAt_succ, slotAt_zero, yieldS_some, List.getElem?_toArray, List.getElem?_cons_zero, List.getElem?_cons_succ, Option.map_some, Option.isSome_some, ne_eq, ↓reduceIte, Nat.reduceLT, Option.some.injEq, List.map_cons, List.map_nil, List.all_cons, List.all_nil, Bool.and_true, List.nil_append, List.append_nil, hl, i1, i9, i18, i19, i20, hlnw, hlt, hixs, sli22, hkc, hpk, k1, hbI, w6, hsl, a, wa, wb, wc, en9, en16, off38_0, agg3, loadV_flat, eq_self, decide_true]
        rfl
      case q2 =>
        refine ⟨_, _, pre ++ [s], post, runS σ s, nb', nt', rfl, by rw [hpp]; simp, rfl, ?_, ?_, ?_, ?_, ?_, ?_, ?_, ?_, ?_, ?_, ?_, ?_, ?_, ?_, hW', ⟨F', sA', hU.trans u'⟩, by rw [List.length_append]; exact hwf'⟩
        · simp only [List.length_set, hl]
        all_goals simp (config := { decide := true }) only [rd_ne, rd_same, List.length_set, hl, ne_eq, i1, i2, i3, i9, i10, i11, i12, i13, i14, i15, w9]
    by_cases k5 : s.kind % 6 = 5
    · by_cases hb : nt = 0
      · subst hb
        refine ⟨?s3, ?h3, post.length, by rw [← hk]; simp, ?q3⟩
        case h3 =>
          simp (config := { decide := true }) only [fieldAddrS_add, theCode_seq, theCode_list, theCode_skip, theCode_exit, theCode_block, theCode_if, evalList_plain, evalList_guard, evalList_nil, nd_move, nd_assign, nd_pick, nd_load, nd_binOp, nd_fieldAddr, nd_indexAddr, nd_call, ok_tmp, ok_const, ok_func, cl_int, cl_bool, opA_move, opA_assign, opA_pick, opA_load, opA_fieldAddr, opA_bin, opA_call, opA_len, opA_indexAddr, contA_val, contA_enter, callA_ret, putT_some, aev_tmp, aev_const, aev_func, rd_same, rd_ne, List.length_set, valA_some, thenA_normal, thenA_exit, inBlockA_exit, boolOf_bool, loadS_ptr, bin_lss, bin_eql, bin_add, callS_func, yieldA_S, slotAt_succ, slotAt_zero, yieldS_some, Option.map_some, Option.isSome_some, ne_eq, ↓reduceIte, Nat.reduceLT, Option.some.injEq, List.map_cons, List.map_nil, List.all_cons, List.all_nil, Bool.and_true, List.nil_append, List.append_nil, hl, i1, i19, i20, hlnw, hlt, hixs, sli22, hkc, hpk, k5, Int.natCast_zero, Int.zero_add, en16, off38_0, agg3, loadV_flat, eq_self, decide_true]
          rfl
        case q3 =>
          refine ⟨_, _, pre ++ [s], post, σ, nb, 0, rfl, by rw [hpp]; simp, rfl, ?_, ?_, ?_, ?_, ?_, ?_, ?_, ?_, ?_, ?_, ?_, ?_, ?_, ?_, hW, hust, by rw [List.length_append]; exact hwf.up (Nat.le_succ _)⟩
          · simp only [List.length_set, hl]
          all_goals simp (config := { decide := true }) only [rd_ne, rd_same, List.length_set, hl, ne_eq, i1, i2, i3, i9, i10, i11, i12, i13, i14, i15, i18, i19, w8]
      have hbI : ¬ ((nt : Int) + 1 = 1) := by omega
      obtain ⟨vs, hsl, hs1, hvb⟩ := hsH.one hil (t := 22) sli22 rfl H (hsH.eok (by omega))
      rw [hget] at hs1
      obtain ⟨F, hsA, hU⟩ := hust
      obtain ⟨H', a, F', sA', u'⟩ := run9 (ext := ext) hx hU.fresh (n := la.length + 2 + pre.length) hsA hwf hs1 (fun _ e => hblkF F hU (hvb ▸ e)) (by simp; omega)
      have hR : runL σ [s] = runS σ s := rfl
      rw [hR] at sA'
      obtain ⟨nb', nt', hW', e1, e2⟩ := hW.step hw0.pos s (by omega) (by omega)
      have hb1 : runLB σ [s] = runB σ s := by simp [runLB]
      have ht1 : runLT σ [s] = runT σ s := by simp [runLT]
      rw [hb1, ht1] at a
      have hbn := hW'.bn
      have htn' := hW'.tn
      have hwf' := wf_runS hwf s
      have hq1 := hwf'.bl
      have hq2 := hwf'.tl
      have wa : IntKind.i64.wrap ((nb : Int) + 1 + (1 + runB σ s)) = (nb' : Int) + 2 := by rw [IntWalk.i64_in _ (by omega)]; omega
      have wb : IntKind.i64.wrap ((nb' : Int) + 2 - 1) = (nb' : Int) + 1 := by rw [IntWalk.i64_in _ (by omega)]; omega
      have wc : IntKind.i64.wrap ((nt : Int) + 1 + runT σ s) = (nt' : Int) + 1 := by rw [IntWalk.i64_in _ (by omega)]; omega
      have w6 : IntKind.i64.wrap ((pre.length : Int) + 1) = (pre.length : Int) + 1 := IntWalk.i64_in _ (by omega)
      have w9 : (pre.length : Int) + 1 = ((pre ++ [s]).length : Nat) := by simp
      refine ⟨?s4, ?h4, post.length, by rw [← hk]; simp, ?q4⟩
      case h4 =>
        simp (config := { decide := true }) only [fieldAddrS_add, theCode_seq, theCode_list, theCode_skip, theCode_block, theCode_if, evalList_plain, evalList_guard, evalList_nil, nd_move, nd_assign, nd_pick, nd_load, nd_binOp, nd_slice, nd_fieldAddr, nd_indexAddr, nd_extract, nd_call, ok_tmp, ok_const, ok_func, cl_int, cl_bool, opA_move, opA_assign, opA_pick, opA_load, opA_fieldAddr, opA_extract, opA_bin, opA_call, opA_len, opA_indexAddr, opA_sliceLH, contA_val, contA_enter, callA_ret, putT_some, aev_tmp, aev_const, aev_func, rd_same, rd_ne, List.length_set, valA_some, thenA_normal, inBlockA_normal, boolOf_bool, loadS_ptr, extractS_tuple, bin_lss, bin_eql, bin_add, bin_sub, callS_func, yieldA_S, slotAt_succ, slotAt_zero, yieldS_some, List.getElem?_toArray, List.getElem?_cons_zero, List.getElem?_cons_succ, Option.map_some, Option.isSome_some, ne_eq, ↓reduceIte, Nat.reduceLT, Option.some.injEq, List.map_cons, List.map_nil, List.all_cons, List.all_nil, Bool.and_true, List.nil_append, List.append_nil, hl, i1, i9, i18, i19, i20, hlnw, hlt, hixs, sli22, hkc, hpk, k5, hbI, w6, hsl, a, wa, wb, wc, en9, en16, off38_0, agg3, loadV_flat, eq_self, decide_true]
        rfl
      case q4 =>
        refine ⟨_, _, pre ++ [s], post, runS σ s, nb', nt', rfl, by rw [hpp]; simp, rfl, ?_, ?_, ?_, ?_, ?_, ?_, ?_, ?_, ?_, ?_, ?_, ?_, ?_, ?_, hW', ⟨F', sA', hU.trans u'⟩, by rw [List.length_append]; exact hwf'⟩
        · simp only [List.length_set, hl]
        all_goals simp (config := { decide := true }) only [rd_ne, rd_same, List.length_set, hl, ne_eq, i1, i2, i3, i9, i10, i11, i12, i13, i14, i15, w9]
    · have k0 := True.intro
      obtain ⟨vs, hsl, hs1, hvb⟩ := hsH.one hil (t := 22) sli22 rfl H (hsH.eok (by omega))
      rw [hget] at hs1
      obtain ⟨F, hsA, hU⟩ := hust
      obtain ⟨H', a, F', sA', u'⟩ := run9 (ext := ext) hx hU.fresh (n := la.length + 2 + pre.length) hsA hwf hs1 (fun _ e => hblkF F hU (hvb ▸ e)) (by simp; omega)
      have hR : runL σ [s] = runS σ s := rfl
      rw [hR] at sA'
      obtain ⟨nb', nt', hW', e1, e2⟩ := hW.step hw0.pos s (by omega) (by omega)
      have hb1 : runLB σ [s] = runB σ s := by simp [runLB]
      have ht1 : runLT σ [s] = runT σ s := by simp [runLT]
      rw [hb1, ht1] at a
      have hbn := hW'.bn
      have htn' := hW'.tn
      have hwf' := wf_runS hwf s
      have hq1 := hwf'.bl
      have hq2 := hwf'.tl
      have wa : IntKind.i64.wrap ((nb : Int) + 1 + (1 + runB σ s)) = (nb' : Int) + 2 := by rw [IntWalk.i64_in _ (by omega)]; omega
      have wb : IntKind.i64.wrap ((nb' : Int) + 2 - 1) = (nb' : Int) + 1 := by rw [IntWalk.i64_in _ (by omega)]; omega
      have wc : IntKind.i64.wrap ((nt : Int) + 1 + runT σ s) = (nt' : Int) + 1 := by rw [IntWalk.i64_in _ (by omega)]; omega
      have w6 : IntKind.i64.wrap ((pre.length : Int) + 1) = (pre.length : Int) + 1 := IntWalk.i64_in _ (by omega)
      have w9 : (pre.length : Int) + 1 = ((pre ++ [s]).length : Nat) := by simp
      refine ⟨?s5, ?h5, post.length, by rw [← hk]; simp, ?q5⟩
      case h5 =>
        simp (config := { decide := true }) only [fieldAddrS_add, theCode_seq, theCode_list, theCode_skip, theCode_block, theCode_if, evalList_plain, evalList_guard, evalList_nil, nd_move, nd_assign, nd_pick, nd_load, nd_binOp, nd_slice, nd_fieldAddr, nd_indexAddr, nd_extract, nd_call, ok_tmp, ok_const, ok_func, cl_int, cl_bool, opA_move, opA_assign, opA_pick, opA_load, opA_fieldAddr, opA_extract, opA_bin, opA_call, opA_len, opA_indexAddr, opA_sliceLH, contA_val, contA_enter, callA_ret, putT_some, aev_tmp, aev_const, aev_func, rd_same, rd_ne, List.length_set, valA_some, thenA_normal, inBlockA_normal, boolOf_bool, loadS_ptr, extractS_tuple, bin_lss, bin_eql, bin_add, bin_sub, callS_func, yieldA_S, slotAt_succ, slotAt_zero, yieldS_some, List.getElem?_toArray, List.getElem?_cons_zero, List.getElem?_cons_succ, Option.map_some, Option.isSome_some, ne_eq, ↓reduceIte, Nat.reduceLT, Option.some.injEq, List.map_cons, List.map_nil, List.all_cons, List.all_nil, Bool.and_true, List.nil_append, List.append_nil, hl, i1, i9, i18, i19, i20, hlnw, hlt, hixs, sli22, hkc, hpk, k1, k5, w6, hsl, a, wa, wb, wc, en9, en16, off38_0, agg3, loadV_flat, eq_self, decide_true]
        rfl
      case q5 =>
        refine ⟨_, _, pre ++ [s], post, runS σ s, nb', nt', rfl, by rw [hpp]; simp, rfl, ?_, ?_, ?_, ?_, ?_, ?_, ?_, ?_, ?_, ?_, ?_, ?_, ?_, ?_, hW', ⟨F', sA', hU.trans u'⟩, by rw [List.length_append]; exact hwf'⟩
        · simp only [List.length_set, hl]
        all_goals simp (config := { decide := true }) only [rd_ne, rd_same, List.length_set, hl, ne_eq, i1, i2, i3, i9, i10, i11, i12, i13, i14, i15, w9]


set_option maxHeartbeats 8000000 in
set_option maxRecDepth 100000 in
theorem blk_l2 {ext : CallT} (hx : ∀ f args H, f ≠ 22 → ext f args H = none) {H0 H5 : AHeap} {F2 : Nat → Prop} {vw v1 : Value} {la lw : List Stp} {σ0 : Sc} {fa ft ta te : Int} {fc tn : Bool} {nm : ByteArray} (hw0 : σ0.wf la.length)
    (hb1 : ¬ (100 : Int) < la.length) (hb2 : ¬ (100 : Int) < lw.length) {nb nt : Nat} (hnb : nb < 1000) {c : Code} (hc : (loopsF Try.f3)[1]? = some c) :
    ∀ k s, (fun (k : Nat) (s : St) => ∃ tm H σ i, s = ⟨tm, [], H⟩ ∧ i + k = nb + 1 ∧ tm.length = 186 ∧ tm.getD 1 undef = vw ∧ tm.getD 2 undef = .string nm ∧ tm.getD 3 undef = .bool tn ∧ tm.getD 9 undef = .pointer (some ⟨H0.next, 0, none⟩) ∧ tm.getD 10 undef = .int .i64 fa ∧ tm.getD 11 undef = .int .i64 ft ∧ tm.getD 12 undef = .bool fc ∧ tm.getD 13 undef = .int .i64 ta ∧ tm.getD 14 undef = .int .i64 te ∧ tm.getD 15 undef = v1 ∧ tm.getD 18 undef = .int .i64 ((nb : Int) + 1) ∧ tm.getD 19 undef = .int .i64 ((nt : Int) + 1) ∧ tm.getD 24 undef = .int .i64 (i : Nat) ∧ Within σ0 σ k (nt + 1) ∧ USt H5 F2 H H0.next σ ∧ σ.wf (la.length + 2 + lw.length)) k s → ∃ x s', theCode Try.prog ext false (.loop c) s = some (x, s') ∧ x ≠ .normal ∧ (fun (x : AExit) (s : St) => ∃ tm H σ, s = ⟨tm, [], H⟩ ∧ x = .exit 2 ∧ tm.length = 186 ∧ tm.getD 1 undef = vw ∧ tm.getD 2 undef = .string nm ∧ tm.getD 3 undef = .bool tn ∧ tm.getD 9 undef = .pointer (some ⟨H0.next, 0, none⟩) ∧ tm.getD 10 undef = .int .i64 fa ∧ tm.getD 11 undef = .int .i64 ft ∧ tm.getD 12 undef = .bool fc ∧ tm.getD 13 undef = .int .i64 ta ∧ tm.getD 14 undef = .int .i64 te ∧ tm.getD 15 undef = v1 ∧ tm.getD 19 undef = .int .i64 ((nt : Int) + 1) ∧ Within σ0 σ 0 (nt + 1) ∧ USt H5 F2 H H0.next σ ∧ σ.wf (la.length + 2 + lw.length)) x s' := by
  have h0 : (loopsF Try.f3)[1]? = some _ := rfl
  rw [h0] at hc
  obtain rfl := Option.some.inj hc
  refine theCode_loop_inv _ _ ?_
  rintro k _ ⟨tm, H, σ, i, rfl, hik, hl, i1, i2, i3, i9, i10, i11, i12, i13, i14, i15, i18, i19, i24, hW, hust, hwf⟩
  cases k with
  | zero =>
    right
    have hlt : ¬ ((i : Int) < (nb : Int) + 1) := by omega
    refine ⟨?x60, ?s60, ?h60, ?hx60, ?hq60⟩
    case h60 =>
      simp (config := { decide := true }) only [theCode_seq, theCode_list, theCode_exit, theCode_if, evalList_plain, evalList_nil, nd_move, nd_binOp, ok_tmp, opA_move, opA_bin, contA_val, putT_some, aev_tmp, rd_same, rd_ne, List.length_set, thenA_normal, thenA_exit, boolOf_bool, bin_lss, Option.isSome_some, ne_eq, ↓reduceIte, Nat.reduceLT, Option.some.injEq, hl, i18, i24, hlt]
      rfl
    case hx60 => exact fun h => by cases h
    case hq60 =>
      refine ⟨_, _, σ, rfl, rfl, ?_, ?_, ?_, ?_, ?_, ?_, ?_, ?_, ?_, ?_, ?_, ?_, hW, hust, hwf⟩
      · simp only [List.length_set, hl]
      all_goals simp (config := { decide := true }) only [rd_ne, ne_eq, i1, i2, i3, i9, i10, i11, i12, i13, i14, i15, i19]
  | succ k =>
    left
    have hlt : (i : Int) < (nb : Int) + 1 := by omega
    obtain ⟨F, hsA, hU⟩ := hust
    obtain ⟨hW', hgt⟩ := hW.close hw0.pos
    obtain ⟨H', F', a, sA, u⟩ := close17 (ext := ext) hx hU.fresh hsA (by have := hwf.bl; omega)
    rw [decide_eq_true hgt] at a
    have wi : IntKind.i64.wrap ((i : Int) + 1) = ((i + 1 : Nat) : Int) := by rw [IntWalk.i64_in _ (by omega)]; omega
    refine ⟨?s61, ?h61, k, Nat.lt_succ_self _, ?q61⟩
    case h61 =>
      simp (config := { decide := true }) only [theCode_seq, theCode_list, theCode_skip, theCode_block, theCode_if, evalList_plain, evalList_nil, nd_move, nd_assign, nd_binOp, nd_unOp, nd_call, ok_tmp, ok_const, ok_func, cl_int, opA_move, opA_assign, opA_bin, opA_un, opA_call, contA_val, contA_enter, callA_ret, putT_some, aev_tmp, aev_const, aev_func, rd_same, rd_ne, List.length_set, thenA_normal, inBlockA_normal, boolOf_bool, un_not,
    bin_lss, bin_add, callS_func, Option.isSome_some, ne_eq, ↓reduceIte, Nat.reduceLT, Option.some.injEq, List.map_cons, List.map_nil, List.all_cons, List.all_nil, Bool.and_true, List.nil_append, List.append_nil, hl, i9, i18, i24, hlt, a, en17, eq_self, decide_true, Bool.not_true]
      rfl
    case q61 =>
      refine ⟨_, _, _, i + 1, rfl, by omega, ?_, ?_, ?_, ?_, ?_, ?_, ?_, ?_, ?_, ?_, ?_, ?_, ?_, ?_, hW', ⟨F', sA, hU.trans u⟩, wf_close hwf⟩
      · simp only [List.length_set, hl]
      all_goals simp (config := { decide := true }) only [rd_ne, rd_same, List.length_set, hl, ne_eq, i1, i2, i3, i9, i10, i11, i12, i13, i14, i15, i18, i19, wi]


set_option maxHeartbeats 8000000 in
set_option maxRecDepth 100000 in
theorem blk_l3 {ext : CallT} (hx : ∀ f args H, f ≠ 22 → ext f args H = none) {H0 H5 : AHeap} {F2 : Nat → Prop} {vw v1 : Value} {la lw : List Stp} {σ0 : Sc} {fa ft ta te : Int} {fc tn : Bool} {nm : ByteArray} (hw0 : σ0.wf la.length)
    (hb1 : ¬ (100 : Int) < la.length) (hb2 : ¬ (100 : Int) < lw.length) {nt : Nat} (hnt : nt < 1000) {c : Code} (hc : (loopsF Try.f3)[2]? = some c) :
    ∀ k s, (fun (k : Nat) (s : St) => ∃ tm H σ i, s = ⟨tm, [], H⟩ ∧ i + k = nt + 1 ∧ tm.length = 186 ∧ tm.getD 1 undef = vw ∧ tm.getD 2 undef = .string nm ∧ tm.getD 3 undef = .bool tn ∧ tm.getD 9 undef = .pointer (some ⟨H0.next, 0, none⟩) ∧ tm.getD 10 undef = .int .i64 fa ∧ tm.getD 11 undef = .int .i64 ft ∧ tm.getD 12 undef = .bool fc ∧ tm.getD 13 undef = .int .i64 ta ∧ tm.getD 14 undef = .int .i64 te ∧ tm.getD 15 undef = v1 ∧ tm.getD 19 undef = .int .i64 ((nt : Int) + 1) ∧ tm.getD 25 undef = .int .i64 (i : Nat) ∧ Within σ0 σ 0 k ∧ USt H5 F2 H H0.next σ ∧ σ.wf (la.length + 2 + lw.length)) k s → ∃ x s', theCode Try.prog ext false (.loop c) s = some (x, s') ∧ x ≠ .normal ∧ (fun (x : AExit) (s : St) => ∃ tm H σ, s = ⟨tm, [], H⟩ ∧ x = .exit 4 ∧ tm.length = 186 ∧ tm.getD 1 undef = vw ∧ tm.getD 2 undef = .string nm ∧ tm.getD 3 undef = .bool tn ∧ tm.getD 9 undef = .pointer (some ⟨H0.next, 0, none⟩) ∧ tm.getD 10 undef = .int .i64 fa ∧ tm.getD 11 undef = .int .i64 ft ∧ tm.getD 12 undef = .bool fc ∧ tm.getD 13 undef = .int .i64 ta ∧ tm.getD 14 undef = .int .i64 te ∧ tm.getD 15 undef = v1 ∧ Within σ0 σ 0 0 ∧ USt H5 F2 H H0.next σ ∧ σ.wf (la.length + 2 + lw.length)) x s' := by
  have h0 : (loopsF Try.f3)[2]? = some _ := rfl
  rw [h0] at hc
  obtain rfl := Option.some.inj hc
  refine theCode_loop_inv _ _ ?_
  rintro k _ ⟨tm, H, σ, i, rfl, hik, hl, i1, i2, i3, i9, i10, i11, i12, i13, i14, i15, i19, i25, hW, hust, hwf⟩
  cases k with
  | zero =>
    right
    have hlt : ¬ ((i : Int) < (nt : Int) + 1) := by omega
    refine ⟨?x70, ?s70, ?h70, ?hx70, ?hq70⟩
    case h70 =>
      simp (config := { decide := true }) only [theCode_seq, theCode_list, theCode_exit, theCode_if, evalList_plain, evalList_nil, nd_move, nd_binOp, ok_tmp, opA_move, opA_bin, contA_val, putT_some, aev_tmp, rd_same, rd_ne, List.length_set, thenA_normal, thenA_exit, boolOf_bool, bin_lss, Option.isSome_some, ne_eq, ↓reduceIte, Nat.reduceLT, Option.some.injEq, hl, i19, i25, hlt]
      rfl
    case hx70 => exact fun h => by cases h
    case hq70 =>
      refine ⟨_, _, σ, rfl, rfl, ?_, ?_, ?_, ?_, ?_, ?_, ?_, ?_, ?_, ?_, ?_, hW, hust, hwf⟩
      · simp only [List.length_set, hl]
      all_goals simp (config := { decide := true }) only [rd_ne, ne_eq, i1, i2, i3, i9, i10, i11, i12, i13, i14, i15]
  | succ k =>
    left
    have hlt : (i : Int) < (nt : Int) + 1 := by omega
    obtain ⟨F, hsA, hU⟩ := hust
    obtain ⟨hW', hgt⟩ := hW.leave
    obtain ⟨H', F', a, sA, u⟩ := leave18 (ext := ext) hx hU.fresh hsA (by have := hwf.tl; omega)
    rw [decide_eq_true hgt] at a
    have wi : IntKind.i64.wrap ((i : Int) + 1) = ((i + 1 : Nat) : Int) := by rw [IntWalk.i64_in _ (by omega)]; omega
    refine ⟨?s71, ?h71, k, Nat.lt_succ_self _, ?q71⟩
    case h71 =>
      simp (config := { decide := true }) only [theCode_seq, theCode_list, theCode_skip, theCode_block, theCode_if, evalList_plain, evalList_nil, nd_move, nd_assign, nd_binOp, nd_unOp, nd_call, ok_tmp, ok_const, ok_func, cl_int, opA_move, opA_assign, opA_bin, opA_un, opA_call, contA_val, contA_enter, callA_ret, putT_some, aev_tmp, aev_const, aev_func, rd_same, rd_ne, List.length_set, thenA_normal, inBlockA_normal, boolOf_bool, un_not,
    bin_lss, bin_add, callS_func, Option.isSome_some, ne_eq, ↓reduceIte, Nat.reduceLT, Option.some.injEq, List.map_cons, List.map_nil, List.all_cons, List.all_nil, Bool.and_true, List.nil_append, List.append_nil, hl, i9, i19, i25, hlt, a, en18, eq_self, decide_true, Bool.not_true]
      rfl
    case q71 =>
      refine ⟨_, _, _, i + 1, rfl, by omega, ?_, ?_, ?_, ?_, ?_, ?_, ?_, ?_, ?_, ?_, ?_, ?_, ?_, hW', ⟨F', sA, hU.trans u⟩, wf_leave hwf⟩
      · simp only [List.length_set, hl]
      all_goals simp (config := { decide := true }) only [rd_ne, rd_same, List.length_set, hl, ne_eq, i1, i2, i3, i9, i10, i11, i12, i13, i14, i15, i19, wi]


set_option maxHeartbeats 8000000 in
set_option maxRecDepth 100000 in
theorem blk_a1 {ext : CallT} (hx : ∀ f args H, f ≠ 22 → ext f args H = none) {H0 : AHeap} {va vw : Value} {nm : ByteArray} {tn : Bool} {la : Nat} (hlna : ∀ H2, lenS Try.prog H2 22 va = some (ARes.val (Value.int .i64 la) H2)) (hb : (100 : Int) < la) :
    theCall Try.prog ext 3 [va, vw, .string nm, .bool tn] H0 = some (.ret (.bool true), H0) := by
  refine theCall_run (hx _ _ _ (by decide)) Try.func3 (rs := [.tmp 8]) rfl rfl rfl (by simp) fun tm hl hi => ?_
  replace hl : tm.length = 186 := hl
  have i0 := hi 0
  have i1 := hi 1
  have i2 := hi 2
  have i3 := hi 3
  simp only [List.getD_cons_zero, List.getD_cons_succ] at i0 i1 i2 i3
  simp (config := { decide := true }) only [theCode_seq, theCode_list, theCode_ret, theCode_block, theCode_if, evalList_plain, evalList_guard, evalList_nil, nd_move, nd_assign, nd_pick, nd_binOp, nd_call, ok_tmp, ok_const, ok_func, cl_int, cl_bool, cl_string, opA_move, opA_assign, opA_pick, opA_bin, opA_call, opA_call0, opA_len, contA_val, contA_enter, putT_some, aev_tmp, aev_const, aev_func, rd_same, rd_ne, List.length_set, thenA_normal, thenA_ret, boolOf_bool, bin_gtr, callS_func, leaveR_ret, resA_tmp, resA_nil, yieldA_S, slotAt_succ, slotAt_zero, yieldS_some, pack_one, Option.map_some, Option.isSome_some, ne_eq, ↓reduceIte, Nat.reduceLT, Option.some.injEq, List.map_cons, List.map_nil, List.all_cons, List.all_nil, Bool.and_true, List.nil_append, List.append_nil, hl, i0, hlna, hb]

set_option maxHeartbeats 8000000 in
set_option maxRecDepth 100000 in
theorem blk_a2 {ext : CallT} (hx : ∀ f args H, f ≠ 22 → ext f args H = none) {H0 : AHeap} {va vw : Value} {nm : ByteArray} {tn : Bool} {la : Nat} (hlna : ∀ H2, lenS Try.prog H2 22 va = some (ARes.val (Value.int .i64 la) H2)) (hb : ¬ (100 : Int) < la) {lw : Nat} (hlnw : ∀ H2, lenS Try.prog H2 22 vw = some (ARes.val (Value.int .i64 lw) H2)) (hb2 : (100 : Int) < lw) :
    theCall Try.prog ext 3 [va, vw, .string nm, .bool tn] H0 = some (.ret (.bool true), H0) := by
  refine theCall_run (hx _ _ _ (by decide)) Try.func3 (rs := [.tmp 8]) rfl rfl rfl (by simp) fun tm hl hi => ?_
  replace hl : tm.length = 186 := hl
  have i0 := hi 0
  have i1 := hi 1
  have i2 := hi 2
  have i3 := hi 3
  simp only [List.getD_cons_zero, List.getD_cons_succ] at i0 i1 i2 i3
  simp (config := { decide := true }) only [theCode_seq, theCode_list, theCode_ret, theCode_block, theCode_if, evalList_plain, evalList_guard, evalList_nil, nd_move, nd_assign, nd_pick, nd_binOp, nd_call, ok_tmp, ok_const, ok_func, cl_int, cl_bool, cl_string, opA_move, opA_assign, opA_pick, opA_bin, opA_call, opA_call0, opA_len, contA_val, contA_enter, putT_some, aev_tmp, aev_const, aev_func, rd_same, rd_ne, List.length_set, thenA_normal, thenA_ret, boolOf_bool, bin_gtr, callS_func, leaveR_ret, resA_tmp, resA_nil, yieldA_S, slotAt_succ, slotAt_zero, yieldS_some, pack_one, Option.map_some, Option.isSome_some, ne_eq, ↓reduceIte, Nat.reduceLT, Option.some.injEq, List.map_cons, List.map_nil, List.all_cons, List.all_nil, Bool.and_true, List.nil_append, List.append_nil, hl, i0, i1, hlna, hb, hlnw, hb2]

set_option maxHeartbeats 8000000 in
set_option maxRecDepth 100000 in
theorem blk_a3 {ext : CallT} (hx : ∀ f args H, f ≠ 22 → ext f args H = none) {H0 : AHeap} {va vw : Value} {nm : ByteArray} {tn : Bool} {la : Nat} (hlna : ∀ H2, lenS Try.prog H2 22 va = some (ARes.val (Value.int .i64 la) H2)) (hb : ¬ (100 : Int) < la) {lw : Nat} (hlnw : ∀ H2, lenS Try.prog H2 22 vw = some (ARes.val (Value.int .i64 lw) H2)) (hb2 : ¬ (100 : Int) < lw) {H1 H2 H3 H4 H5 H6 H7 : AHeap} {p r1 r2 v1 r6 : Value} {fa ft ta te f7 e7 : Int} {fc : Bool}
    (a1 : theCall Try.prog ext 8 [] H0 = some (.ret p, H1)) (a2 : theCall Try.prog ext 9 [p, va] H1 = some (.ret (.tuple #[r1, r2]), H2))
    (a3 : theCall Try.prog ext 10 [p, .string nm] H2 = some (.ret (.tuple #[.int .i64 fa, .int .i64 ft, .bool fc]), H3)) (a4 : theCall Try.prog ext 11 [p, .string nm, .bool tn] H3 = some (.ret (.tuple #[.int .i64 ta, .int .i64 te]), H4))
    (a5 : theCall Try.prog ext 12 [p] H4 = some (.ret v1, H5)) (a6 : theCall Try.prog ext 13 [p] H5 = some (.ret r6, H6)) (a7 : theCall Try.prog ext 14 [p, .string ⟨#[105, 110, 110, 101, 114, 32, 108, 97, 98, 101, 108]⟩, .bool true] H6 = some (.ret (.tuple #[.int .i64 f7, .int .i64 e7]), H7)) {H8 : AHeap} (a8 : theCall Try.prog ext 15 [] H7 = some (.ret (.bool true), H8)) (he : ¬ e7 = 0) :
    theCall Try.prog ext 3 [va, vw, .string nm, .bool tn] H0 = some (.ret (.bool true), H8) := by
  refine theCall_run (hx _ _ _ (by decide)) Try.func3 (rs := [.tmp 8]) rfl rfl rfl (by simp) fun tm hl hi => ?_
  replace hl : tm.length = 186 := hl
  have i0 := hi 0
  have i1 := hi 1
  have i2 := hi 2
  have i3 := hi 3
  simp only [List.getD_cons_zero, List.getD_cons_succ] at i0 i1 i2 i3
  simp (config := { decide := true }) only [theCode_seq, theCode_list, theCode_skip, theCode_ret, theCode_block, theCode_if, evalList_plain, evalList_guard, evalList_nil, nd_move, nd_assign, nd_pick, nd_binOp, nd_extract, nd_call, ok_tmp, ok_const, ok_func, cl_int, cl_bool, cl_string, opA_move, opA_assign, opA_pick, opA_extract, opA_bin, opA_call, opA_call0, opA_len, contA_val, contA_enter, callA_ret, putT_some, aev_tmp, aev_const, aev_func, rd_same, rd_ne, List.length_set, valA_some, thenA_normal, thenA_ret, boolOf_bool, extractS_tuple, bin_gtr, bin_neq, callS_func, leaveR_ret, resA_tmp, resA_nil, yieldA_S, slotAt_succ, slotAt_zero, yieldS_some, List.getElem?_toArray, List.getElem?_cons_zero, List.getElem?_cons_succ, pack_one, Option.map_some, Option.isSome_some, ne_eq, ↓reduceIte, Nat.reduceLT, Option.some.injEq, List.map_cons, List.map_nil, List.all_cons, List.all_nil, Bool.and_true, List.nil_append, List.append_nil, hl, i0, i1, i2, i3, hlna, hb, hlnw, hb2, a1, a2, a3, a4, a5, a6, a7, a8, he, en8, en9, en10, en11, en12, en13, en14, en15, eq_self]


set_option maxHeartbeats 8000000 in
set_option maxRecDepth 100000 in
theorem blk_s1 {ext : CallT} (hx : ∀ f args H, f ≠ 22 → ext f args H = none) {H0 : AHeap} {va vw : Value} {nm : ByteArray} {tn : Bool} {tm : List Value} (hl : tm.length = 186) (i0 : tm.getD 0 undef = va) (i1 : tm.getD 1 undef = vw) (i2 : tm.getD 2 undef = .string nm) (i3 : tm.getD 3 undef = .bool tn) {la : Nat} (hlna : ∀ H2, lenS Try.prog H2 22 va = some (ARes.val (Value.int .i64 la) H2)) (hb : ¬ (100 : Int) < la) {lw : Nat} (hlnw : ∀ H2, lenS Try.prog H2 22 vw = some (ARes.val (Value.int .i64 lw) H2)) (hb2 : ¬ (100 : Int) < lw) {H1 H2 H3 H4 H5 H6 H7 : AHeap} {p r1 r2 v1 r6 : Value} {fa ft ta te f7 e7 : Int} {fc : Bool}
    (a1 : theCall Try.prog ext 8 [] H0 = some (.ret p, H1)) (a2 : theCall Try.prog ext 9 [p, va] H1 = some (.ret (.tuple #[r1, r2]), H2))
    (a3 : theCall Try.prog ext 10 [p, .string nm] H2 = some (.ret (.tuple #[.int .i64 fa, .int .i64 ft, .bool fc]), H3)) (a4 : theCall Try.prog ext 11 [p, .string nm, .bool tn] H3 = some (.ret (.tuple #[.int .i64 ta, .int .i64 te]), H4))
    (a5 : theCall Try.prog ext 12 [p] H4 = some (.ret v1, H5)) (a6 : theCall Try.prog ext 13 [p] H5 = some (.ret r6, H6)) (a7 : theCall Try.prog ext 14 [p, .string ⟨#[105, 110, 110, 101, 114, 32, 108, 97, 98, 101, 108]⟩, .bool true] H6 = some (.ret (.tuple #[.int .i64 f7, .int .i64 e7]), H7)) (he : e7 = 0) :
    ∃ tm', theList Try.prog ext false ((seqsF Try.f3).take 14) ⟨tm, [], H0⟩ = some (.normal, ⟨tm', [], H7⟩) ∧ tm'.length = 186 ∧ tm'.getD 1 undef = vw ∧ tm'.getD 2 undef = .string nm ∧ tm'.getD 3 undef = .bool tn ∧ tm'.getD 9 undef = p ∧ tm'.getD 10 undef = .int .i64 fa ∧ tm'.getD 11 undef = .int .i64 ft ∧ tm'.getD 12 undef = .bool fc ∧ tm'.getD 13 undef = .int .i64 ta ∧ tm'.getD 14 undef = .int .i64 te ∧ tm'.getD 15 undef = v1 ∧ tm'.getD 18 undef = .int .i64 1 ∧ tm'.getD 19 undef = .int .i64 1 ∧ tm'.getD 20 undef = .int .i64 0 := by
  have hc : (seqsF Try.f3).take 14 = [_, _, _, _, _, _, _, _, _, _, _, _, _, _] := rfl
  rw [hc]
  refine ⟨?tm, ?h, ?q⟩
  case h =>
    simp (config := { decide := true }) only [theList_cons, theList_nil, theCode_list, theCode_skip, theCode_if, evalList_plain, evalList_guard, evalList_nil, nd_move, nd_assign, nd_pick, nd_binOp, nd_extract, nd_call, ok_tmp, ok_const, ok_func, cl_int, cl_bool, cl_string, opA_move, opA_assign, opA_pick, opA_extract, opA_bin, opA_call, opA_call0, opA_len, contA_val, contA_enter, callA_ret, putT_some, aev_tmp, aev_const, aev_func, rd_same, rd_ne, List.length_set, valA_some, thenA_normal, boolOf_bool, extractS_tuple, bin_gtr, bin_neq, callS_func, yieldA_S, slotAt_succ, slotAt_zero, yieldS_some, List.getElem?_toArray, List.getElem?_cons_zero, List.getElem?_cons_succ, Option.isSome_some, ne_eq, ↓reduceIte, Nat.reduceLT, Option.some.injEq, List.map_cons, List.map_nil, List.all_cons, List.all_nil, Bool.and_true, List.nil_append, List.append_nil, hl, i0, i1, i2, i3, hlna, hb, hlnw, hb2, a1, a2, a3, a4, a5, a6, a7, he, en8, en9, en10, en11, en12, en13, en14, eq_self, decide_true, Bool.not_true]
    rfl
  case q =>
    refine ⟨by simp only [List.length_set, hl], ?_, ?_, ?_, ?_, ?_, ?_, ?_, ?_, ?_, ?_, ?_, ?_, ?_⟩
    all_goals simp (config := { decide := true }) only [rd_ne, rd_same, List.length_set, hl, ne_eq, i1, i2, i3]


set_option maxHeartbeats 8000000 in
set_option maxRecDepth 100000 in
theorem blk_s2 {ext : CallT} {vw v1 p : Value} {nm : ByteArray} {fa ft ta te : Int} {fc tn : Bool} {tm : List Value} {H : AHeap} {nb nt : Int} (hl : tm.length = 186) (i1 : tm.getD 1 undef = vw) (i2 : tm.getD 2 undef = .string nm) (i3 : tm.getD 3 undef = .bool tn) (i9 : tm.getD 9 undef = p) (i10 : tm.getD 10 undef = .int .i64 fa) (i11 : tm.getD 11 undef = .int .i64 ft) (i12 : tm.getD 12 undef = .bool fc) (i13 : tm.getD 13 undef = .int .i64 ta) (i14 : tm.getD 14 undef = .int .i64 te) (i15 : tm.getD 15 undef = v1) (i18 : tm.getD 18 undef = .int .i64 nb) (i19 : tm.getD 19 undef = .int .i64 nt) :
    ∃ tm', theList Try.prog ext false (((seqsF Try.f3).drop 15).take 1) ⟨tm, [], H⟩ = some (.normal, ⟨tm', [], H⟩) ∧ tm'.length = 186 ∧ tm'.getD 1 undef = vw ∧ tm'.getD 2 undef = .string nm ∧ tm'.getD 3 undef = .bool tn ∧ tm'.getD 9 undef = p ∧ tm'.getD 10 undef = .int .i64 fa ∧ tm'.getD 11 undef = .int .i64 ft ∧ tm'.getD 12 undef = .bool fc ∧ tm'.getD 13 undef = .int .i64 ta ∧ tm'.getD 14 undef = .int .i64 te ∧ tm'.getD 15 undef = v1 ∧ tm'.getD 18 undef = .int .i64 nb ∧ tm'.getD 19 undef = .int .i64 nt ∧ tm'.getD 24 undef = .int .i64 0 := by
  have hc : ((seqsF Try.f3).drop 15).take 1 = [_] := rfl
  rw [hc]
  refine ⟨?tm, ?h, ?q⟩
  case h =>
    simp (config := { decide := true }) only [theList_cons, theList_nil, theCode_list, evalList_plain, evalList_nil, nd_assign, ok_const, cl_int, opA_assign, contA_val, putT_some, aev_const, thenA_normal, Option.some.injEq]
    rfl
  case q =>
    refine ⟨by simp only [List.length_set, hl], ?_, ?_, ?_, ?_, ?_, ?_, ?_, ?_, ?_, ?_, ?_, ?_, ?_⟩
    all_goals simp (config := { decide := true }) only [rd_ne, rd_same, hl, ne_eq, i1, i2, i3, i9, i10, i11, i12, i13, i14, i15, i18, i19]


set_option maxHeartbeats 8000000 in
set_option maxRecDepth 100000 in
theorem blk_s3 {ext : CallT} {vw v1 p : Value} {nm : ByteArray} {fa ft ta te : Int} {fc tn : Bool} {tm : List Value} {H : AHeap} {nb nt : Int} (hl : tm.length = 186) (i1 : tm.getD 1 undef = vw) (i2 : tm.getD 2 undef = .string nm) (i3 : tm.getD 3 undef = .bool tn) (i9 : tm.getD 9 undef = p) (i10 : tm.getD 10 undef = .int .i64 fa) (i11 : tm.getD 11 undef = .int .i64 ft) (i12 : tm.getD 12 undef = .bool fc) (i13 : tm.getD 13 undef = .int .i64 ta) (i14 : tm.getD 14 undef = .int .i64 te) (i15 : tm.getD 15 undef = v1) (i19 : tm.getD 19 undef = .int .i64 nt) :
    ∃ tm', theList Try.prog ext false (((seqsF Try.f3).drop 17).take 1) ⟨tm, [], H⟩ = some (.normal, ⟨tm', [], H⟩) ∧ tm'.length = 186 ∧ tm'.getD 1 undef = vw ∧ tm'.getD 2 undef = .string nm ∧ tm'.getD 3 undef = .bool tn ∧ tm'.getD 9 undef = p ∧ tm'.getD 10 undef = .int .i64 fa ∧ tm'.getD 11 undef = .int .i64 ft ∧ tm'.getD 12 undef = .bool fc ∧ tm'.getD 13 undef = .int .i64 ta ∧ tm'.getD 14 undef = .int .i64 te ∧ tm'.getD 15 undef = v1 ∧ tm'.getD 19 undef = .int .i64 nt ∧ tm'.getD 25 undef = .int .i64 0 := by
  have hc : ((seqsF Try.f3).drop 17).take 1 = [_] := rfl
  rw [hc]
  refine ⟨?tm, ?h, ?q⟩
  case h =>
    simp (config := { decide := true }) only [theList_cons, theList_nil, theCode_list, evalList_plain, evalList_nil, nd_assign, ok_const, cl_int, opA_assign, contA_val, putT_some, aev_const, thenA_normal, Option.some.injEq]
    rfl
  case q =>
    refine ⟨by simp only [List.length_set, hl], ?_, ?_, ?_, ?_, ?_, ?_, ?_, ?_, ?_, ?_, ?_, ?_⟩
    all_goals simp (config := { decide := true }) only [rd_ne, rd_same, hl, ne_eq, i1, i2, i3, i9, i10, i11, i12, i13, i14, i15, i19]


set_option maxHeartbeats 8000000 in
set_option maxRecDepth 100000 in
theorem blk_s4 {ext : CallT} {vw v1 p : Value} {nm : ByteArray} {fa ft ta te : Int} {fc tn : Bool} {tm : List Value} {H : AHeap} {nb nt : Int} (hl : tm.length = 186) (hx : ∀ f args H, f ≠ 22 → ext f args H = none) (i1 : tm.getD 1 undef = vw) (i2 : tm.getD 2 undef = .string nm) (i3 : tm.getD 3 undef = .bool tn) (i9 : tm.getD 9 undef = p) (i10 : tm.getD 10 undef = .int .i64 fa) (i11 : tm.getD 11 undef = .int .i64 ft) (i12 : tm.getD 12 undef = .bool fc) (i13 : tm.getD 13 undef = .int .i64 ta) (i14 : tm.getD 14 undef = .int .i64 te) (i15 : tm.getD 15 undef = v1) {H8 H9 Hx Hy : AHeap} {v2 v3 : Value} {n m : Nat} (b1 : theCall Try.prog ext 10 [p, .string nm] H = some (.ret (.tuple #[.int .i64 fa, .int .i64 ft, .bool fc]), H8)) (b2 : theCall Try.prog ext 11 [p, .string nm, .bool tn] H8 = some (.ret (.tuple #[.int .i64 ta, .int .i64 te]), H9))
    (b3 : theCall Try.prog ext 12 [p] H9 = some (.ret v2, Hx)) (d1 : ∀ H2, lenS Try.prog H2 32 v2 = some (ARes.val (.int .i64 n) H2)) (c1 : ∀ H2, lenS Try.prog H2 32 v1 = some (ARes.val (.int .i64 m) H2)) (hge : (m : Int) ≤ n)
    (b4 : sliceS Try.prog Hx 32 v2 none (some (.int .i64 m)) = some (.val v3 Hx)) (b5 : theCall Try.prog ext 19 [v3, v1] Hx = some (.ret (.bool true), Hx)) (b6 : theCall Try.prog ext 15 [] Hx = some (.ret (.bool true), Hy)) :
    leaveR Try.prog [.tmp 8] (theList Try.prog ext false ((seqsF Try.f3).drop 19) ⟨tm, [], H⟩) = some (.ret (.bool true), Hy) := by
  have hc : (seqsF Try.f3).drop 19 = [_, _, _, _, _] := rfl
  rw [hc]
  simp (config := { decide := true }) only [theList_cons, theCode_list, theCode_ret, evalList_plain, evalList_guard, evalList_nil, nd_move, nd_assign, nd_pick, nd_binOp, nd_slice, nd_extract, nd_call, ok_tmp, ok_const, ok_func, cl_bool, opA_move, opA_assign, opA_pick, opA_extract, opA_bin, opA_call, opA_call0, opA_len, opA_sliceHi, contA_val, contA_enter, callA_ret, putT_some, aev_tmp, aev_func, rd_same, rd_ne, List.length_set, valA_some, thenA_normal, thenA_ret, boolOf_bool, extractS_tuple, bin_geq, bin_eql, callS_func, leaveR_ret, resA_tmp, resA_nil, yieldA_S, slotAt_succ, slotAt_zero, yieldS_some, List.getElem?_toArray, List.getElem?_cons_zero, List.getElem?_cons_succ, pack_one, Option.map_some, Option.isSome_some, ne_eq, ↓reduceIte, Nat.reduceLT, List.map_cons, List.map_nil, List.all_cons, List.all_nil, Bool.and_true, List.nil_append, List.append_nil, hl, i2, i3, i9, i10, i11, i12, i13, i14, i15, b1, b2, b3, b4, b5, b6, c1, d1, hge, sli32, bin_beql ub4, beq_self_eq_true, en10, en11, en12, en15, en19, eq_self, decide_true]


set_option maxHeartbeats 8000000 in
set_option maxRecDepth 100000 in
theorem blocks3 {ext : CallT} (hx : ∀ f args H, f ≠ 22 → ext f args H = none) {H0 : AHeap} (hf0 : H0.Fresh) {va vw : Value} {la lw : List Stp} (hsa : Scr H0 va la) (hsw : Scr H0 vw lw) (nm : ByteArray) (tn : Bool) :
    ∃ H', theCall Try.prog ext 3 [va, vw, .string nm, .bool tn] H0 = some (.ret (.bool true), H') ∧ Grown H0 H' := by
  have hlna := hsa.len
  have hlnw := hsw.len
  by_cases hb1 : (100 : Int) < la.length
  · exact ⟨H0, blk_a1 hx hlna hb1, Grown.refl hf0⟩
  by_cases hb2 : (100 : Int) < lw.length
  · exact ⟨H0, blk_a2 hx hlna hb1 hlnw hb2, Grown.refl hf0⟩
  obtain ⟨H1, F1, a1, s1, g1, f1⟩ := new8 (ext := ext) hx hf0
  obtain ⟨H2, a2, F2, s2, u2⟩ := run9 (ext := ext) hx g1.fresh (n := 0) s1 wf_sc0 (hsa.grown hf0 g1) (fun hl e => by have := f1 _ e; have := hsa.blk_lt hf0 hl; omega) (by omega)
  have hw0 : (runL sc0 la).wf la.length := by have := wf_runL la wf_sc0; rwa [Nat.zero_add] at this
  obtain ⟨σ0, hσ0⟩ : ∃ σ, σ = runL sc0 la := ⟨_, rfl⟩
  rw [← hσ0] at hw0 s2
  obtain ⟨H3, a3, g3⟩ := find10 (ext := ext) hx u2.fresh s2 hw0.ok (by have := hw0.bl; omega) (by have := hw0.yl; omega) nm
  obtain ⟨H4, a4, g4⟩ := target11 (ext := ext) hx g3.fresh (s2.grown u2.fresh g3) (by have := hw0.tl; omega) nm tn
  have g34 := g3.trans g4
  obtain ⟨v1, H5, a5, o1, g5, hv1⟩ := slots12 (ext := ext) hx g4.fresh (s2.grown u2.fresh g34) (by have := hw0.yl; omega)
  have g35 := g34.trans g5
  have s5 := s2.grown u2.fresh g35
  obtain ⟨fa, ft, fc, hfv⟩ := findV_shape σ0 nm
  obtain ⟨ta, te, htv⟩ := targV_shape σ0 nm tn
  rw [hfv] at a3
  rw [htv] at a4
  have c1 := fun H2 => o1.lenS isl32 H2
  have f2 : ∀ j, F2 j → H0.next ≤ j := fun j hj => (u2.foot j hj).elim (f1 j) (fun e => Nat.le_trans g1.next e)
  have G5 : Grown H0 H5 := ⟨fun j hj => by
    rw [g35.get j (Nat.lt_of_lt_of_le hj (Nat.le_trans g1.next u2.next)), u2.frame j (fun e => by have := f1 j e; omega) (Nat.lt_of_lt_of_le hj g1.next)]; exact g1.get j hj, Nat.le_trans g1.next (Nat.le_trans u2.next g35.next), g5.fresh⟩
  have hsw5 := hsw.grown hf0 G5
  have hblk : 0 < lw.length → ¬ F2 (baseOf vw).block := fun hl e => by have := f2 _ e; have := hsw.blk_lt hf0 hl; omega
  have hv1F : ∀ j, idOf v1 = some j → ¬ F2 j := fun j hj e => by
    have h1 := hv1 j hj
    have h2 := s2.lt u2.fresh e
    have := g34.next; omega
  obtain ⟨H6, F6, a6, s6, u6⟩ := open13 (ext := ext) hx g5.fresh s5 (by have := hw0.bl; omega)
  have hw6 := wf_open hw0
  obtain ⟨H7, F7, a7, s7, u7⟩ := enter14 (ext := ext) hx u6.fresh s6 (by have := hw6.tl; omega) (by have := hw6.nx; omega) ⟨#[105, 110, 110, 101, 114, 32, 108, 97, 98, 101, 108]⟩ true
  have U7 := u6.trans u7
  cases htw : (Sc.open' σ0).twice ⟨#[105, 110, 110, 101, 114, 32, 108, 97, 98, 101, 108]⟩ with
  | true =>
    rw [show entV2 (Sc.open' σ0) ⟨#[105, 110, 110, 101, 114, 32, 108, 97, 98, 101, 108]⟩ = .tuple #[.int .i64 0, .int .i64 70] by unfold entV2; rw [htw]; rfl] at a7
    obtain ⟨H8, a8, g8⟩ := works15 (ext := ext) hx u7.fresh
    exact ⟨H8, blk_a3 hx hlna hb1 hlnw hb2 a1 a2 a3 a4 a5 a6 a7 a8 (by decide), (Grown.ofUpd G5 f2 U7).1.trans g8⟩
  | false =>
  rw [show entV2 (Sc.open' σ0) ⟨#[105, 110, 110, 101, 114, 32, 108, 97, 98, 101, 108]⟩ = .tuple #[.int .i64 (Sc.open' σ0).next, .int .i64 0] by unfold entV2; rw [htw]; rfl] at a7
  have hW7 : Within σ0 ((Sc.open' σ0).enter ⟨#[105, 110, 110, 101, 114, 32, 108, 97, 98, 101, 108]⟩ true) (0 + 1) (0 + 1) := (Within.refl σ0).open.enter _ _ htw
  have hw7 := wf_enter hw6 ⟨#[105, 110, 110, 101, 114, 32, 108, 97, 98, 101, 108]⟩ true
  refine theCall_list (F := fun z => ∃ H', z = some (.ret (.bool true), H') ∧ Grown H0 H') (hx _ _ _ (by decide)) Try.func3 (rs := [.tmp 8]) rfl rfl rfl (by simp) fun tm hl hi => ?_
  obtain ⟨tm1, e1, l1, x1, x2, x3, x9, x10, x11, x12, x13, x14, x15, x18, x19, x20⟩ := blk_s1 hx hl (hi 0) (hi 1) (hi 2) (hi 3) hlna hb1 hlnw hb2 a1 a2 a3 a4 a5 a6 a7 rfl
  obtain ⟨cA, p1, q1⟩ : ∃ c, (seqsF Try.f3)[14]? = some (.block 0 (.loop c)) ∧ (loopsF Try.f3)[0]? = some c := ⟨_, rfl, rfl⟩
  obtain ⟨cB, p2, q2⟩ : ∃ c, (seqsF Try.f3)[16]? = some (.block 2 (.loop c)) ∧ (loopsF Try.f3)[1]? = some c := ⟨_, rfl, rfl⟩
  obtain ⟨cC, p3, q3⟩ : ∃ c, (seqsF Try.f3)[18]? = some (.block 4 (.loop c)) ∧ (loopsF Try.f3)[2]? = some c := ⟨_, rfl, rfl⟩
  rw [theList_drop (n := 14), e1, thenA_normal, theList_at p1, theCode_block]
  refine loop_use (F := fun z => ∃ H', leaveR Try.prog [.tmp 8] (thenA (inBlockA 0 z) _) = some (.ret (.bool true), H') ∧ Grown H0 H')
    (I := (fun (k : Nat) (s : St) => ∃ tm H pre post σ, ∃ nb nt : Nat, s = ⟨tm, [], H⟩ ∧ lw = pre ++ post ∧ post.length = k ∧ tm.length = 186 ∧ tm.getD 1 undef = vw ∧ tm.getD 2 undef = .string nm ∧ tm.getD 3 undef = .bool tn ∧ tm.getD 9 undef = .pointer (some ⟨H0.next, 0, none⟩) ∧ tm.getD 10 undef = .int .i64 fa ∧ tm.getD 11 undef = .int .i64 ft ∧ tm.getD 12 undef = .bool fc ∧ tm.getD 13 undef = .int .i64 ta ∧ tm.getD 14 undef = .int .i64 te ∧ tm.getD 15 undef = v1 ∧ tm.getD 18 undef = .int .i64 ((nb : Int) + 1) ∧ tm.getD 19 undef = .int .i64 ((nt : Int) + 1) ∧ tm.getD 20 undef = .int .i64 pre.length ∧ Within σ0 σ (nb + 1) (nt + 1) ∧ USt H5 F2 H H0.next σ ∧ σ.wf (la.length + 2 + pre.length))) (Q := (fun (x : AExit) (s : St) => ∃ tm H σ, ∃ nb nt : Nat, s = ⟨tm, [], H⟩ ∧ x = .exit 0 ∧ tm.length = 186 ∧ tm.getD 1 undef = vw ∧ tm.getD 2 undef = .string nm ∧ tm.getD 3 undef = .bool tn ∧ tm.getD 9 undef = .pointer (some ⟨H0.next, 0, none⟩) ∧ tm.getD 10 undef = .int .i64 fa ∧ tm.getD 11 undef = .int .i64 ft ∧ tm.getD 12 undef = .bool fc ∧ tm.getD 13 undef = .int .i64 ta ∧ tm.getD 14 undef = .int .i64 te ∧ tm.getD 15 undef = v1 ∧ tm.getD 18 undef = .int .i64 ((nb : Int) + 1) ∧ tm.getD 19 undef = .int .i64 ((nt : Int) + 1) ∧ Within σ0 σ (nb + 1) (nt + 1) ∧ USt H5 F2 H H0.next σ ∧ σ.wf (la.length + 2 + lw.length))) (blk_l1 hx hw0 hb1 hb2 g5.fresh hsw5 hblk q1) lw.length ?_ ?_
  · exact ⟨_, _, [], lw, _, 0, 0, rfl, rfl, rfl, l1, x1, x2, x3, x9, x10, x11, x12, x13, x14, x15, x18, x19, x20, hW7, ⟨F7, s7, U7⟩, hw7⟩
  clear x1 x2 x3 x9 x10 x11 x12 x13 x14 x15 x18 x19 x20 l1 e1
  rintro x _ hx' ⟨tm, H, σ, nb, nt, rfl, rfl, hl, i1, i2, i3, i9, i10, i11, i12, i13, i14, i15, i18, i19, hW, hust, hwf⟩
  have hnb : nb < 1000 := by have := hW.bn; have := hwf.bl; omega
  have hnt : nt < 1000 := by have := hW.tn; have := hwf.tl; omega
  obtain ⟨tm1, e1, l1, x1, x2, x3, x9, x10, x11, x12, x13, x14, x15, x18, x19, x24⟩ := blk_s2 (ext := ext) (H := H) hl i1 i2 i3 i9 i10 i11 i12 i13 i14 i15 i18 i19
  rw [inBlockA_exit, if_pos rfl, thenA_normal, theList_drop (n := 1), e1, thenA_normal, List.drop_drop]
  rw [theList_at p2, theCode_block]
  refine loop_use (F := fun z => ∃ H', leaveR Try.prog [.tmp 8] (thenA (inBlockA 2 z) _) = some (.ret (.bool true), H') ∧ Grown H0 H')
    (I := (fun (k : Nat) (s : St) => ∃ tm H σ i, s = ⟨tm, [], H⟩ ∧ i + k = nb + 1 ∧ tm.length = 186 ∧ tm.getD 1 undef = vw ∧ tm.getD 2 undef = .string nm ∧ tm.getD 3 undef = .bool tn ∧ tm.getD 9 undef = .pointer (some ⟨H0.next, 0, none⟩) ∧ tm.getD 10 undef = .int .i64 fa ∧ tm.getD 11 undef = .int .i64 ft ∧ tm.getD 12 undef = .bool fc ∧ tm.getD 13 undef = .int .i64 ta ∧ tm.getD 14 undef = .int .i64 te ∧ tm.getD 15 undef = v1 ∧ tm.getD 18 undef = .int .i64 ((nb : Int) + 1) ∧ tm.getD 19 undef = .int .i64 ((nt : Int) + 1) ∧ tm.getD 24 undef = .int .i64 (i : Nat) ∧ Within σ0 σ k (nt + 1) ∧ USt H5 F2 H H0.next σ ∧ σ.wf (la.length + 2 + lw.length))) (Q := (fun (x : AExit) (s : St) => ∃ tm H σ, s = ⟨tm, [], H⟩ ∧ x = .exit 2 ∧ tm.length = 186 ∧ tm.getD 1 undef = vw ∧ tm.getD 2 undef = .string nm ∧ tm.getD 3 undef = .bool tn ∧ tm.getD 9 undef = .pointer (some ⟨H0.next, 0, none⟩) ∧ tm.getD 10 undef = .int .i64 fa ∧ tm.getD 11 undef = .int .i64 ft ∧ tm.getD 12 undef = .bool fc ∧ tm.getD 13 undef = .int .i64 ta ∧ tm.getD 14 undef = .int .i64 te ∧ tm.getD 15 undef = v1 ∧ tm.getD 19 undef = .int .i64 ((nt : Int) + 1) ∧ Within σ0 σ 0 (nt + 1) ∧ USt H5 F2 H H0.next σ ∧ σ.wf (la.length + 2 + lw.length))) (blk_l2 hx hw0 hb1 hb2 hnb q2) (nb + 1) ?_ ?_
  · exact ⟨_, _, σ, 0, rfl, by omega, l1, x1, x2, x3, x9, x10, x11, x12, x13, x14, x15, x18, x19, x24, hW, hust, hwf⟩
  clear hust hW hwf e1 l1 x1 x2 x3 x9 x10 x11 x12 x13 x14 x15 x18 x19 x24
  rintro x _ hx' ⟨tm, H, σ, rfl, rfl, hl, i1, i2, i3, i9, i10, i11, i12, i13, i14, i15, i19, hW, hust, hwf⟩
  obtain ⟨tm1, e1, l1, x1, x2, x3, x9, x10, x11, x12, x13, x14, x15, x19, x25⟩ := blk_s3 (ext := ext) (H := H) (nb := 0) hl i1 i2 i3 i9 i10 i11 i12 i13 i14 i15 i19
  rw [inBlockA_exit, if_pos rfl, thenA_normal, theList_drop (n := 1), e1, thenA_normal, List.drop_drop]
  rw [theList_at p3, theCode_block]
  refine loop_use (F := fun z => ∃ H', leaveR Try.prog [.tmp 8] (thenA (inBlockA 4 z) _) = some (.ret (.bool true), H') ∧ Grown H0 H')
    (I := (fun (k : Nat) (s : St) => ∃ tm H σ i, s = ⟨tm, [], H⟩ ∧ i + k = nt + 1 ∧ tm.length = 186 ∧ tm.getD 1 undef = vw ∧ tm.getD 2 undef = .string nm ∧ tm.getD 3 undef = .bool tn ∧ tm.getD 9 undef = .pointer (some ⟨H0.next, 0, none⟩) ∧ tm.getD 10 undef = .int .i64 fa ∧ tm.getD 11 undef = .int .i64 ft ∧ tm.getD 12 undef = .bool fc ∧ tm.getD 13 undef = .int .i64 ta ∧ tm.getD 14 undef = .int .i64 te ∧ tm.getD 15 undef = v1 ∧ tm.getD 19 undef = .int .i64 ((nt : Int) + 1) ∧ tm.getD 25 undef = .int .i64 (i : Nat) ∧ Within σ0 σ 0 k ∧ USt H5 F2 H H0.next σ ∧ σ.wf (la.length + 2 + lw.length))) (Q := (fun (x : AExit) (s : St) => ∃ tm H σ, s = ⟨tm, [], H⟩ ∧ x = .exit 4 ∧ tm.length = 186 ∧ tm.getD 1 undef = vw ∧ tm.getD 2 undef = .string nm ∧ tm.getD 3 undef = .bool tn ∧ tm.getD 9 undef = .pointer (some ⟨H0.next, 0, none⟩) ∧ tm.getD 10 undef = .int .i64 fa ∧ tm.getD 11 undef = .int .i64 ft ∧ tm.getD 12 undef = .bool fc ∧ tm.getD 13 undef = .int .i64 ta ∧ tm.getD 14 undef = .int .i64 te ∧ tm.getD 15 undef = v1 ∧ Within σ0 σ 0 0 ∧ USt H5 F2 H H0.next σ ∧ σ.wf (la.length + 2 + lw.length))) (blk_l3 hx hw0 hb1 hb2 hnt q3) (nt + 1) ?_ ?_
  · exact ⟨_, _, σ, 0, rfl, by omega, l1, x1, x2, x3, x9, x10, x11, x12, x13, x14, x15, x19, x25, hW, hust, hwf⟩
  clear hust hW hwf e1 l1 x1 x2 x3 x9 x10 x11 x12 x13 x14 x15 x19 x25
  rintro x _ hx' ⟨tm, H, σ, rfl, rfl, hl, i1, i2, i3, i9, i10, i11, i12, i13, i14, i15, hW, hust, hwf⟩
  rw [inBlockA_exit, if_pos rfl, thenA_normal]
  obtain ⟨F, hsA, hU⟩ := hust
  obtain ⟨e1, e2⟩ := hW.same hw0.ok nm nm tn
  obtain ⟨H8, b1, g8⟩ := find10 (ext := ext) hx hU.fresh hsA hwf.ok (by have := hwf.bl; omega) (by have := hwf.yl; omega) nm
  obtain ⟨H9, b2, g9⟩ := target11 (ext := ext) hx g8.fresh (hsA.grown hU.fresh g8) (by have := hwf.tl; omega) nm tn
  obtain ⟨v2, Hx, b3, o2, gx, _⟩ := slots12 (ext := ext) hx g9.fresh (hsA.grown hU.fresh (g8.trans g9)) (by have := hwf.yl; omega)
  rw [e1, hfv] at b1
  rw [e2, htv] at b2
  have d1 := fun H2 => o2.lenS isl32 H2
  obtain ⟨v3, b4, o3⟩ := own_upto (k := .i64) o2 sli32 hW.yn Hx
  rw [Nat.mul_one, ← List.map_take, hW.yl] at o3
  have o1' : Own H 3 1 v1 σ0.types.length (σ0.types.map tyC) := o1.mono fun j hj => hU.frame j (hv1F j hj) (o1.id_lt g5.fresh j hj)
  have o1x := ((g8.trans g9).trans gx).own hU.fresh o1'
  have b5 := same19 (ext := ext) hx o3 o1x (by have := hw0.yl; omega)
  obtain ⟨Hy, b6, gy⟩ := works15 (ext := ext) hx gx.fresh
  have hge : ((σ0.types.length : Nat) : Int) ≤ (σ.types.length : Int) := by have := hW.yn; omega
  exact ⟨Hy, blk_s4 (nb := 0) (nt := 0) hl hx i1 i2 i3 i9 i10 i11 i12 i13 i14 i15 b1 b2 b3 d1 c1 hge b4 b5 b6, (Grown.ofUpd G5 f2 hU).1.trans (((g8.trans g9).trans gx).trans gy)⟩

end Go.Proofs.Ytnjoaffnfjlcaaa

namespace Go.Proofs.Ytnjoaffnfjlcaaa
open Go Go.Proofs B

def kOne : List Stp := [⟨3, ⟨#[97]⟩, 0, false⟩, ⟨2, ⟨#[97]⟩, 1, false⟩, ⟨2, ⟨#[97]⟩, 2, false⟩, ⟨3, ⟨#[97]⟩, 0, false⟩, ⟨0, ⟨#[]⟩, 0, false⟩, ⟨2, ⟨#[97]⟩, 3, false⟩, ⟨3, ⟨#[97]⟩, 0, false⟩, ⟨1, ⟨#[]⟩, 0, false⟩, ⟨3, ⟨#[97]⟩, 0, false⟩, ⟨1, ⟨#[]⟩, 0, false⟩, ⟨6, ⟨#[]⟩, 0, false⟩, ⟨4, ⟨#[76]⟩, 0, true⟩, ⟨4, ⟨#[]⟩, 0, false⟩, ⟨6, ⟨#[]⟩, 0, false⟩, ⟨6, ⟨#[]⟩, 0, true⟩, ⟨6, ⟨#[76]⟩, 0, false⟩, ⟨4, ⟨#[76]⟩, 0, true⟩, ⟨5, ⟨#[]⟩, 0, false⟩, ⟨5, ⟨#[]⟩, 0, false⟩, ⟨5, ⟨#[]⟩, 0, false⟩, ⟨4, ⟨#[76]⟩, 0, false⟩, ⟨6, ⟨#[76]⟩, 0, true⟩, ⟨6, ⟨#[76]⟩, 0, false⟩]
def kTwo : List Stp := [⟨2, ⟨#[]⟩, 0, false⟩, ⟨3, ⟨#[]⟩, 0, false⟩, ⟨0, ⟨#[]⟩, 0, false⟩, ⟨2, ⟨#[120]⟩, 0, false⟩, ⟨7, ⟨#[]⟩, 0, false⟩, ⟨1, ⟨#[]⟩, 0, false⟩, ⟨3, ⟨#[120]⟩, 0, false⟩, ⟨2, ⟨#[121]⟩, 5, false⟩, ⟨8, ⟨#[]⟩, 0, false⟩, ⟨3, ⟨#[120]⟩, 0, false⟩, ⟨3, ⟨#[121]⟩, 0, false⟩, ⟨2, ⟨#[122]⟩, 6, false⟩, ⟨8, ⟨#[]⟩, 0, false⟩, ⟨3, ⟨#[122]⟩, 0, false⟩, ⟨4, ⟨#[75]⟩, 0, true⟩, ⟨7, ⟨#[]⟩, 0, false⟩, ⟨5, ⟨#[]⟩, 0, false⟩, ⟨6, ⟨#[]⟩, 0, false⟩, ⟨8, ⟨#[]⟩, 0, false⟩, ⟨6, ⟨#[]⟩, 0, false⟩, ⟨4, ⟨#[75]⟩, 0, false⟩, ⟨4, ⟨#[75, 50]⟩, 0, false⟩, ⟨6, ⟨#[]⟩, 0, true⟩, ⟨6, ⟨#[75, 50]⟩, 0, true⟩]

section
variable {H : AHeap}
theorem zf38s : (zeroOf Try.prog 38).isSome = true := by rw [zf38]; rfl
theorem b38_0 {k : Int} : buildS Try.prog H 38 [(0, .int .i64 k)] = some (.val (.agg #[.int .i64 k, .string ⟨#[]⟩, .int .i64 0, .bool false]) H) := by
  unfold buildS
  rw [zf38]
  have : Program.built Try.prog 38 [(0, .int .i64 k)] = some #[.int .i64 k, .string ⟨#[]⟩, .int .i64 0, .bool false] := by kernel_rfl
  rw [this]
theorem b38_01 {k : Int} {s : ByteArray} : buildS Try.prog H 38 [(0, .int .i64 k), (1, .string s)] = some (.val (.agg #[.int .i64 k, .string s, .int .i64 0, .bool false]) H) := by
  unfold buildS
  rw [zf38]
  have : Program.built Try.prog 38 [(0, .int .i64 k), (1, .string s)] = some #[.int .i64 k, .string s, .int .i64 0, .bool false] := by kernel_rfl
  rw [this]
theorem b38_012 {k t : Int} {s : ByteArray} : buildS Try.prog H 38 [(0, .int .i64 k), (1, .string s), (2, .int .i64 t)] = some (.val (.agg #[.int .i64 k, .string s, .int .i64 t, .bool false]) H) := by
  unfold buildS
  rw [zf38]
  have : Program.built Try.prog 38 [(0, .int .i64 k), (1, .string s), (2, .int .i64 t)] = some #[.int .i64 k, .string s, .int .i64 t, .bool false] := by kernel_rfl
  rw [this]
theorem b38_013 {k : Int} {s : ByteArray} {b : Bool} : buildS Try.prog H 38 [(0, .int .i64 k), (1, .string s), (3, .bool b)] = some (.val (.agg #[.int .i64 k, .string s, .int .i64 0, .bool b]) H) := by
  unfold buildS
  rw [zf38]
  have : Program.built Try.prog 38 [(0, .int .i64 k), (1, .string s), (3, .bool b)] = some #[.int .i64 k, .string s, .int .i64 0, .bool b] := by kernel_rfl
  rw [this]
theorem b38_03 {k : Int} {b : Bool} : buildS Try.prog H 38 [(0, .int .i64 k), (3, .bool b)] = some (.val (.agg #[.int .i64 k, .string ⟨#[]⟩, .int .i64 0, .bool b]) H) := by
  unfold buildS
  rw [zf38]
  have : Program.built Try.prog 38 [(0, .int .i64 k), (3, .bool b)] = some #[.int .i64 k, .string ⟨#[]⟩, .int .i64 0, .bool b] := by kernel_rfl
  rw [this]

def stpV (s : Stp) : Value := .agg (stpC s).toArray
theorem buildL_steps {L : List Stp} (h0 : L ≠ []) (hl : L.length < 1000) : buildL Try.prog H 22 L.length ((L.map stpV).zipIdx.map fun p => (p.2, p.1)) = some (.val (.slice (some ⟨H.next, 0, some 0⟩) L.length L.length) (H.push (.arr (L.flatMap stpC) (List.replicate (L.length * 4) 0) 0 38 false))) := by
  have hc : ((L.map stpV).flatMap fun v => v.cells.toList) = L.flatMap stpC := by
    rw [List.flatMap_map]
    congr 1
  have h := buildL_all (H := H) (vs := L.map stpV) sli22 (z := .agg #[.int .i64 0, .string ⟨#[]⟩, .int .i64 0, .bool false]) rfl rfl rfl (by decide) (by rw [List.length_map]; show L.length * 4 ≤ _; omega) (by simpa using h0) (fun v hv => by
    obtain ⟨s, _, rfl⟩ := List.mem_map.1 hv; rfl) (by
    rw [hc, List.all_eq_true]
    intro v hv
    obtain ⟨s, _, hv⟩ := List.mem_flatMap.1 hv
    simp only [stpC, List.mem_cons, List.not_mem_nil, or_false] at hv
    rcases hv with rfl | rfl | rfl | rfl <;> rfl)
  rw [List.length_map, hc] at h
  exact h

theorem bl_one : buildL Try.prog H 22 23 [(0, .agg #[.int .i64 3, .string ⟨#[97]⟩, .int .i64 0, .bool false]), (1, .agg #[.int .i64 2, .string ⟨#[97]⟩, .int .i64 1, .bool false]), (2, .agg #[.int .i64 2, .string ⟨#[97]⟩, .int .i64 2, .bool false]), (3, .agg #[.int .i64 3, .string ⟨#[97]⟩, .int .i64 0, .bool false]), (4, .agg #[.int .i64 0, .string ⟨#[]⟩, .int .i64 0, .bool false]), (5, .agg #[.int .i64 2, .string ⟨#[97]⟩, .int .i64 3, .bool false]), (6, .agg #[.int .i64 3, .string ⟨#[97]⟩, .int .i64 0, .bool false]), (7, .agg #[.int .i64 1, .string ⟨#[]⟩, .int .i64 0, .bool false]), (8, .agg #[.int .i64 3, .string ⟨#[97]⟩, .int .i64 0, .bool false]), (9, .agg #[.int .i64 1, .string ⟨#[]⟩, .int .i64 0, .bool false]), (10, .agg #[.int .i64 6, .string ⟨#[]⟩, .int .i64 0, .bool false]), (11, .agg #[.int .i64 4, .string ⟨#[76]⟩, .int .i64 0, .bool true]), (12, .agg #[.int .i64 4, .string ⟨#[]⟩, .int .i64 0, .bool false]), (13, .agg #[.int .i64 6, .string ⟨#[]⟩, .int .i64 0, .bool false]), (14, .agg #[.int .i64 6, .string ⟨#[]⟩, .int .i64 0, .bool true]), (15, .agg #[.int .i64 6, .string ⟨#[76]⟩, .int .i64 0, .bool false]), (16, .agg #[.int .i64 4, .string ⟨#[76]⟩, .int .i64 0, .bool true]), (17, .agg #[.int .i64 5, .string ⟨#[]⟩, .int .i64 0, .bool false]), (18, .agg #[.int .i64 5, .string ⟨#[]⟩, .int .i64 0, .bool false]), (19, .agg #[.int .i64 5, .string ⟨#[]⟩, .int .i64 0, .bool false]), (20, .agg #[.int .i64 4, .string ⟨#[76]⟩, .int .i64 0, .bool false]), (21, .agg #[.int .i64 6, .string ⟨#[76]⟩, .int .i64 0, .bool true]), (22, .agg #[.int .i64 6, .string ⟨#[76]⟩, .int .i64 0, .bool false])] = some (.val (.slice (some ⟨H.next, 0, some 0⟩) 23 23) (H.push (.arr (kOne.flatMap stpC) (List.replicate (kOne.length * 4) 0) 0 38 false))) :=
  buildL_steps (L := kOne) (by simp [kOne]) (by decide)
theorem bl_two : buildL Try.prog H 22 24 [(0, .agg #[.int .i64 2, .string ⟨#[]⟩, .int .i64 0, .bool false]), (1, .agg #[.int .i64 3, .string ⟨#[]⟩, .int .i64 0, .bool false]), (2, .agg #[.int .i64 0, .string ⟨#[]⟩, .int .i64 0, .bool false]), (3, .agg #[.int .i64 2, .string ⟨#[120]⟩, .int .i64 0, .bool false]), (4, .agg #[.int .i64 7, .string ⟨#[]⟩, .int .i64 0, .bool false]), (5, .agg #[.int .i64 1, .string ⟨#[]⟩, .int .i64 0, .bool false]), (6, .agg #[.int .i64 3, .string ⟨#[120]⟩, .int .i64 0, .bool false]), (7, .agg #[.int .i64 2, .string ⟨#[121]⟩, .int .i64 5, .bool false]), (8, .agg #[.int .i64 8, .string ⟨#[]⟩, .int .i64 0, .bool false]), (9, .agg #[.int .i64 3, .string ⟨#[120]⟩, .int .i64 0, .bool false]), (10, .agg #[.int .i64 3, .string ⟨#[121]⟩, .int .i64 0, .bool false]), (11, .agg #[.int .i64 2, .string ⟨#[122]⟩, .int .i64 6, .bool false]), (12, .agg #[.int .i64 8, .string ⟨#[]⟩, .int .i64 0, .bool false]), (13, .agg #[.int .i64 3, .string ⟨#[122]⟩, .int .i64 0, .bool false]), (14, .agg #[.int .i64 4, .string ⟨#[75]⟩, .int .i64 0, .bool true]), (15, .agg #[.int .i64 7, .string ⟨#[]⟩, .int .i64 0, .bool false]), (16, .agg #[.int .i64 5, .string ⟨#[]⟩, .int .i64 0, .bool false]), (17, .agg #[.int .i64 6, .string ⟨#[]⟩, .int .i64 0, .bool false]), (18, .agg #[.int .i64 8, .string ⟨#[]⟩, .int .i64 0, .bool false]), (19, .agg #[.int .i64 6, .string ⟨#[]⟩, .int .i64 0, .bool false]), (20, .agg #[.int .i64 4, .string ⟨#[75]⟩, .int .i64 0, .bool false]), (21, .agg #[.int .i64 4, .string ⟨#[75, 50]⟩, .int .i64 0, .bool false]), (22, .agg #[.int .i64 6, .string ⟨#[]⟩, .int .i64 0, .bool true]), (23, .agg #[.int .i64 6, .string ⟨#[75, 50]⟩, .int .i64 0, .bool true])] = some (.val (.slice (some ⟨H.next, 0, some 0⟩) 24 24) (H.push (.arr (kTwo.flatMap stpC) (List.replicate (kTwo.length * 4) 0) 0 38 false))) :=
  buildL_steps (L := kTwo) (by simp [kTwo]) (by decide)

theorem stpC_drop (l : List Stp) {i : Nat} (hi : i < l.length) : ((l.flatMap stpC).drop (i * 4)).take 4 = stpC (l.getD i ⟨0, ⟨#[]⟩, 0, false⟩) := by
  induction l generalizing i with
  | nil => simp at hi
  | cons t l ih =>
    cases i with
    | zero => simp [stpC]
    | succ i =>
      simp only [List.length_cons] at hi
      have h3 : ∀ X : List Value, (stpC t ++ X).drop (i * 4 + 4) = X.drop (i * 4) := fun X => rfl
      rw [List.flatMap_cons, show (i + 1) * 4 = i * 4 + 4 by omega, h3, ih (by omega)]
      rfl

theorem flat_len (l : List Stp) : (l.flatMap stpC).length = l.length * 4 := by
  induction l with
  | nil => rfl
  | cons t l ih => rw [List.flatMap_cons, List.length_append, ih, List.length_cons]; simp [stpC]; omega

/-- A script that the program has written out. -/
theorem scr_lit {K : Nat} {L : List Stp} (hK : H.get K = some (.arr (L.flatMap stpC) (List.replicate (L.length * 4) 0) 0 38 false)) {i : Nat} (hi : i ≤ L.length) : Scr H (.slice (some ⟨K, 0, some 0⟩) i L.length) (L.take i) := by
  have hl : (L.take i).length = i := by rw [List.length_take]; omega
  refine ⟨⟨some ⟨K, 0, some 0⟩, L.length, by rw [hl], by rw [hl]; exact hi, fun _ => rfl⟩, fun _ => ?_, fun j hj => ?_⟩
  · show H.elemOk K 38 = true
    unfold AHeap.elemOk AHeap.view
    rw [hK]
    rfl
  · rw [hl] at hj
    have e : (L.take i).getD j ⟨0, ⟨#[]⟩, 0, false⟩ = L.getD j ⟨0, ⟨#[]⟩, 0, false⟩ := by
      rw [List.getD_eq_getElem?_getD, List.getD_eq_getElem?_getD, List.getElem?_take_of_lt hj]
    rw [e, ← stpC_drop L (by omega)]
    show H.readN ⟨K, 0 + j * 4, some 0⟩ 4 = _
    rw [Nat.zero_add]
    refine readN_arr hK 4 (j * 4) ?_ (fun m _ _ => ?_)
    · rw [flat_len]; omega
    · rw [List.getD_eq_getElem?_getD, List.getElem?_replicate]
      split <;> simp

theorem sl_lit {K n i : Nat} (hi : i ≤ n) (H2 : AHeap) : sliceS Try.prog H2 22 (.slice (some ⟨K, 0, some 0⟩) n n) none (some (.int .i64 (i : Nat))) = some (.val (.slice (some ⟨K, 0, some 0⟩) i n) H2) := by
  unfold sliceS
  rw [sli22]
  dsimp only
  unfold sliceOf boundOf
  have e : (if (0 : Int) ≤ (i : Int) then some ((i : Int)).toNat else none) = some i := by rw [if_pos (by omega)]; simp
  dsimp only
  rw [e]
  dsimp only
  rw [if_pos ⟨Nat.zero_le _, hi⟩, if_pos (.inl rfl)]
  rfl
end

/-- The state behind so many declarations of one name. -/
def kSt (i : Nat) : Sc := ⟨(List.range i).map (fun j => [(⟨#[97]⟩, j)]) ++ [[]], [], (List.range i).map fun (j : Nat) => (j : Int), 0⟩

theorem kSt_top (i : Nat) : (kSt i).top = [] := by
  unfold Sc.top kSt
  rw [List.getD_eq_getElem?_getD, List.getElem?_append_right (by simp)]
  simp
theorem kSt_err {i : Nat} (hi : i ≠ 256) : (kSt i).declErr ⟨#[97]⟩ = 0 := by
  unfold Sc.declErr
  rw [kSt_top]
  have : (kSt i).types.length = i := by simp [kSt]
  rw [this, if_neg hi]
  rfl
theorem kSt_next (i : Nat) (hi : i ≠ 256) : ((kSt i).decl ⟨#[97]⟩ (i : Int)).open' = kSt (i + 1) := by
  unfold Sc.decl
  rw [if_pos (kSt_err hi), kSt_top]
  have hl : (kSt i).blocks.length - 1 = i := by simp [kSt]
  have ht : (kSt i).blocks.take i = (List.range i).map fun j => [((⟨#[97]⟩ : ByteArray), j)] := by
    show (((List.range i).map (fun j => [((⟨#[97]⟩ : ByteArray), j)])) ++ [[]]).take i = _
    exact List.take_left' (by simp)
  have hy : (kSt i).types.length = i := by simp [kSt]
  rw [hl, ht, hy]
  unfold Sc.open' kSt
  simp [List.range_succ]
theorem kSt_declV {i : Nat} (hi : i ≠ 256) : declV (kSt i) ⟨#[97]⟩ = .tuple #[.int .i64 (i : Nat), .int .i64 0] := by
  have hy : (kSt i).types.length = i := by simp [kSt]
  unfold declV
  rw [kSt_err hi, hy]
  rfl
theorem kSt_full : (kSt 256).declErr ⟨#[97]⟩ = 73 := by
  unfold Sc.declErr
  rw [kSt_top]
  have : (kSt 256).types.length = 256 := by simp [kSt]
  rw [this]
  rfl
theorem kSt_wf (i : Nat) (hi : i ≤ 256) : (kSt i).wf i := by
  refine ⟨by simp [kSt], by simp [kSt], by simp [kSt], by simp [kSt], by simp [kSt], ?_, by simp [kSt]; exact hi⟩
  intro m hm p hp
  simp only [kSt, List.mem_append, List.mem_map, List.mem_range, List.mem_singleton] at hm
  rcases hm with ⟨j, hj, rfl⟩ | rfl
  · simp at hp; subst hp; simpa [kSt] using hj
  · simp at hp
theorem kSt_closed : (kSt 256).close = ⟨(List.range 256).map (fun j => [(⟨#[97]⟩, j)]), [], (List.range 256).map fun (j : Nat) => (j : Int), 0⟩ := by
  unfold Sc.close
  have hl : (kSt 256).blocks.length = 257 := by simp [kSt]
  rw [hl, if_neg (by decide)]
  have ht : (kSt 256).blocks.take (257 - 1) = (List.range 256).map fun j => [((⟨#[97]⟩ : ByteArray), j)] := by
    show (((List.range 256).map (fun j => [((⟨#[97]⟩ : ByteArray), j)])) ++ [[]]).take 256 = _
    exact List.take_left' (by simp)
  rw [ht]
  rfl
def kEnd : Sc := ⟨(List.range 256).map (fun j => [(⟨#[97]⟩, j)]), [], (List.range 256).map fun (j : Nat) => (j : Int), 0⟩
theorem kEnd_at : kEnd.blocks.getD 255 [] = [(⟨#[97]⟩, 255)] := by
  unfold kEnd
  rw [List.getD_eq_getElem?_getD, List.getElem?_map, List.getElem?_range (by decide)]
  rfl
theorem kEnd_err : kEnd.declErr ⟨#[97]⟩ = 70 := by
  unfold Sc.declErr Sc.top
  have hl : kEnd.blocks.length = 256 := by simp [kEnd]
  rw [hl, kEnd_at]
  rfl
theorem kEnd_find : findV kEnd ⟨#[97]⟩ = .tuple #[.int .i64 (255 : Nat), .int .i64 255, .bool true] := by
  have hl : kEnd.blocks.length = 256 := by simp [kEnd]
  have h1 : kEnd.findAt ⟨#[97]⟩ = some 255 := by
    unfold Sc.findAt
    rw [hl, lastI_succ, kEnd_at]
    rfl
  have h2 : kEnd.find ⟨#[97]⟩ = some 255 := by
    unfold Sc.find
    rw [h1, Option.bind_some, kEnd_at]
    rfl
  have h3 : kEnd.types.getD 255 0 = 255 := by
    unfold kEnd
    rw [List.getD_eq_getElem?_getD, List.getElem?_map, List.getElem?_range (by decide)]
    rfl
  unfold findV
  rw [h2]
  show Value.tuple #[.int .i64 (255 : Nat), tyC (kEnd.types.getD 255 0), .bool true] = _
  rw [h3]
  rfl


theorem known_r0 {ext : CallT} (hx : ∀ f args H, f ≠ 22 → ext f args H = none) (hC : CopyOK ext) {K1 K2 i : Nat} {H : AHeap} (hK1 : H.get K1 = some (.arr (kOne.flatMap stpC) (List.replicate (kOne.length * 4) 0) 0 38 false)) (hK2 : H.get K2 = some (.arr (kTwo.flatMap stpC) (List.replicate (kTwo.length * 4) 0) 0 38 false)) (hf : H.Fresh) (hi : i ≤ 23) :
    ∃ H1 H2 H3 H4 H5, theCall Try.prog ext 5 [.slice (some ⟨K1, 0, some 0⟩) i 23] H = some (.ret (.bool true), H1) ∧ theCall Try.prog ext 5 [.slice (some ⟨K2, 0, some 0⟩) i 24] H1 = some (.ret (.bool true), H2) ∧
      theCall Try.prog ext 4 [.slice (some ⟨K1, 0, some 0⟩) i 23] H2 = some (.ret (.bool true), H3) ∧ theCall Try.prog ext 3 [.slice (some ⟨K1, 0, some 0⟩) i 23, .slice (some ⟨K2, 0, some 0⟩) 24 24, .string ⟨#[97]⟩, .bool true] H3 = some (.ret (.bool true), H4) ∧
      theCall Try.prog ext 3 [.slice (some ⟨K2, 0, some 0⟩) 24 24, .slice (some ⟨K1, 0, some 0⟩) i 23, .string ⟨#[75]⟩, .bool false] H4 = some (.ret (.bool true), H5) ∧ Grown H H5 := by
  have s1 : Scr H (.slice (some ⟨K1, 0, some 0⟩) i 23) (kOne.take i) := scr_lit (L := kOne) hK1 hi
  have s2 : Scr H (.slice (some ⟨K2, 0, some 0⟩) i 24) (kTwo.take i) := scr_lit (L := kTwo) hK2 (by show i ≤ 24; omega)
  have s3 : Scr H (.slice (some ⟨K2, 0, some 0⟩) 24 24) (kTwo.take 24) := scr_lit (L := kTwo) hK2 (by decide)
  obtain ⟨H1, e1, g1⟩ := scopePlays5 (ext := ext) hx hC hf s1
  obtain ⟨H2, e2, g2⟩ := scopePlays5 (ext := ext) hx hC g1.fresh (s2.grown hf g1)
  have g12 := g1.trans g2
  obtain ⟨H3, e3, g3⟩ := rises4 (ext := ext) hx g2.fresh (s1.grown hf g12)
  have g13 := g12.trans g3
  obtain ⟨H4, e4, g4⟩ := blocks3 (ext := ext) hx g3.fresh (s1.grown hf g13) (s3.grown hf g13) ⟨#[97]⟩ true
  have g14 := g13.trans g4
  obtain ⟨H5, e5, g5⟩ := blocks3 (ext := ext) hx g4.fresh (s3.grown hf g14) (s1.grown hf g14) ⟨#[75]⟩ false
  exact ⟨H1, H2, H3, H4, H5, e1, e2, e3, e4, e5, g14.trans g5⟩

set_option maxHeartbeats 16000000 in
set_option maxRecDepth 100000 in
theorem known_l0 {ext : CallT} (hx : ∀ f args H, f ≠ 22 → ext f args H = none) (hC : CopyOK ext) {K1 K2 : Nat} {c : Code} (hc : (loopsF Try.f7)[0]? = some c) :
    ∀ k s, (fun k s => ∃ tm H i, s = ⟨tm, [], H⟩ ∧ i + k = 24 ∧ H.get K1 = some (.arr (kOne.flatMap stpC) (List.replicate (kOne.length * 4) 0) 0 38 false) ∧ H.get K2 = some (.arr (kTwo.flatMap stpC) (List.replicate (kTwo.length * 4) 0) 0 38 false) ∧ H.Fresh ∧ tm.length = 194 ∧ tm.getD 1 undef = .slice (some ⟨K1, 0, some 0⟩) 23 23 ∧ tm.getD 2 undef = .slice (some ⟨K2, 0, some 0⟩) 24 24 ∧ tm.getD 3 undef = .int .i64 (i : Nat)) k s →
      ∃ x s', theCode Try.prog ext false (.loop c) s = some (x, s') ∧ x ≠ .normal ∧ (fun x s => x = .exit 0 ∧ ∃ tm H, s = ⟨tm, [], H⟩ ∧ H.get K1 = some (.arr (kOne.flatMap stpC) (List.replicate (kOne.length * 4) 0) 0 38 false) ∧ H.get K2 = some (.arr (kTwo.flatMap stpC) (List.replicate (kTwo.length * 4) 0) 0 38 false) ∧ H.Fresh ∧ tm.length = 194 ∧ tm.getD 1 undef = .slice (some ⟨K1, 0, some 0⟩) 23 23 ∧ tm.getD 2 undef = .slice (some ⟨K2, 0, some 0⟩) 24 24) x s' := by
  refine theCode_loop_inv _ _ ?_
  rintro k _ ⟨tm, H, i, rfl, hik, hK1, hK2, hf, hl, i1, i2, i3⟩
  have h0 : (loopsF Try.f7)[0]? = some _ := rfl
  rw [h0] at hc
  obtain rfl := Option.some.inj hc
  clear hc h0
  cases k with
  | zero =>
    right
    have hlt : ¬ ((i : Int) ≤ 23) := by omega
    refine ⟨?x0, ?s0, ?h0, ?hx0, ?hq0⟩
    case h0 =>
      simp (config := { decide := true }) only [theCode_seq, theCode_list, theCode_exit, theCode_if, evalList_plain, evalList_nil, nd_move, nd_binOp, nd_call, ok_tmp, opA_move, opA_bin, opA_len, contA_val, putT_some, aev_tmp, rd_same, rd_ne, List.length_set, thenA_normal, thenA_exit, boolOf_bool, bin_leq, lenS_slice, Option.isSome_some, ne_eq, ↓reduceIte, Nat.reduceLT, Option.some.injEq, decide_false, eq_self, hl, i1, i3, hlt, Int.cast_ofNat_Int]
      rfl
    case hx0 => exact fun h => by cases h
    case hq0 =>
      refine ⟨rfl, _, H, rfl, hK1, hK2, hf, by simp only [List.length_set, hl], ?_, ?_⟩
      all_goals simp (config := { decide := true }) only [rd_ne, ne_eq, i1, i2]
  | succ k =>
    left
    have hlt : (i : Int) ≤ 23 := by omega
    have hmin : ¬ ((24 : Int) < (i : Int)) := by omega
    have hw : IntKind.i64.wrap ((i : Int) + 1) = ((i + 1 : Nat) : Int) := by rw [IntWalk.i64_in _ (by omega)]; omega
    obtain ⟨H1, H2, H3, H4, H5, e1, e2, e3, e4, e5, g5⟩ := known_r0 (ext := ext) hx hC hK1 hK2 hf (i := i) (by omega)
    have q1 := fun H => sl_lit (K := K1) (n := 23) (i := i) (by omega) H
    have q2 := fun H => sl_lit (K := K2) (n := 24) (i := i) (by omega) H
    refine ⟨?s1, ?h1, k, Nat.lt_succ_self _, ?q1⟩
    case h1 =>
      simp (config := { decide := true }) only [theCode_seq, theCode_list, theCode_skip, theCode_block, theCode_if, evalList_plain, evalList_guard, evalList_nil, nd_move, nd_assign, nd_pick, nd_binOp, nd_unOp, nd_slice, nd_call, ok_tmp, ok_const, ok_func, cl_int, cl_bool, cl_string, opA_move, opA_assign, opA_pick, opA_bin, opA_un, opA_call, opA_len, opA_sliceHi, contA_val, contA_enter, callA_ret, putT_some, aev_tmp, aev_const, aev_func, rd_same, rd_ne, List.length_set, thenA_normal, inBlockA_normal, boolOf_bool, un_not,
    bin_leq, bin_add, callS_func, lenS_slice, yieldA_S, slotAt_succ, slotAt_zero, yieldS_some, Option.isSome_some, ne_eq, ↓reduceIte, Nat.reduceLT, Option.some.injEq, List.map_cons, List.map_nil, List.all_cons, List.all_nil, Bool.and_true, List.nil_append, List.append_nil, decide_true, eq_self, opA_minE, minS_int, hl, i1, i2, i3, hlt, hmin, Int.cast_ofNat_Int, sli22, q1, q2, en5, e1, e2, en4, e3, en3, e4, e5, Bool.not_true, hw]
      rfl
    case q1 =>
      refine ⟨_, H5, i + 1, rfl, by omega, g5.has hf hK1, g5.has hf hK2, g5.fresh, by simp only [List.length_set, hl], ?_, ?_, ?_⟩
      all_goals simp (config := { decide := true }) only [rd_ne, rd_same, List.length_set, hl, ne_eq, i1, i2]


set_option maxHeartbeats 16000000 in
set_option maxRecDepth 100000 in
theorem known_l1 {ext : CallT} (hx : ∀ f args H, f ≠ 22 → ext f args H = none) {b : Nat} {c : Code} (hc : (loopsF Try.f7)[1]? = some c) :
    ∀ k s, (fun k s => ∃ tm H F i, s = ⟨tm, [], H⟩ ∧ i + k = 256 ∧ ScopeAt H b (kSt i) F ∧ H.Fresh ∧ tm.length = 194 ∧ tm.getD 4 undef = .pointer (some ⟨b, 0, none⟩) ∧ tm.getD 5 undef = .int .i64 (i : Nat)) k s →
      ∃ x s', theCode Try.prog ext false (.loop c) s = some (x, s') ∧ x ≠ .normal ∧ (fun x s => x = .exit 2 ∧ ∃ tm H F, s = ⟨tm, [], H⟩ ∧ ScopeAt H b (kSt 256) F ∧ H.Fresh ∧ tm.length = 194 ∧ tm.getD 4 undef = .pointer (some ⟨b, 0, none⟩)) x s' := by
  refine theCode_loop_inv _ _ ?_
  rintro k _ ⟨tm, H, F, i, rfl, hik, hS, hf, hl, i4, i5⟩
  have h0 : (loopsF Try.f7)[1]? = some _ := rfl
  rw [h0] at hc
  obtain rfl := Option.some.inj hc
  clear hc h0
  cases k with
  | zero =>
    right
    obtain rfl : i = 256 := by omega
    have hlt : ¬ (((256 : Nat) : Int) < 256) := by omega
    refine ⟨?x0, ?s0, ?h0, ?hx0, ?hq0⟩
    case h0 =>
      simp (config := { decide := true }) only [theCode_seq, theCode_list, theCode_exit, theCode_if, evalList_plain, evalList_nil, nd_move, nd_binOp, ok_tmp, ok_const, cl_int, opA_move, opA_bin, contA_val, putT_some, aev_tmp, aev_const, rd_same, List.length_set, thenA_normal, thenA_exit, boolOf_bool, bin_lss, Option.isSome_some, ↓reduceIte, Nat.reduceLT, Option.some.injEq, decide_false, eq_self, hl, i5]
      rfl
    case hx0 => exact fun h => by cases h
    case hq0 =>
      refine ⟨rfl, _, H, F, rfl, hS, hf, by simp only [List.length_set, hl], ?_⟩
      simp (config := { decide := true }) only [rd_ne, ne_eq, i4]
  | succ k =>
    left
    have hlt : (i : Int) < 256 := by omega
    have hw := kSt_wf i (by omega)
    have hwr : IntKind.i64.wrap ((i : Int) + 1) = ((i + 1 : Nat) : Int) := by rw [IntWalk.i64_in _ (by omega)]; omega
    obtain ⟨H1, F1, e1, hS1, u1⟩ := declare20 (ext := ext) hx hf hS hw.pos (by have := hw.bl; omega) (by have := hw.yl; omega) ⟨#[97]⟩ (i : Int)
    rw [kSt_declV (by omega)] at e1
    have hw1 := wf_decl hw ⟨#[97]⟩ (i : Int)
    obtain ⟨H2, F2, e2, hS2, u2⟩ := open13 (ext := ext) hx u1.fresh hS1 (by have := hw1.bl; omega)
    rw [kSt_next i (by omega)] at hS2
    refine ⟨?s1, ?h1, k, Nat.lt_succ_self _, ?q1⟩
    case h1 =>
      simp (config := { decide := true }) only [theCode_seq, theCode_list, theCode_skip, theCode_block, theCode_if, evalList_plain, evalList_guard, evalList_nil, nd_move, nd_assign, nd_pick, nd_binOp, nd_extract, nd_call, ok_tmp, ok_const, ok_func, cl_int, cl_bool, cl_string, opA_move, opA_assign, opA_pick, opA_extract, opA_bin, opA_call, contA_val, contA_enter, callA_ret, putT_some, aev_tmp, aev_const, aev_func, rd_same, rd_ne, List.length_set, valA_some, thenA_normal, inBlockA_normal, boolOf_bool, extractS_tuple, bin_lss, bin_neq, bin_add, callS_func, yieldA_S, slotAt_succ, slotAt_zero, yieldS_some, List.getElem?_toArray, List.getElem?_cons_zero, List.getElem?_cons_succ, Option.isSome_some, ne_eq, ↓reduceIte, Nat.reduceLT, Option.some.injEq, List.map_cons, List.map_nil, List.all_cons, List.all_nil, Bool.and_true, List.nil_append, List.append_nil, decide_true, eq_self, hl, i4, i5, hlt, en20, e1, en13, e2, Bool.not_true, hwr]
      rfl
    case q1 =>
      refine ⟨_, H2, F2, i + 1, rfl, by omega, hS2, u2.fresh, by simp only [List.length_set, hl], ?_, ?_⟩
      all_goals simp (config := { decide := true }) only [rd_ne, rd_same, List.length_set, hl, ne_eq, i4]

theorem kSt_same (ty : Int) : (kSt 256).decl ⟨#[97]⟩ ty = kSt 256 := by
  unfold Sc.decl
  rw [kSt_full]
  rfl
theorem kEnd_same (ty : Int) : kEnd.decl ⟨#[97]⟩ ty = kEnd := by
  unfold Sc.decl
  rw [kEnd_err]
  rfl

set_option maxHeartbeats 16000000 in
set_option maxRecDepth 100000 in
theorem known7 {ext : CallT} (hx : ∀ f args H, f ≠ 22 → ext f args H = none) (hC : CopyOK ext) (h22 : ∀ H, ext 22 [.pointer none] H = none) {H : AHeap} (hf : H.Fresh) :
    ∃ H', theCall Try.prog ext 7 [] H = some (.ret (.bool true), H') := by
  obtain ⟨K1, hk1⟩ : ∃ K, H.next = K := ⟨_, rfl⟩
  obtain ⟨Ha, ea⟩ : ∃ X, H.push (.arr (kOne.flatMap stpC) (List.replicate (kOne.length * 4) 0) 0 38 false) = X := ⟨_, rfl⟩
  have ga : Grown H Ha := by rw [← ea]; exact Grown.push hf _
  have xa : Ha.get K1 = some (.arr (kOne.flatMap stpC) (List.replicate (kOne.length * 4) 0) 0 38 false) := by rw [← ea, ← hk1]; exact get_push_new
  obtain ⟨K2, hk2⟩ : ∃ K, Ha.next = K := ⟨_, rfl⟩
  obtain ⟨Hb, eb⟩ : ∃ X, Ha.push (.arr (kTwo.flatMap stpC) (List.replicate (kTwo.length * 4) 0) 0 38 false) = X := ⟨_, rfl⟩
  have gb : Grown Ha Hb := by rw [← eb]; exact Grown.push ga.fresh _
  have xb : Hb.get K2 = some (.arr (kTwo.flatMap stpC) (List.replicate (kTwo.length * 4) 0) 0 38 false) := by rw [← eb, ← hk2]; exact get_push_new
  have xa' := gb.has ga.fresh xa
  refine theCall_goal (F := fun z => ∃ H', z = some (.ret (.bool true), H')) (hx _ _ _ (by decide)) Try.func7 (rs := [.tmp 0]) rfl rfl rfl (by simp) fun tm hl hi => ?_
  replace hl : tm.length = 194 := hl
  simp (config := { decide := true }) only [theCode_seq, theCode_list, theCode_ret, theCode_block, evalList_plain, evalList_nil, nd_move, nd_assign, nd_build, nd_buildSlice, nd_binOp, nd_call, ok_tmp, ok_const, ok_func, cl_int, cl_bool, cl_string, opA_move, opA_assign, opA_bin, opA_call, opA_call0, opA_build, contA_val, contA_enter, putT_some, aev_tmp, aev_const, aev_func, rd_same, rd_ne, List.length_set, thenA_normal, callS_func, ne_eq, Nat.reduceLT, List.map_cons, List.map_nil, List.all_cons, List.all_nil, Bool.and_true, List.nil_append, List.append_nil, eq_self, opA_buildLe, zf38s, b38_0, b38_01, b38_012, b38_013, b38_03, bl_one, bl_two, hl, ea, hk1, eb, hk2]
  refine loop_use (F := fun z => ∃ H', leaveR Try.prog [.tmp 0] (thenA (inBlockA 0 z) _) = some (.ret (.bool true), H')) (known_l0 hx hC (K1 := K1) (K2 := K2) rfl) 24 ⟨_, Hb, 0, rfl, rfl, xa', xb, gb.fresh, ?_, ?_, ?_, ?_⟩ ?_
  · simp only [List.length_set, hl]
  · simp (config := { decide := true }) only [rd_ne, rd_same, List.length_set, hl, ne_eq]
  · simp (config := { decide := true }) only [rd_ne, rd_same, List.length_set, hl, ne_eq]
  · simp (config := { decide := true }) only [rd_same, List.length_set, hl]
    rfl
  clear hl hi xa xa' xb ga gb ea eb
  rintro x _ hx' ⟨rfl, tm, H, rfl, hK1, hK2, hf, hl, i1, i2⟩
  have s3 : Scr H (.slice (some ⟨K2, 0, some 0⟩) 24 24) (kTwo.take 24) := scr_lit (L := kTwo) hK2 (by decide)
  obtain ⟨H1, e1, g1⟩ := scopePlays5 (ext := ext) hx hC hf s3
  obtain ⟨H2, e2, g2⟩ := none6 (ext := ext) hx h22 g1.fresh ⟨#[]⟩ 0 false
  obtain ⟨H3, e3, g3⟩ := none6 (ext := ext) hx h22 g2.fresh ⟨#[97]⟩ (-5) true
  obtain ⟨H4, F4, e4, hS4, g4, n4⟩ := new8 (ext := ext) hx g3.fresh
  simp (config := { decide := true }) only [theCode_skip, theCode_if, evalList_plain, evalList_guard, evalList_nil, nd_move, nd_assign, nd_pick, nd_unOp, nd_call, ok_tmp, ok_const, ok_func, cl_int, cl_bool, cl_string, opA_move, opA_assign, opA_pick, opA_un, opA_call, contA_val, contA_enter, callA_ret, putT_some, aev_tmp, aev_const, aev_func, rd_same, rd_ne, List.length_set, thenA_normal, inBlockA_exit, boolOf_bool, un_not,
    callS_func, yieldA_S, slotAt_succ, slotAt_zero, yieldS_some, Option.isSome_some, ne_eq, ↓reduceIte, Nat.reduceLT, Option.some.injEq, List.map_cons, List.map_nil, List.all_cons, List.all_nil, Bool.and_true, List.nil_append, List.append_nil, eq_self, hl, i2, e1, en6, e2, e3, e4, Bool.not_true]
  refine loop_use (F := fun z => ∃ H', leaveR Try.prog [.tmp 0] (thenA (inBlockA 2 z) _) = some (.ret (.bool true), H')) (known_l1 hx (b := H3.next) rfl) 256 ⟨_, H4, F4, 0, rfl, rfl, hS4, g4.fresh, ?_, ?_, ?_⟩ ?_
  · simp only [List.length_set, hl]
  · simp (config := { decide := true }) only [rd_ne, rd_same, List.length_set, hl, ne_eq]
  · simp (config := { decide := true }) only [rd_same, List.length_set, hl]
    rfl
  generalize H3.next = b at *
  clear hl hK1 hK2 i1 i2 s3 e1 e2 e3 e4 g1 g2 g3 g4 hS4 n4 hf
  rintro x _ hx' ⟨rfl, tm, H, F, rfl, hS, hf, hl, i4⟩
  have hw := kSt_wf 256 (Nat.le_refl _)
  obtain ⟨H1, F1, e1, hS1, u1⟩ := declare20 (ext := ext) hx hf hS hw.pos (by have := hw.bl; omega) (by have := hw.yl; omega) ⟨#[97]⟩ 1
  have hv : declV (kSt 256) ⟨#[97]⟩ = .tuple #[.int .i64 0, .int .i64 73] := by unfold declV; rw [kSt_full]; rfl
  rw [hv] at e1
  rw [kSt_same] at hS1
  obtain ⟨H2, F2, e2, hS2, u2⟩ := declare20 (ext := ext) hx u1.fresh hS1 hw.pos (by have := hw.bl; omega) (by have := hw.yl; omega) ⟨#[97]⟩ 1
  rw [hv] at e2
  rw [kSt_same] at hS2
  obtain ⟨H3, F3, e3, hS3, u3⟩ := close17 (ext := ext) hx u2.fresh hS2 (by have := hw.bl; omega)
  rw [kSt_closed] at hS3
  have hwE : kEnd.wf 256 := by have := wf_close hw; rw [kSt_closed] at this; exact this
  have hS3' : ScopeAt H3 b kEnd F3 := hS3
  obtain ⟨H4, F4, e4, hS4, u4⟩ := declare20 (ext := ext) hx u3.fresh hS3' hwE.pos (by have := hwE.bl; omega) (by have := hwE.yl; omega) ⟨#[97]⟩ 1
  have hv4 : declV kEnd ⟨#[97]⟩ = .tuple #[.int .i64 0, .int .i64 70] := by unfold declV; rw [kEnd_err]; rfl
  rw [hv4] at e4
  rw [kEnd_same] at hS4
  obtain ⟨H5, e5, g5⟩ := find10 (ext := ext) hx u4.fresh hS4 hwE.ok (by have := hwE.bl; omega) (by have := hwE.yl; omega) ⟨#[97]⟩
  rw [kEnd_find] at e5
  obtain ⟨v6, H6, e6, o6, g6, _⟩ := slots12 (ext := ext) hx g5.fresh (hS4.grown u4.fresh g5) (by have := hwE.yl; omega)
  have hyl : kEnd.types.length = 256 := by simp [kEnd]
  rw [hyl] at o6
  have l6 := fun H2 => o6.lenS isl32 H2
  obtain ⟨H7, e7, g7⟩ := works15 (ext := ext) hx g6.fresh
  generalize hb3 : decide (1 < (kSt 256).blocks.length) = vb at e3
  refine ⟨H7, ?_⟩
  simp (config := { decide := true }) only [evalList_plain, evalList_guard, evalList_nil, nd_move, nd_assign, nd_pick, nd_binOp, nd_extract, nd_call, ok_tmp, ok_const, ok_func, cl_int, cl_bool, opA_move, opA_assign, opA_pick, opA_extract, opA_bin, opA_call, opA_call0, opA_len, contA_val, contA_enter, callA_ret, putT_some, aev_tmp, aev_const, aev_func, rd_same, rd_ne, List.length_set, valA_some, thenA_normal, inBlockA_exit, boolOf_bool, extractS_tuple, bin_eql, callS_func, leaveR_ret, resA_tmp, resA_nil, yieldA_S, slotAt_succ, slotAt_zero, yieldS_some, List.getElem?_toArray, List.getElem?_cons_zero, List.getElem?_cons_succ, pack_one, Option.map_some, Option.isSome_some, ne_eq, ↓reduceIte, Nat.reduceLT, List.map_cons, List.map_nil, List.all_cons, List.all_nil, Bool.and_true, List.nil_append, List.append_nil, decide_true, eq_self, hl, i4, e1, e2, e3, e4, e5, en12, e6, l6, Int.cast_ofNat_Int, en15, e7]

end Go.Proofs.Ytnjoaffnfjlcaaa

namespace Go.Proofs.Ytnjoaffnfjlcaaa
open Go Go.Proofs B Go.ChangeShapes Go.WideShapes Go.ChangeAt Go.RowKit Go.ChangeMaps

/-- A copy's answer, of those that every world keeps to. -/
def CopyAns (args : List Value) (H : AHeap) (r : AEnd × AHeap) : Prop := extOK Try.prog 22 args H r ∧
  ∃ b σ F q F', args = [.pointer (some ⟨b, 0, none⟩)] ∧ ScopeAt H b σ F ∧ r.1 = .ret (.pointer (some ⟨q, 0, none⟩)) ∧ ScopeAt r.2 q σ F' ∧ Grown H r.2 ∧ ∀ j, F' j → H.next ≤ j

open Classical in
noncomputable def copyT (args : List Value) (H : AHeap) : Option (AEnd × AHeap) := if h : ∃ r, CopyAns args H r then some h.choose else none
noncomputable def ext1 : CallT := fun f args H => if f = 22 then copyT args H else none

theorem copyT_ans {args : List Value} {H : AHeap} {r : AEnd × AHeap} (h : copyT args H = some r) : CopyAns args H r := by
  unfold copyT at h
  split at h
  · rename_i h1
    have := h1.choose_spec
    simp only [Option.some.injEq] at h
    rw [h] at this
    exact this
  · cases h

theorem ext1_ok : CallOK Try.prog ext1 := ext_ok fun _ _ _ h => (copyT_ans h).1
theorem ext1_none : ∀ f args H, f ≠ 22 → ext1 f args H = none := fun f args H h => by unfold ext1; rw [if_neg h]

theorem copyOK1 : CopyOK ext1 := by
  intro H b σ F n hf hS hw hn huq
  have w1 := hw.bl
  have w2 := hw.tl
  have w3 := hw.yl
  obtain ⟨H', q, F', h1, h2, h3, h4⟩ := copy22 (ext := fun _ _ _ => none) (fun _ _ _ _ => rfl) ext0_ok Try.mixed hf hS huq (by omega) (by omega) (by omega)
  have hex : ∃ r, CopyAns [.pointer (some ⟨b, 0, none⟩)] H r := ⟨_, h1, b, σ, F, q, F', rfl, hS, rfl, h2, h3, h4⟩
  obtain ⟨r, hr⟩ : ∃ r, copyT [.pointer (some ⟨b, 0, none⟩)] H = some r := by unfold copyT; rw [dif_pos hex]; exact ⟨_, rfl⟩
  obtain ⟨_, b2, σ2, F2, q2, F2', e1, e2, e3, e4, e5, e6⟩ := copyT_ans hr
  have hb : b = b2 := by simpa using e1
  subst hb
  have hσ := hS.uniq e2
  subst hσ
  obtain ⟨r1, r2⟩ := r
  dsimp only at e3 e4 e5
  subst e3
  exact ⟨r2, q2, F2', by unfold ext1; rw [if_pos rfl]; exact hr, e4, e5, e6⟩

set_option maxRecDepth 100000 in
theorem plays_lifted (os : Os) (started : os.Started) (H : Type) (enc : TypeId × Value → H) :
    ReturnsInHanded {} Try.checked os 5 .any (Rows.scopePlaysSpec.pre6 enc Try.prog Try.f5 Rows.scopePlaysRow.domain false) (Rows.scopePlaysSpec.post enc Try.prog Try.f5 false true false false) := by
  refine returnsInHanded_of_change (C := Try.checked) Try.own started (by kernel_rfl) Try.func5
    (ChangeSpec.witness6 (enc := enc) (C := Try.checked) false ⟨#[], #[.slice none 0 0], []⟩ 8 (by kernel_rfl) (by kernel_rfl) (by kernel_rfl) (by kernel_rfl)) ?_
  intro W base args ds gs before hval0 hW hcnd _
  have hval : ∀ (j : Nat) t v, Try.f5.params[j]? = some t → args[j]? = some v → Value.okWide Try.prog W .any base t v := hval0
  have hW' := hW
  obtain ⟨p, q, hA0, hV, rfl, hfz, hnd⟩ := hW
  have hA : DataW.TrodAll enc Try.prog W 0 (fun _ => true) true Try.f5.params.toList args.toList ds p := hA0
  rw [Try.params5] at hA hval
  obtain ⟨v0, d0, rfl, rfl, h0⟩ := trodAll_one hA
  obtain ⟨rfl, rfl⟩ := trodVars_none hV
  obtain ⟨v', l, hrel, hscr⟩ := script_in (okWide_slice (und_of Try.underlying22) (hval 0 22 v0 rfl rfl)) (fun _ => rfl) h0
  obtain ⟨H', hcall, _⟩ := scopePlays5 ext1_none copyOK1 (heapOf_rel Try.prog W).fresh hscr
  refine (entry ext1_ok Try.mixed Try.func5 hcall rfl (.cons hrel .nil)).mono fun e W' ⟨he, hw⟩ => ?_
  subst he
  exact ⟨_, rfl, post_true Try.kids Try.full hW' (by rw [Try.params5]; intro t ht; simp at ht; subst ht; show _ < Try.prog.types.size; rw [Try.types_size]; decide) rfl rfl (und_of Try.underlying4) rfl rfl rfl hw⟩

theorem scopePlays_holds : Rows.ScopePlaysSaid :=
  OpenClaim.holds_of_wide 5 Try.f5 rfl rfl rfl rfl rfl rfl rfl ⟨rfl, rfl, rfl, rfl, rfl⟩ rfl rfl rfl rfl rfl (by kernel_rfl) Try.func5 (by kernel_rfl)
    (of_decide_eq_true (by kernel_rfl)) (by unfold Func.isWrapper; rw [if_neg (of_decide_eq_false (by kernel_rfl))]; exact ⟨rfl, rfl⟩)
    (fun os started H enc _ => plays_lifted os started H enc)

end Go.Proofs.Ytnjoaffnfjlcaaa
