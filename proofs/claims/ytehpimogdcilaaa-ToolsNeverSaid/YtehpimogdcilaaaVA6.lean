import Derived.Test.YtehpimogdcilaaaVA5
namespace Vg.G1
open Go Lg
set_option linter.unusedSimpArgs false
set_option maxRecDepth 10000
set_option maxHeartbeats 1000000
attribute [local congr] bind_congr1

structure TaskR where
  tool : Int
  long : Int
  after : List Int
def fI (x : Int) : List VV := [.int .i64 x]
theorem fI_len (x : Int) : (fI x).length = 1 := rfl
def fT (t : TaskR) : List VV := [.int .i64 t.tool, .int .i64 t.long, .list .s (t.after.map fI)]
theorem fT_len (t : TaskR) : (fT t).length = 3 := rfl
/-- Tasks as they are drawn. -/
def GoodT (ts : List TaskR) : Prop := ts.length ≤ 11 ∧ ∀ (i : Nat) (t : TaskR), ts[i]? = some t → -1 ≤ t.tool ∧ t.tool < 6 ∧ 1 ≤ t.long ∧ t.long ≤ 20 ∧ (∀ x ∈ t.after, 0 ≤ x ∧ x < i) ∧ t.after.length ≤ 100

theorem tasks_in {k len : Nat} {rows : List (List VV)} {cs : List VV} {l : List Int} (hi : ∀ x ∈ l, 0 ≤ x ∧ x < k) (hl : l.length ≤ 100) (Q : Out × VEnv × VHeap → Prop)
    (h1 : Q (.exit 2, [.undef, .undef, .undef, .int .i64 k, .undef, .undef, .undef, .undef, .undef, .undef, .list .s rows, .int .i64 len, .int .i64 k, .undef, .undef, .undef, .undef, .undef, .undef, .undef, .undef, .undef, .undef, .undef, .undef, .undef, .undef, .undef, .undef, .undef, .undef, .undef, .undef, .undef, .undef, .undef, .list .s (l.map fI), .int .i64 l.length, .int .i64 l.length, .bool false, .undef, .undef, .undef, .undef, .undef, .undef, .undef, .undef, .undef, .undef, .undef], [.cells true cs])) :
    Sat (loopV (callVL vp) 0 [3, 10, 11, 12, 36, 37, 38] tools_tasks_b1 [.undef, .undef, .undef, .int .i64 k, .undef, .undef, .undef, .undef, .undef, .undef, .list .s rows, .int .i64 len, .int .i64 k, .undef, .undef, .undef, .undef, .undef, .undef, .undef, .undef, .undef, .undef, .undef, .undef, .undef, .undef, .undef, .undef, .undef, .undef, .undef, .undef, .undef, .undef, .undef, .list .s (l.map fI), .int .i64 l.length, .int .i64 0, .undef, .undef, .undef, .undef, .undef, .undef, .undef, .undef, .undef, .undef, .undef, .undef] [.cells true cs]) Q := by
  refine loop_up (I := fun i env h' => h' = [.cells true cs] ∧ env = [.undef, .undef, .undef, .int .i64 k, .undef, .undef, .undef, .undef, .undef, .undef, .list .s rows, .int .i64 len, .int .i64 k, .undef, .undef, .undef, .undef, .undef, .undef, .undef, .undef, .undef, .undef, .undef, .undef, .undef, .undef, .undef, .undef, .undef, .undef, .undef, .undef, .undef, .undef, .undef, .list .s (l.map fI), .int .i64 l.length, .int .i64 i, .undef, .undef, .undef, .undef, .undef, .undef, .undef, .undef, .undef, .undef, .undef, .undef]) l.length ?_ ?_ (Nat.zero_le _) ⟨rfl, by simp -implicitDefEqProofs only [ite_self, cloneA, cloneC, Nat.zero_le, ↓reduceIte, mm_max, mm_min, codeVL_loop, keepV_from, keepFrom, List.contains_cons, List.contains_nil, codeVL_skip, codeVL_exit, codeVL_ret, codeVL_ops, codeVL_dops, codeVL_seq, codeVL_cond, codeVL_block, opsV_nil, opsV_d, opsV_n, opsV_g, vs_c, vs_t, nrm, nrmL, eqE, eqL, List.replicate, List.cons_append, List.nil_append, List.append_nil, List.getD_cons_zero, List.getD_cons_succ, List.getD_nil, List.set_cons_zero, List.set_cons_succ, Option.bind_some, Option.bind_none, Option.bind_assoc, thenV_norm, thenV_exit, thenV_ret, blockV_norm, blockV_exit, blockV_ret, endV_norm, endV_ret, backV, fz_list, fz_int, fz_bool, fz_str, fz_tup, fz_agg, mapM_cons', mapM_nil', fzN_tup, fzN_agg, fzN_list, fzN_int, fzN_bool, fzN_str, fzN_cptr, fzN_nilptr, ressV, resV, oneV, ite_bind, if_true, if_false, decide_eq_true_eq, Bool.false_eq_true, reduceCtorEq, Bool.not_true, Bool.not_false, Bool.and_true, Bool.and_false, Bool.true_and, Bool.false_and, List.all_cons, List.all_nil, List.length_cons, List.length_nil, List.map_cons, List.map_nil, fillV, vsplice, List.take_succ_cons, List.take_zero, List.drop_succ_cons, List.drop_zero, List.drop_nil, List.take_nil, beq_self_eq_true, vbnds, Int.toNat_zero, Int.toNat_one, Nat.zero_add, Nat.add_zero, Nat.mul_one, Nat.one_mul, Nat.mul_zero, Nat.zero_mul, List.getElem?_cons_zero, List.getElem?_cons_succ, List.getElem?_nil, List.getElem?_map, Option.map_some, Option.map_none, List.length_map, decide_true, decide_false, Bool.or_true, Bool.or_false, Bool.true_or, Bool.false_or, not_true_eq_false, not_false_eq_true, true_and, and_true, false_and, and_false, true_or, or_true, false_or, or_false, ne_eq, beq_true, Bool.true_beq, Bool.false_beq, int_beq, int_bne, nat_beq, bool_beq_true, bool_beq_false, ite_boolV, cast_zero, cast_one, Bool.not_eq_true', Bool.not_eq_false', decide_eq_false_iff_not, gt_iff_lt, ge_iff_le, Nat.le_refl, Nat.lt_irrefl, Nat.add_sub_cancel, Nat.sub_zero, Int.reduceLT, Int.reduceLE, Int.reduceToNat, Nat.reduceAdd, Nat.reduceMul, Nat.reduceLeDiff, Nat.reduceLT, Nat.reduceSub, Int.reduceNeg, Int.reduceEq, Int.reduceBEq, Int.reduceBNe, Nat.reduceEqDiff, Int.toNat_natCast, Int.natCast_nonneg, Int.cast_ofNat_Int, lowL, VV.low, trim, chunk, appendV, rowsOf, Sat_some, take_map_len, take_len, take_set_len, succ_ne_zero, succ_pos', List.length_set, opV_mvF, opV_mvT, opV_mvs, opV_pick, opV_alloc, opV_box, opV_build, opV_bslice, opV_load, opV_store, opV_nilchk, opV_bin, opV_eqv, opV_un, opV_conv, opV_b2s, opV_s2b, opV_slc, opV_fieldAddr, opV_field, opV_indexAddr, opV_indexAddrA, opV_index, opV_indexA, opV_extract, opV_lenS, opV_lenL, opV_lenM, opV_lenC, opV_min2, opV_max2, opV_append, opV_copy, opV_make, opV_mkmap, opV_lookup, opV_update, opV_mkfunc, opV_call, opV_callv, opV_stuck, strip_mvF, strip_mvT, strip_mvC, strip_mvs, strip_pick, strip_alloc, strip_box, strip_build, strip_bslice, strip_load, strip_storeT, strip_storeC, strip_nilchk, strip_bin, strip_eqv, strip_un, strip_conv, strip_b2s, strip_s2b, strip_slc, strip_fieldAddr, strip_field, strip_indexAddr, strip_indexAddrA, strip_index, strip_indexA, strip_extract, strip_lenS, strip_lenL, strip_lenM, strip_lenC, strip_min2, strip_max2, strip_appendT, strip_appendC, strip_copy, strip_make, strip_mkmap, strip_lookup, strip_update, strip_mkfunc, strip_call, strip_callv, strip_stuck, vr_t, vr_c, cmpX_t, cmpX_c, putV_s, putV_n, ofLV_int, ofLV_bool, ofLV_str, ofLV_nilslice, ofLV_nilptr, ofLV_nilfunc, ofLV_nilmap, ofLV_nilif, ofLV_agg, ofLV_tup, ofLV_func, ofLVs_nil, ofLVs_cons, binE_add, binE_sub, binE_mul, binE_eql, binE_neq, binE_lss, binE_leq, binE_gtr, binE_geq, binE_quo, binE_rem, binE_seql, binE_sneq, unE_not, unE_neg, sh_undef, ow_undef, cells_undef, single_undef, stV_undef, sh_bool, ow_bool, cells_bool, single_bool, sc_bool, stV_bool, cmpV_bool, sh_int, ow_int, cells_int, single_int, sc_int, stV_int, cmpV_int, sh_str, ow_str, cells_str, single_str, sc_str, stV_str, cmpV_str, sh_ptr, ow_ptr, cells_ptr, single_ptr, stV_ptr, cmpV_ptr, sh_cptr, ow_cptr, cells_cptr, single_cptr, stV_cptr, cmpV_cptr, sh_nilptr, ow_nilptr, cells_nilptr, single_nilptr, stV_nilptr, cmpV_nilptr, sh_lists, ow_lists, cells_lists, single_lists, stV_lists, sh_listf, ow_listf, cells_listf, single_listf, stV_listf, sh_listo, ow_listo, cells_listo, single_listo, stV_listo, sh_hs, ow_hs, cells_hs, single_hs, stV_hs, sh_map, ow_map, cells_map, single_map, stV_map, cmpV_map, sh_nilmap, ow_nilmap, cells_nilmap, single_nilmap, stV_nilmap, cmpV_nilmap, sh_func, ow_func, cells_func, single_func, stV_func, cmpV_func, sh_nilfunc, ow_nilfunc, cells_nilfunc, single_nilfunc, stV_nilfunc, cmpV_nilfunc, sh_iface, ow_iface, cells_iface, single_iface, stV_iface, cmpV_iface, sh_nilif, ow_nilif, cells_nilif, single_nilif, stV_nilif, cmpV_nilif, sh_agg, ow_agg, cells_agg, single_agg, stV_agg, cmpV_agg, sh_tup, ow_tup, cells_tup, single_tup, stV_tup, cmpV_cons, guardV_bool, guardV_tup, nat_int]⟩
  · rintro i env h' hil ⟨rfl, rfl⟩
    obtain ⟨x, hx⟩ := get_some hil
    have hb := hi x (List.mem_of_getElem? hx)
    have hil' : (i : Int) < (l.length : Int) := by omega
    have hw := wrap_succ (i := i) (by omega)
    have hg := get_map (F := fI) hx
    simp only [fI] at hg
    have h2 : ¬ x < 0 := by omega
    have h3 : ¬ (k : Int) ≤ x := by omega
    simp -implicitDefEqProofs only [tools_tasks_r0, tools_tasks_r1, tools_tasks_r2, tools_tasks_r3, tools_tasks_r4, tools_tasks_r5, tools_tasks_r6, tools_tasks_r7, tools_tasks_r8, tools_tasks_r9, tools_tasks_r10, tools_tasks_r11, tools_tasks_r12, tools_tasks_r13, tools_tasks_b1, tools_tasks_r14, tools_tasks_b0, tools_tasks_r15, tools_tasks_f, tools_tasks_v, ite_self, cloneA, cloneC, Nat.zero_le, ↓reduceIte, mm_max, mm_min, codeVL_loop, keepV_from, keepFrom, List.contains_cons, List.contains_nil, codeVL_skip, codeVL_exit, codeVL_ret, codeVL_ops, codeVL_dops, codeVL_seq, codeVL_cond, codeVL_block, opsV_nil, opsV_d, opsV_n, opsV_g, vs_c, vs_t, nrm, nrmL, eqE, eqL, List.replicate, List.cons_append, List.nil_append, List.append_nil, List.getD_cons_zero, List.getD_cons_succ, List.getD_nil, List.set_cons_zero, List.set_cons_succ, Option.bind_some, Option.bind_none, Option.bind_assoc, thenV_norm, thenV_exit, thenV_ret, blockV_norm, blockV_exit, blockV_ret, endV_norm, endV_ret, backV, fz_list, fz_int, fz_bool, fz_str, fz_tup, fz_agg, mapM_cons', mapM_nil', fzN_tup, fzN_agg, fzN_list, fzN_int, fzN_bool, fzN_str, fzN_cptr, fzN_nilptr, ressV, resV, oneV, ite_bind, if_true, if_false, decide_eq_true_eq, Bool.false_eq_true, reduceCtorEq, Bool.not_true, Bool.not_false, Bool.and_true, Bool.and_false, Bool.true_and, Bool.false_and, List.all_cons, List.all_nil, List.length_cons, List.length_nil, List.map_cons, List.map_nil, fillV, vsplice, List.take_succ_cons, List.take_zero, List.drop_succ_cons, List.drop_zero, List.drop_nil, List.take_nil, beq_self_eq_true, vbnds, Int.toNat_zero, Int.toNat_one, Nat.zero_add, Nat.add_zero, Nat.mul_one, Nat.one_mul, Nat.mul_zero, Nat.zero_mul, List.getElem?_cons_zero, List.getElem?_cons_succ, List.getElem?_nil, List.getElem?_map, Option.map_some, Option.map_none, List.length_map, decide_true, decide_false, Bool.or_true, Bool.or_false, Bool.true_or, Bool.false_or, not_true_eq_false, not_false_eq_true, true_and, and_true, false_and, and_false, true_or, or_true, false_or, or_false, ne_eq, beq_true, Bool.true_beq, Bool.false_beq, int_beq, int_bne, nat_beq, bool_beq_true, bool_beq_false, ite_boolV, cast_zero, cast_one, Bool.not_eq_true', Bool.not_eq_false', decide_eq_false_iff_not, gt_iff_lt, ge_iff_le, Nat.le_refl, Nat.lt_irrefl, Nat.add_sub_cancel, Nat.sub_zero, Int.reduceLT, Int.reduceLE, Int.reduceToNat, Nat.reduceAdd, Nat.reduceMul, Nat.reduceLeDiff, Nat.reduceLT, Nat.reduceSub, Int.reduceNeg, Int.reduceEq, Int.reduceBEq, Int.reduceBNe, Nat.reduceEqDiff, Int.toNat_natCast, Int.natCast_nonneg, Int.cast_ofNat_Int, lowL, VV.low, trim, chunk, appendV, rowsOf, Sat_some, take_map_len, take_len, take_set_len, succ_ne_zero, succ_pos', List.length_set, opV_mvF, opV_mvT, opV_mvs, opV_pick, opV_alloc, opV_box, opV_build, opV_bslice, opV_load, opV_store, opV_nilchk, opV_bin, opV_eqv, opV_un, opV_conv, opV_b2s, opV_s2b, opV_slc, opV_fieldAddr, opV_field, opV_indexAddr, opV_indexAddrA, opV_index, opV_indexA, opV_extract, opV_lenS, opV_lenL, opV_lenM, opV_lenC, opV_min2, opV_max2, opV_append, opV_copy, opV_make, opV_mkmap, opV_lookup, opV_update, opV_mkfunc, opV_call, opV_callv, opV_stuck, strip_mvF, strip_mvT, strip_mvC, strip_mvs, strip_pick, strip_alloc, strip_box, strip_build, strip_bslice, strip_load, strip_storeT, strip_storeC, strip_nilchk, strip_bin, strip_eqv, strip_un, strip_conv, strip_b2s, strip_s2b, strip_slc, strip_fieldAddr, strip_field, strip_indexAddr, strip_indexAddrA, strip_index, strip_indexA, strip_extract, strip_lenS, strip_lenL, strip_lenM, strip_lenC, strip_min2, strip_max2, strip_appendT, strip_appendC, strip_copy, strip_make, strip_mkmap, strip_lookup, strip_update, strip_mkfunc, strip_call, strip_callv, strip_stuck, vr_t, vr_c, cmpX_t, cmpX_c, putV_s, putV_n, ofLV_int, ofLV_bool, ofLV_str, ofLV_nilslice, ofLV_nilptr, ofLV_nilfunc, ofLV_nilmap, ofLV_nilif, ofLV_agg, ofLV_tup, ofLV_func, ofLVs_nil, ofLVs_cons, binE_add, binE_sub, binE_mul, binE_eql, binE_neq, binE_lss, binE_leq, binE_gtr, binE_geq, binE_quo, binE_rem, binE_seql, binE_sneq, unE_not, unE_neg, sh_undef, ow_undef, cells_undef, single_undef, stV_undef, sh_bool, ow_bool, cells_bool, single_bool, sc_bool, stV_bool, cmpV_bool, sh_int, ow_int, cells_int, single_int, sc_int, stV_int, cmpV_int, sh_str, ow_str, cells_str, single_str, sc_str, stV_str, cmpV_str, sh_ptr, ow_ptr, cells_ptr, single_ptr, stV_ptr, cmpV_ptr, sh_cptr, ow_cptr, cells_cptr, single_cptr, stV_cptr, cmpV_cptr, sh_nilptr, ow_nilptr, cells_nilptr, single_nilptr, stV_nilptr, cmpV_nilptr, sh_lists, ow_lists, cells_lists, single_lists, stV_lists, sh_listf, ow_listf, cells_listf, single_listf, stV_listf, sh_listo, ow_listo, cells_listo, single_listo, stV_listo, sh_hs, ow_hs, cells_hs, single_hs, stV_hs, sh_map, ow_map, cells_map, single_map, stV_map, cmpV_map, sh_nilmap, ow_nilmap, cells_nilmap, single_nilmap, stV_nilmap, cmpV_nilmap, sh_func, ow_func, cells_func, single_func, stV_func, cmpV_func, sh_nilfunc, ow_nilfunc, cells_nilfunc, single_nilfunc, stV_nilfunc, cmpV_nilfunc, sh_iface, ow_iface, cells_iface, single_iface, stV_iface, cmpV_iface, sh_nilif, ow_nilif, cells_nilif, single_nilif, stV_nilif, cmpV_nilif, sh_agg, ow_agg, cells_agg, single_agg, stV_agg, cmpV_agg, sh_tup, ow_tup, cells_tup, single_tup, stV_tup, cmpV_cons, guardV_bool, guardV_tup, nat_int, hil', hg, h2, h3, hw]
  · rintro env h' ⟨rfl, rfl⟩
    simp -implicitDefEqProofs only [tools_tasks_r0, tools_tasks_r1, tools_tasks_r2, tools_tasks_r3, tools_tasks_r4, tools_tasks_r5, tools_tasks_r6, tools_tasks_r7, tools_tasks_r8, tools_tasks_r9, tools_tasks_r10, tools_tasks_r11, tools_tasks_r12, tools_tasks_r13, tools_tasks_b1, tools_tasks_r14, tools_tasks_b0, tools_tasks_r15, tools_tasks_f, tools_tasks_v, ite_self, cloneA, cloneC, Nat.zero_le, ↓reduceIte, mm_max, mm_min, codeVL_loop, keepV_from, keepFrom, List.contains_cons, List.contains_nil, codeVL_skip, codeVL_exit, codeVL_ret, codeVL_ops, codeVL_dops, codeVL_seq, codeVL_cond, codeVL_block, opsV_nil, opsV_d, opsV_n, opsV_g, vs_c, vs_t, nrm, nrmL, eqE, eqL, List.replicate, List.cons_append, List.nil_append, List.append_nil, List.getD_cons_zero, List.getD_cons_succ, List.getD_nil, List.set_cons_zero, List.set_cons_succ, Option.bind_some, Option.bind_none, Option.bind_assoc, thenV_norm, thenV_exit, thenV_ret, blockV_norm, blockV_exit, blockV_ret, endV_norm, endV_ret, backV, fz_list, fz_int, fz_bool, fz_str, fz_tup, fz_agg, mapM_cons', mapM_nil', fzN_tup, fzN_agg, fzN_list, fzN_int, fzN_bool, fzN_str, fzN_cptr, fzN_nilptr, ressV, resV, oneV, ite_bind, if_true, if_false, decide_eq_true_eq, Bool.false_eq_true, reduceCtorEq, Bool.not_true, Bool.not_false, Bool.and_true, Bool.and_false, Bool.true_and, Bool.false_and, List.all_cons, List.all_nil, List.length_cons, List.length_nil, List.map_cons, List.map_nil, fillV, vsplice, List.take_succ_cons, List.take_zero, List.drop_succ_cons, List.drop_zero, List.drop_nil, List.take_nil, beq_self_eq_true, vbnds, Int.toNat_zero, Int.toNat_one, Nat.zero_add, Nat.add_zero, Nat.mul_one, Nat.one_mul, Nat.mul_zero, Nat.zero_mul, List.getElem?_cons_zero, List.getElem?_cons_succ, List.getElem?_nil, List.getElem?_map, Option.map_some, Option.map_none, List.length_map, decide_true, decide_false, Bool.or_true, Bool.or_false, Bool.true_or, Bool.false_or, not_true_eq_false, not_false_eq_true, true_and, and_true, false_and, and_false, true_or, or_true, false_or, or_false, ne_eq, beq_true, Bool.true_beq, Bool.false_beq, int_beq, int_bne, nat_beq, bool_beq_true, bool_beq_false, ite_boolV, cast_zero, cast_one, Bool.not_eq_true', Bool.not_eq_false', decide_eq_false_iff_not, gt_iff_lt, ge_iff_le, Nat.le_refl, Nat.lt_irrefl, Nat.add_sub_cancel, Nat.sub_zero, Int.reduceLT, Int.reduceLE, Int.reduceToNat, Nat.reduceAdd, Nat.reduceMul, Nat.reduceLeDiff, Nat.reduceLT, Nat.reduceSub, Int.reduceNeg, Int.reduceEq, Int.reduceBEq, Int.reduceBNe, Nat.reduceEqDiff, Int.toNat_natCast, Int.natCast_nonneg, Int.cast_ofNat_Int, lowL, VV.low, trim, chunk, appendV, rowsOf, Sat_some, take_map_len, take_len, take_set_len, succ_ne_zero, succ_pos', List.length_set, opV_mvF, opV_mvT, opV_mvs, opV_pick, opV_alloc, opV_box, opV_build, opV_bslice, opV_load, opV_store, opV_nilchk, opV_bin, opV_eqv, opV_un, opV_conv, opV_b2s, opV_s2b, opV_slc, opV_fieldAddr, opV_field, opV_indexAddr, opV_indexAddrA, opV_index, opV_indexA, opV_extract, opV_lenS, opV_lenL, opV_lenM, opV_lenC, opV_min2, opV_max2, opV_append, opV_copy, opV_make, opV_mkmap, opV_lookup, opV_update, opV_mkfunc, opV_call, opV_callv, opV_stuck, strip_mvF, strip_mvT, strip_mvC, strip_mvs, strip_pick, strip_alloc, strip_box, strip_build, strip_bslice, strip_load, strip_storeT, strip_storeC, strip_nilchk, strip_bin, strip_eqv, strip_un, strip_conv, strip_b2s, strip_s2b, strip_slc, strip_fieldAddr, strip_field, strip_indexAddr, strip_indexAddrA, strip_index, strip_indexA, strip_extract, strip_lenS, strip_lenL, strip_lenM, strip_lenC, strip_min2, strip_max2, strip_appendT, strip_appendC, strip_copy, strip_make, strip_mkmap, strip_lookup, strip_update, strip_mkfunc, strip_call, strip_callv, strip_stuck, vr_t, vr_c, cmpX_t, cmpX_c, putV_s, putV_n, ofLV_int, ofLV_bool, ofLV_str, ofLV_nilslice, ofLV_nilptr, ofLV_nilfunc, ofLV_nilmap, ofLV_nilif, ofLV_agg, ofLV_tup, ofLV_func, ofLVs_nil, ofLVs_cons, binE_add, binE_sub, binE_mul, binE_eql, binE_neq, binE_lss, binE_leq, binE_gtr, binE_geq, binE_quo, binE_rem, binE_seql, binE_sneq, unE_not, unE_neg, sh_undef, ow_undef, cells_undef, single_undef, stV_undef, sh_bool, ow_bool, cells_bool, single_bool, sc_bool, stV_bool, cmpV_bool, sh_int, ow_int, cells_int, single_int, sc_int, stV_int, cmpV_int, sh_str, ow_str, cells_str, single_str, sc_str, stV_str, cmpV_str, sh_ptr, ow_ptr, cells_ptr, single_ptr, stV_ptr, cmpV_ptr, sh_cptr, ow_cptr, cells_cptr, single_cptr, stV_cptr, cmpV_cptr, sh_nilptr, ow_nilptr, cells_nilptr, single_nilptr, stV_nilptr, cmpV_nilptr, sh_lists, ow_lists, cells_lists, single_lists, stV_lists, sh_listf, ow_listf, cells_listf, single_listf, stV_listf, sh_listo, ow_listo, cells_listo, single_listo, stV_listo, sh_hs, ow_hs, cells_hs, single_hs, stV_hs, sh_map, ow_map, cells_map, single_map, stV_map, cmpV_map, sh_nilmap, ow_nilmap, cells_nilmap, single_nilmap, stV_nilmap, cmpV_nilmap, sh_func, ow_func, cells_func, single_func, stV_func, cmpV_func, sh_nilfunc, ow_nilfunc, cells_nilfunc, single_nilfunc, stV_nilfunc, cmpV_nilfunc, sh_iface, ow_iface, cells_iface, single_iface, stV_iface, cmpV_iface, sh_nilif, ow_nilif, cells_nilif, single_nilif, stV_nilif, cmpV_nilif, sh_agg, ow_agg, cells_agg, single_agg, stV_agg, cmpV_agg, sh_tup, ow_tup, cells_tup, single_tup, stV_tup, cmpV_cons, guardV_bool, guardV_tup, nat_int, Int.lt_irrefl]
    exact h1

theorem tasks_spec {ts : List TaskR} (hg : GoodT ts) (lo : Nat) (h : VHeap) : callVL vp lo n_tools_tasks [.list .s (ts.map fT)] h = some (.int .i64 0, h) := by
  refine call_valE (fn := tools_tasks_v) rfl rfl rfl rfl rfl ?_ lo h
  obtain ⟨P, hP⟩ : ∃ P : VV → Prop, P = fun w : VV => w = .int .i64 0 := ⟨_, rfl⟩
  have hP1 : P (.int .i64 0) := by subst hP; rfl
  have hP2 : (fun r : VV × VHeap => r.1 = .int .i64 0) = fun r => P r.1 := by subst hP; rfl
  rw [hP2]
  clear hP hP2
  have hg1 := hg.1
  have h60 : ¬ (60 : Int) < ts.length := by omega
  simp -implicitDefEqProofs only [tools_tasks_r0, tools_tasks_r1, tools_tasks_r2, tools_tasks_r3, tools_tasks_r4, tools_tasks_r5, tools_tasks_r6, tools_tasks_r7, tools_tasks_r8, tools_tasks_r9, tools_tasks_r10, tools_tasks_r11, tools_tasks_r12, tools_tasks_r13, tools_tasks_r14, tools_tasks_r15, tools_tasks_f, tools_tasks_v, ite_self, cloneA, cloneC, Nat.zero_le, ↓reduceIte, mm_max, mm_min, codeVL_loop, keepV_from, keepFrom, List.contains_cons, List.contains_nil, codeVL_skip, codeVL_exit, codeVL_ret, codeVL_ops, codeVL_dops, codeVL_seq, codeVL_cond, codeVL_block, opsV_nil, opsV_d, opsV_n, opsV_g, vs_c, vs_t, nrm, nrmL, eqE, eqL, List.replicate, List.cons_append, List.nil_append, List.append_nil, List.getD_cons_zero, List.getD_cons_succ, List.getD_nil, List.set_cons_zero, List.set_cons_succ, Option.bind_some, Option.bind_none, Option.bind_assoc, thenV_norm, thenV_exit, thenV_ret, blockV_norm, blockV_exit, blockV_ret, endV_norm, endV_ret, backV, fz_list, fz_int, fz_bool, fz_str, fz_tup, fz_agg, mapM_cons', mapM_nil', fzN_tup, fzN_agg, fzN_list, fzN_int, fzN_bool, fzN_str, fzN_cptr, fzN_nilptr, ressV, resV, oneV, ite_bind, if_true, if_false, decide_eq_true_eq, Bool.false_eq_true, reduceCtorEq, Bool.not_true, Bool.not_false, Bool.and_true, Bool.and_false, Bool.true_and, Bool.false_and, List.all_cons, List.all_nil, List.length_cons, List.length_nil, List.map_cons, List.map_nil, fillV, vsplice, List.take_succ_cons, List.take_zero, List.drop_succ_cons, List.drop_zero, List.drop_nil, List.take_nil, beq_self_eq_true, vbnds, Int.toNat_zero, Int.toNat_one, Nat.zero_add, Nat.add_zero, Nat.mul_one, Nat.one_mul, Nat.mul_zero, Nat.zero_mul, List.getElem?_cons_zero, List.getElem?_cons_succ, List.getElem?_nil, List.getElem?_map, Option.map_some, Option.map_none, List.length_map, decide_true, decide_false, Bool.or_true, Bool.or_false, Bool.true_or, Bool.false_or, not_true_eq_false, not_false_eq_true, true_and, and_true, false_and, and_false, true_or, or_true, false_or, or_false, ne_eq, beq_true, Bool.true_beq, Bool.false_beq, int_beq, int_bne, nat_beq, bool_beq_true, bool_beq_false, ite_boolV, cast_zero, cast_one, Bool.not_eq_true', Bool.not_eq_false', decide_eq_false_iff_not, gt_iff_lt, ge_iff_le, Nat.le_refl, Nat.lt_irrefl, Nat.add_sub_cancel, Nat.sub_zero, Int.reduceLT, Int.reduceLE, Int.reduceToNat, Nat.reduceAdd, Nat.reduceMul, Nat.reduceLeDiff, Nat.reduceLT, Nat.reduceSub, Int.reduceNeg, Int.reduceEq, Int.reduceBEq, Int.reduceBNe, Nat.reduceEqDiff, Int.toNat_natCast, Int.natCast_nonneg, Int.cast_ofNat_Int, lowL, VV.low, trim, chunk, appendV, rowsOf, Sat_some, take_map_len, take_len, take_set_len, succ_ne_zero, succ_pos', List.length_set, opV_mvF, opV_mvT, opV_mvs, opV_pick, opV_alloc, opV_box, opV_build, opV_bslice, opV_load, opV_store, opV_nilchk, opV_bin, opV_eqv, opV_un, opV_conv, opV_b2s, opV_s2b, opV_slc, opV_fieldAddr, opV_field, opV_indexAddr, opV_indexAddrA, opV_index, opV_indexA, opV_extract, opV_lenS, opV_lenL, opV_lenM, opV_lenC, opV_min2, opV_max2, opV_append, opV_copy, opV_make, opV_mkmap, opV_lookup, opV_update, opV_mkfunc, opV_call, opV_callv, opV_stuck, strip_mvF, strip_mvT, strip_mvC, strip_mvs, strip_pick, strip_alloc, strip_box, strip_build, strip_bslice, strip_load, strip_storeT, strip_storeC, strip_nilchk, strip_bin, strip_eqv, strip_un, strip_conv, strip_b2s, strip_s2b, strip_slc, strip_fieldAddr, strip_field, strip_indexAddr, strip_indexAddrA, strip_index, strip_indexA, strip_extract, strip_lenS, strip_lenL, strip_lenM, strip_lenC, strip_min2, strip_max2, strip_appendT, strip_appendC, strip_copy, strip_make, strip_mkmap, strip_lookup, strip_update, strip_mkfunc, strip_call, strip_callv, strip_stuck, vr_t, vr_c, cmpX_t, cmpX_c, putV_s, putV_n, ofLV_int, ofLV_bool, ofLV_str, ofLV_nilslice, ofLV_nilptr, ofLV_nilfunc, ofLV_nilmap, ofLV_nilif, ofLV_agg, ofLV_tup, ofLV_func, ofLVs_nil, ofLVs_cons, binE_add, binE_sub, binE_mul, binE_eql, binE_neq, binE_lss, binE_leq, binE_gtr, binE_geq, binE_quo, binE_rem, binE_seql, binE_sneq, unE_not, unE_neg, sh_undef, ow_undef, cells_undef, single_undef, stV_undef, sh_bool, ow_bool, cells_bool, single_bool, sc_bool, stV_bool, cmpV_bool, sh_int, ow_int, cells_int, single_int, sc_int, stV_int, cmpV_int, sh_str, ow_str, cells_str, single_str, sc_str, stV_str, cmpV_str, sh_ptr, ow_ptr, cells_ptr, single_ptr, stV_ptr, cmpV_ptr, sh_cptr, ow_cptr, cells_cptr, single_cptr, stV_cptr, cmpV_cptr, sh_nilptr, ow_nilptr, cells_nilptr, single_nilptr, stV_nilptr, cmpV_nilptr, sh_lists, ow_lists, cells_lists, single_lists, stV_lists, sh_listf, ow_listf, cells_listf, single_listf, stV_listf, sh_listo, ow_listo, cells_listo, single_listo, stV_listo, sh_hs, ow_hs, cells_hs, single_hs, stV_hs, sh_map, ow_map, cells_map, single_map, stV_map, cmpV_map, sh_nilmap, ow_nilmap, cells_nilmap, single_nilmap, stV_nilmap, cmpV_nilmap, sh_func, ow_func, cells_func, single_func, stV_func, cmpV_func, sh_nilfunc, ow_nilfunc, cells_nilfunc, single_nilfunc, stV_nilfunc, cmpV_nilfunc, sh_iface, ow_iface, cells_iface, single_iface, stV_iface, cmpV_iface, sh_nilif, ow_nilif, cells_nilif, single_nilif, stV_nilif, cmpV_nilif, sh_agg, ow_agg, cells_agg, single_agg, stV_agg, cmpV_agg, sh_tup, ow_tup, cells_tup, single_tup, stV_tup, cmpV_cons, guardV_bool, guardV_tup, nat_int, h60]
  rw [Sat_bind]
  refine loop_up (I := fun i env h => env = [.undef, .undef, .undef, .undef, .undef, .undef, .undef, .undef, .undef, .undef, .list .s (ts.map fT), .int .i64 ts.length, .int .i64 i, .undef, .undef, .undef, .undef, .undef, .undef, .undef, .undef, .undef, .undef, .undef, .undef, .undef, .undef, .undef, .undef, .undef, .undef, .undef, .undef, .undef, .undef, .undef, .undef, .undef, .undef, .undef, .undef, .undef, .undef, .undef, .undef, .undef, .undef, .undef, .undef, .undef, .undef] ∧ h = []) ts.length ?_ ?_ (Nat.zero_le _) ⟨by simp -implicitDefEqProofs only [ite_self, cloneA, cloneC, Nat.zero_le, ↓reduceIte, mm_max, mm_min, codeVL_loop, keepV_from, keepFrom, List.contains_cons, List.contains_nil, codeVL_skip, codeVL_exit, codeVL_ret, codeVL_ops, codeVL_dops, codeVL_seq, codeVL_cond, codeVL_block, opsV_nil, opsV_d, opsV_n, opsV_g, vs_c, vs_t, nrm, nrmL, eqE, eqL, List.replicate, List.cons_append, List.nil_append, List.append_nil, List.getD_cons_zero, List.getD_cons_succ, List.getD_nil, List.set_cons_zero, List.set_cons_succ, Option.bind_some, Option.bind_none, Option.bind_assoc, thenV_norm, thenV_exit, thenV_ret, blockV_norm, blockV_exit, blockV_ret, endV_norm, endV_ret, backV, fz_list, fz_int, fz_bool, fz_str, fz_tup, fz_agg, mapM_cons', mapM_nil', fzN_tup, fzN_agg, fzN_list, fzN_int, fzN_bool, fzN_str, fzN_cptr, fzN_nilptr, ressV, resV, oneV, ite_bind, if_true, if_false, decide_eq_true_eq, Bool.false_eq_true, reduceCtorEq, Bool.not_true, Bool.not_false, Bool.and_true, Bool.and_false, Bool.true_and, Bool.false_and, List.all_cons, List.all_nil, List.length_cons, List.length_nil, List.map_cons, List.map_nil, fillV, vsplice, List.take_succ_cons, List.take_zero, List.drop_succ_cons, List.drop_zero, List.drop_nil, List.take_nil, beq_self_eq_true, vbnds, Int.toNat_zero, Int.toNat_one, Nat.zero_add, Nat.add_zero, Nat.mul_one, Nat.one_mul, Nat.mul_zero, Nat.zero_mul, List.getElem?_cons_zero, List.getElem?_cons_succ, List.getElem?_nil, List.getElem?_map, Option.map_some, Option.map_none, List.length_map, decide_true, decide_false, Bool.or_true, Bool.or_false, Bool.true_or, Bool.false_or, not_true_eq_false, not_false_eq_true, true_and, and_true, false_and, and_false, true_or, or_true, false_or, or_false, ne_eq, beq_true, Bool.true_beq, Bool.false_beq, int_beq, int_bne, nat_beq, bool_beq_true, bool_beq_false, ite_boolV, cast_zero, cast_one, Bool.not_eq_true', Bool.not_eq_false', decide_eq_false_iff_not, gt_iff_lt, ge_iff_le, Nat.le_refl, Nat.lt_irrefl, Nat.add_sub_cancel, Nat.sub_zero, Int.reduceLT, Int.reduceLE, Int.reduceToNat, Nat.reduceAdd, Nat.reduceMul, Nat.reduceLeDiff, Nat.reduceLT, Nat.reduceSub, Int.reduceNeg, Int.reduceEq, Int.reduceBEq, Int.reduceBNe, Nat.reduceEqDiff, Int.toNat_natCast, Int.natCast_nonneg, Int.cast_ofNat_Int, lowL, VV.low, trim, chunk, appendV, rowsOf, Sat_some, take_map_len, take_len, take_set_len, succ_ne_zero, succ_pos', List.length_set, opV_mvF, opV_mvT, opV_mvs, opV_pick, opV_alloc, opV_box, opV_build, opV_bslice, opV_load, opV_store, opV_nilchk, opV_bin, opV_eqv, opV_un, opV_conv, opV_b2s, opV_s2b, opV_slc, opV_fieldAddr, opV_field, opV_indexAddr, opV_indexAddrA, opV_index, opV_indexA, opV_extract, opV_lenS, opV_lenL, opV_lenM, opV_lenC, opV_min2, opV_max2, opV_append, opV_copy, opV_make, opV_mkmap, opV_lookup, opV_update, opV_mkfunc, opV_call, opV_callv, opV_stuck, strip_mvF, strip_mvT, strip_mvC, strip_mvs, strip_pick, strip_alloc, strip_box, strip_build, strip_bslice, strip_load, strip_storeT, strip_storeC, strip_nilchk, strip_bin, strip_eqv, strip_un, strip_conv, strip_b2s, strip_s2b, strip_slc, strip_fieldAddr, strip_field, strip_indexAddr, strip_indexAddrA, strip_index, strip_indexA, strip_extract, strip_lenS, strip_lenL, strip_lenM, strip_lenC, strip_min2, strip_max2, strip_appendT, strip_appendC, strip_copy, strip_make, strip_mkmap, strip_lookup, strip_update, strip_mkfunc, strip_call, strip_callv, strip_stuck, vr_t, vr_c, cmpX_t, cmpX_c, putV_s, putV_n, ofLV_int, ofLV_bool, ofLV_str, ofLV_nilslice, ofLV_nilptr, ofLV_nilfunc, ofLV_nilmap, ofLV_nilif, ofLV_agg, ofLV_tup, ofLV_func, ofLVs_nil, ofLVs_cons, binE_add, binE_sub, binE_mul, binE_eql, binE_neq, binE_lss, binE_leq, binE_gtr, binE_geq, binE_quo, binE_rem, binE_seql, binE_sneq, unE_not, unE_neg, sh_undef, ow_undef, cells_undef, single_undef, stV_undef, sh_bool, ow_bool, cells_bool, single_bool, sc_bool, stV_bool, cmpV_bool, sh_int, ow_int, cells_int, single_int, sc_int, stV_int, cmpV_int, sh_str, ow_str, cells_str, single_str, sc_str, stV_str, cmpV_str, sh_ptr, ow_ptr, cells_ptr, single_ptr, stV_ptr, cmpV_ptr, sh_cptr, ow_cptr, cells_cptr, single_cptr, stV_cptr, cmpV_cptr, sh_nilptr, ow_nilptr, cells_nilptr, single_nilptr, stV_nilptr, cmpV_nilptr, sh_lists, ow_lists, cells_lists, single_lists, stV_lists, sh_listf, ow_listf, cells_listf, single_listf, stV_listf, sh_listo, ow_listo, cells_listo, single_listo, stV_listo, sh_hs, ow_hs, cells_hs, single_hs, stV_hs, sh_map, ow_map, cells_map, single_map, stV_map, cmpV_map, sh_nilmap, ow_nilmap, cells_nilmap, single_nilmap, stV_nilmap, cmpV_nilmap, sh_func, ow_func, cells_func, single_func, stV_func, cmpV_func, sh_nilfunc, ow_nilfunc, cells_nilfunc, single_nilfunc, stV_nilfunc, cmpV_nilfunc, sh_iface, ow_iface, cells_iface, single_iface, stV_iface, cmpV_iface, sh_nilif, ow_nilif, cells_nilif, single_nilif, stV_nilif, cmpV_nilif, sh_agg, ow_agg, cells_agg, single_agg, stV_agg, cmpV_agg, sh_tup, ow_tup, cells_tup, single_tup, stV_tup, cmpV_cons, guardV_bool, guardV_tup, nat_int], rfl⟩
  · rintro k env h' hk ⟨rfl, rfl⟩
    obtain ⟨t, ht⟩ := get_some hk
    obtain ⟨g1, g2, g3, g4, g5, g6⟩ := hg.2 k t ht
    have hk' : (k : Int) < (ts.length : Int) := by omega
    have hwr := wrap_succ (i := k) (by omega)
    have hgt := get_map (F := fT) ht
    obtain ⟨a, b, af⟩ := t
    simp only [fT] at hgt
    simp only at g1 g2 g3 g4 g5 g6
    have e1 : ¬ a < -1 := by omega
    have e2 : ¬ 6 ≤ a := by omega
    have e3 : ¬ b < 1 := by omega
    have e4 : ¬ 2000 < b := by omega
    simp -implicitDefEqProofs only [tools_tasks_r0, tools_tasks_r1, tools_tasks_r2, tools_tasks_r3, tools_tasks_r4, tools_tasks_r5, tools_tasks_r6, tools_tasks_r7, tools_tasks_r8, tools_tasks_r9, tools_tasks_r10, tools_tasks_r11, tools_tasks_r12, tools_tasks_r13, tools_tasks_r14, tools_tasks_b0, tools_tasks_r15, tools_tasks_f, tools_tasks_v, ite_self, cloneA, cloneC, Nat.zero_le, ↓reduceIte, mm_max, mm_min, codeVL_loop, keepV_from, keepFrom, List.contains_cons, List.contains_nil, codeVL_skip, codeVL_exit, codeVL_ret, codeVL_ops, codeVL_dops, codeVL_seq, codeVL_cond, codeVL_block, opsV_nil, opsV_d, opsV_n, opsV_g, vs_c, vs_t, nrm, nrmL, eqE, eqL, List.replicate, List.cons_append, List.nil_append, List.append_nil, List.getD_cons_zero, List.getD_cons_succ, List.getD_nil, List.set_cons_zero, List.set_cons_succ, Option.bind_some, Option.bind_none, Option.bind_assoc, thenV_norm, thenV_exit, thenV_ret, blockV_norm, blockV_exit, blockV_ret, endV_norm, endV_ret, backV, fz_list, fz_int, fz_bool, fz_str, fz_tup, fz_agg, mapM_cons', mapM_nil', fzN_tup, fzN_agg, fzN_list, fzN_int, fzN_bool, fzN_str, fzN_cptr, fzN_nilptr, ressV, resV, oneV, ite_bind, if_true, if_false, decide_eq_true_eq, Bool.false_eq_true, reduceCtorEq, Bool.not_true, Bool.not_false, Bool.and_true, Bool.and_false, Bool.true_and, Bool.false_and, List.all_cons, List.all_nil, List.length_cons, List.length_nil, List.map_cons, List.map_nil, fillV, vsplice, List.take_succ_cons, List.take_zero, List.drop_succ_cons, List.drop_zero, List.drop_nil, List.take_nil, beq_self_eq_true, vbnds, Int.toNat_zero, Int.toNat_one, Nat.zero_add, Nat.add_zero, Nat.mul_one, Nat.one_mul, Nat.mul_zero, Nat.zero_mul, List.getElem?_cons_zero, List.getElem?_cons_succ, List.getElem?_nil, List.getElem?_map, Option.map_some, Option.map_none, List.length_map, decide_true, decide_false, Bool.or_true, Bool.or_false, Bool.true_or, Bool.false_or, not_true_eq_false, not_false_eq_true, true_and, and_true, false_and, and_false, true_or, or_true, false_or, or_false, ne_eq, beq_true, Bool.true_beq, Bool.false_beq, int_beq, int_bne, nat_beq, bool_beq_true, bool_beq_false, ite_boolV, cast_zero, cast_one, Bool.not_eq_true', Bool.not_eq_false', decide_eq_false_iff_not, gt_iff_lt, ge_iff_le, Nat.le_refl, Nat.lt_irrefl, Nat.add_sub_cancel, Nat.sub_zero, Int.reduceLT, Int.reduceLE, Int.reduceToNat, Nat.reduceAdd, Nat.reduceMul, Nat.reduceLeDiff, Nat.reduceLT, Nat.reduceSub, Int.reduceNeg, Int.reduceEq, Int.reduceBEq, Int.reduceBNe, Nat.reduceEqDiff, Int.toNat_natCast, Int.natCast_nonneg, Int.cast_ofNat_Int, lowL, VV.low, trim, chunk, appendV, rowsOf, Sat_some, take_map_len, take_len, take_set_len, succ_ne_zero, succ_pos', List.length_set, opV_mvF, opV_mvT, opV_mvs, opV_pick, opV_alloc, opV_box, opV_build, opV_bslice, opV_load, opV_store, opV_nilchk, opV_bin, opV_eqv, opV_un, opV_conv, opV_b2s, opV_s2b, opV_slc, opV_fieldAddr, opV_field, opV_indexAddr, opV_indexAddrA, opV_index, opV_indexA, opV_extract, opV_lenS, opV_lenL, opV_lenM, opV_lenC, opV_min2, opV_max2, opV_append, opV_copy, opV_make, opV_mkmap, opV_lookup, opV_update, opV_mkfunc, opV_call, opV_callv, opV_stuck, strip_mvF, strip_mvT, strip_mvC, strip_mvs, strip_pick, strip_alloc, strip_box, strip_build, strip_bslice, strip_load, strip_storeT, strip_storeC, strip_nilchk, strip_bin, strip_eqv, strip_un, strip_conv, strip_b2s, strip_s2b, strip_slc, strip_fieldAddr, strip_field, strip_indexAddr, strip_indexAddrA, strip_index, strip_indexA, strip_extract, strip_lenS, strip_lenL, strip_lenM, strip_lenC, strip_min2, strip_max2, strip_appendT, strip_appendC, strip_copy, strip_make, strip_mkmap, strip_lookup, strip_update, strip_mkfunc, strip_call, strip_callv, strip_stuck, vr_t, vr_c, cmpX_t, cmpX_c, putV_s, putV_n, ofLV_int, ofLV_bool, ofLV_str, ofLV_nilslice, ofLV_nilptr, ofLV_nilfunc, ofLV_nilmap, ofLV_nilif, ofLV_agg, ofLV_tup, ofLV_func, ofLVs_nil, ofLVs_cons, binE_add, binE_sub, binE_mul, binE_eql, binE_neq, binE_lss, binE_leq, binE_gtr, binE_geq, binE_quo, binE_rem, binE_seql, binE_sneq, unE_not, unE_neg, sh_undef, ow_undef, cells_undef, single_undef, stV_undef, sh_bool, ow_bool, cells_bool, single_bool, sc_bool, stV_bool, cmpV_bool, sh_int, ow_int, cells_int, single_int, sc_int, stV_int, cmpV_int, sh_str, ow_str, cells_str, single_str, sc_str, stV_str, cmpV_str, sh_ptr, ow_ptr, cells_ptr, single_ptr, stV_ptr, cmpV_ptr, sh_cptr, ow_cptr, cells_cptr, single_cptr, stV_cptr, cmpV_cptr, sh_nilptr, ow_nilptr, cells_nilptr, single_nilptr, stV_nilptr, cmpV_nilptr, sh_lists, ow_lists, cells_lists, single_lists, stV_lists, sh_listf, ow_listf, cells_listf, single_listf, stV_listf, sh_listo, ow_listo, cells_listo, single_listo, stV_listo, sh_hs, ow_hs, cells_hs, single_hs, stV_hs, sh_map, ow_map, cells_map, single_map, stV_map, cmpV_map, sh_nilmap, ow_nilmap, cells_nilmap, single_nilmap, stV_nilmap, cmpV_nilmap, sh_func, ow_func, cells_func, single_func, stV_func, cmpV_func, sh_nilfunc, ow_nilfunc, cells_nilfunc, single_nilfunc, stV_nilfunc, cmpV_nilfunc, sh_iface, ow_iface, cells_iface, single_iface, stV_iface, cmpV_iface, sh_nilif, ow_nilif, cells_nilif, single_nilif, stV_nilif, cmpV_nilif, sh_agg, ow_agg, cells_agg, single_agg, stV_agg, cmpV_agg, sh_tup, ow_tup, cells_tup, single_tup, stV_tup, cmpV_cons, guardV_bool, guardV_tup, nat_int, hk', hgt, e1, e2, e3, e4]
    rw [Sat_bind]
    refine tasks_in (k := k) (len := ts.length) g5 g6 _ ?_
    simp -implicitDefEqProofs only [tools_tasks_r0, tools_tasks_r1, tools_tasks_r2, tools_tasks_r3, tools_tasks_r4, tools_tasks_r5, tools_tasks_r6, tools_tasks_r7, tools_tasks_r8, tools_tasks_r9, tools_tasks_r10, tools_tasks_r11, tools_tasks_r12, tools_tasks_r13, tools_tasks_r14, tools_tasks_b0, tools_tasks_r15, tools_tasks_f, tools_tasks_v, ite_self, cloneA, cloneC, Nat.zero_le, ↓reduceIte, mm_max, mm_min, codeVL_loop, keepV_from, keepFrom, List.contains_cons, List.contains_nil, codeVL_skip, codeVL_exit, codeVL_ret, codeVL_ops, codeVL_dops, codeVL_seq, codeVL_cond, codeVL_block, opsV_nil, opsV_d, opsV_n, opsV_g, vs_c, vs_t, nrm, nrmL, eqE, eqL, List.replicate, List.cons_append, List.nil_append, List.append_nil, List.getD_cons_zero, List.getD_cons_succ, List.getD_nil, List.set_cons_zero, List.set_cons_succ, Option.bind_some, Option.bind_none, Option.bind_assoc, thenV_norm, thenV_exit, thenV_ret, blockV_norm, blockV_exit, blockV_ret, endV_norm, endV_ret, backV, fz_list, fz_int, fz_bool, fz_str, fz_tup, fz_agg, mapM_cons', mapM_nil', fzN_tup, fzN_agg, fzN_list, fzN_int, fzN_bool, fzN_str, fzN_cptr, fzN_nilptr, ressV, resV, oneV, ite_bind, if_true, if_false, decide_eq_true_eq, Bool.false_eq_true, reduceCtorEq, Bool.not_true, Bool.not_false, Bool.and_true, Bool.and_false, Bool.true_and, Bool.false_and, List.all_cons, List.all_nil, List.length_cons, List.length_nil, List.map_cons, List.map_nil, fillV, vsplice, List.take_succ_cons, List.take_zero, List.drop_succ_cons, List.drop_zero, List.drop_nil, List.take_nil, beq_self_eq_true, vbnds, Int.toNat_zero, Int.toNat_one, Nat.zero_add, Nat.add_zero, Nat.mul_one, Nat.one_mul, Nat.mul_zero, Nat.zero_mul, List.getElem?_cons_zero, List.getElem?_cons_succ, List.getElem?_nil, List.getElem?_map, Option.map_some, Option.map_none, List.length_map, decide_true, decide_false, Bool.or_true, Bool.or_false, Bool.true_or, Bool.false_or, not_true_eq_false, not_false_eq_true, true_and, and_true, false_and, and_false, true_or, or_true, false_or, or_false, ne_eq, beq_true, Bool.true_beq, Bool.false_beq, int_beq, int_bne, nat_beq, bool_beq_true, bool_beq_false, ite_boolV, cast_zero, cast_one, Bool.not_eq_true', Bool.not_eq_false', decide_eq_false_iff_not, gt_iff_lt, ge_iff_le, Nat.le_refl, Nat.lt_irrefl, Nat.add_sub_cancel, Nat.sub_zero, Int.reduceLT, Int.reduceLE, Int.reduceToNat, Nat.reduceAdd, Nat.reduceMul, Nat.reduceLeDiff, Nat.reduceLT, Nat.reduceSub, Int.reduceNeg, Int.reduceEq, Int.reduceBEq, Int.reduceBNe, Nat.reduceEqDiff, Int.toNat_natCast, Int.natCast_nonneg, Int.cast_ofNat_Int, lowL, VV.low, trim, chunk, appendV, rowsOf, Sat_some, take_map_len, take_len, take_set_len, succ_ne_zero, succ_pos', List.length_set, opV_mvF, opV_mvT, opV_mvs, opV_pick, opV_alloc, opV_box, opV_build, opV_bslice, opV_load, opV_store, opV_nilchk, opV_bin, opV_eqv, opV_un, opV_conv, opV_b2s, opV_s2b, opV_slc, opV_fieldAddr, opV_field, opV_indexAddr, opV_indexAddrA, opV_index, opV_indexA, opV_extract, opV_lenS, opV_lenL, opV_lenM, opV_lenC, opV_min2, opV_max2, opV_append, opV_copy, opV_make, opV_mkmap, opV_lookup, opV_update, opV_mkfunc, opV_call, opV_callv, opV_stuck, strip_mvF, strip_mvT, strip_mvC, strip_mvs, strip_pick, strip_alloc, strip_box, strip_build, strip_bslice, strip_load, strip_storeT, strip_storeC, strip_nilchk, strip_bin, strip_eqv, strip_un, strip_conv, strip_b2s, strip_s2b, strip_slc, strip_fieldAddr, strip_field, strip_indexAddr, strip_indexAddrA, strip_index, strip_indexA, strip_extract, strip_lenS, strip_lenL, strip_lenM, strip_lenC, strip_min2, strip_max2, strip_appendT, strip_appendC, strip_copy, strip_make, strip_mkmap, strip_lookup, strip_update, strip_mkfunc, strip_call, strip_callv, strip_stuck, vr_t, vr_c, cmpX_t, cmpX_c, putV_s, putV_n, ofLV_int, ofLV_bool, ofLV_str, ofLV_nilslice, ofLV_nilptr, ofLV_nilfunc, ofLV_nilmap, ofLV_nilif, ofLV_agg, ofLV_tup, ofLV_func, ofLVs_nil, ofLVs_cons, binE_add, binE_sub, binE_mul, binE_eql, binE_neq, binE_lss, binE_leq, binE_gtr, binE_geq, binE_quo, binE_rem, binE_seql, binE_sneq, unE_not, unE_neg, sh_undef, ow_undef, cells_undef, single_undef, stV_undef, sh_bool, ow_bool, cells_bool, single_bool, sc_bool, stV_bool, cmpV_bool, sh_int, ow_int, cells_int, single_int, sc_int, stV_int, cmpV_int, sh_str, ow_str, cells_str, single_str, sc_str, stV_str, cmpV_str, sh_ptr, ow_ptr, cells_ptr, single_ptr, stV_ptr, cmpV_ptr, sh_cptr, ow_cptr, cells_cptr, single_cptr, stV_cptr, cmpV_cptr, sh_nilptr, ow_nilptr, cells_nilptr, single_nilptr, stV_nilptr, cmpV_nilptr, sh_lists, ow_lists, cells_lists, single_lists, stV_lists, sh_listf, ow_listf, cells_listf, single_listf, stV_listf, sh_listo, ow_listo, cells_listo, single_listo, stV_listo, sh_hs, ow_hs, cells_hs, single_hs, stV_hs, sh_map, ow_map, cells_map, single_map, stV_map, cmpV_map, sh_nilmap, ow_nilmap, cells_nilmap, single_nilmap, stV_nilmap, cmpV_nilmap, sh_func, ow_func, cells_func, single_func, stV_func, cmpV_func, sh_nilfunc, ow_nilfunc, cells_nilfunc, single_nilfunc, stV_nilfunc, cmpV_nilfunc, sh_iface, ow_iface, cells_iface, single_iface, stV_iface, cmpV_iface, sh_nilif, ow_nilif, cells_nilif, single_nilif, stV_nilif, cmpV_nilif, sh_agg, ow_agg, cells_agg, single_agg, stV_agg, cmpV_agg, sh_tup, ow_tup, cells_tup, single_tup, stV_tup, cmpV_cons, guardV_bool, guardV_tup, nat_int, hwr]
  · rintro env h' ⟨rfl, rfl⟩
    simp -implicitDefEqProofs only [tools_tasks_r0, tools_tasks_r1, tools_tasks_r2, tools_tasks_r3, tools_tasks_r4, tools_tasks_r5, tools_tasks_r6, tools_tasks_r7, tools_tasks_r8, tools_tasks_r9, tools_tasks_r10, tools_tasks_r11, tools_tasks_r12, tools_tasks_r13, tools_tasks_r14, tools_tasks_b0, tools_tasks_r15, tools_tasks_f, tools_tasks_v, ite_self, cloneA, cloneC, Nat.zero_le, ↓reduceIte, mm_max, mm_min, codeVL_loop, keepV_from, keepFrom, List.contains_cons, List.contains_nil, codeVL_skip, codeVL_exit, codeVL_ret, codeVL_ops, codeVL_dops, codeVL_seq, codeVL_cond, codeVL_block, opsV_nil, opsV_d, opsV_n, opsV_g, vs_c, vs_t, nrm, nrmL, eqE, eqL, List.replicate, List.cons_append, List.nil_append, List.append_nil, List.getD_cons_zero, List.getD_cons_succ, List.getD_nil, List.set_cons_zero, List.set_cons_succ, Option.bind_some, Option.bind_none, Option.bind_assoc, thenV_norm, thenV_exit, thenV_ret, blockV_norm, blockV_exit, blockV_ret, endV_norm, endV_ret, backV, fz_list, fz_int, fz_bool, fz_str, fz_tup, fz_agg, mapM_cons', mapM_nil', fzN_tup, fzN_agg, fzN_list, fzN_int, fzN_bool, fzN_str, fzN_cptr, fzN_nilptr, ressV, resV, oneV, ite_bind, if_true, if_false, decide_eq_true_eq, Bool.false_eq_true, reduceCtorEq, Bool.not_true, Bool.not_false, Bool.and_true, Bool.and_false, Bool.true_and, Bool.false_and, List.all_cons, List.all_nil, List.length_cons, List.length_nil, List.map_cons, List.map_nil, fillV, vsplice, List.take_succ_cons, List.take_zero, List.drop_succ_cons, List.drop_zero, List.drop_nil, List.take_nil, beq_self_eq_true, vbnds, Int.toNat_zero, Int.toNat_one, Nat.zero_add, Nat.add_zero, Nat.mul_one, Nat.one_mul, Nat.mul_zero, Nat.zero_mul, List.getElem?_cons_zero, List.getElem?_cons_succ, List.getElem?_nil, List.getElem?_map, Option.map_some, Option.map_none, List.length_map, decide_true, decide_false, Bool.or_true, Bool.or_false, Bool.true_or, Bool.false_or, not_true_eq_false, not_false_eq_true, true_and, and_true, false_and, and_false, true_or, or_true, false_or, or_false, ne_eq, beq_true, Bool.true_beq, Bool.false_beq, int_beq, int_bne, nat_beq, bool_beq_true, bool_beq_false, ite_boolV, cast_zero, cast_one, Bool.not_eq_true', Bool.not_eq_false', decide_eq_false_iff_not, gt_iff_lt, ge_iff_le, Nat.le_refl, Nat.lt_irrefl, Nat.add_sub_cancel, Nat.sub_zero, Int.reduceLT, Int.reduceLE, Int.reduceToNat, Nat.reduceAdd, Nat.reduceMul, Nat.reduceLeDiff, Nat.reduceLT, Nat.reduceSub, Int.reduceNeg, Int.reduceEq, Int.reduceBEq, Int.reduceBNe, Nat.reduceEqDiff, Int.toNat_natCast, Int.natCast_nonneg, Int.cast_ofNat_Int, lowL, VV.low, trim, chunk, appendV, rowsOf, Sat_some, take_map_len, take_len, take_set_len, succ_ne_zero, succ_pos', List.length_set, opV_mvF, opV_mvT, opV_mvs, opV_pick, opV_alloc, opV_box, opV_build, opV_bslice, opV_load, opV_store, opV_nilchk, opV_bin, opV_eqv, opV_un, opV_conv, opV_b2s, opV_s2b, opV_slc, opV_fieldAddr, opV_field, opV_indexAddr, opV_indexAddrA, opV_index, opV_indexA, opV_extract, opV_lenS, opV_lenL, opV_lenM, opV_lenC, opV_min2, opV_max2, opV_append, opV_copy, opV_make, opV_mkmap, opV_lookup, opV_update, opV_mkfunc, opV_call, opV_callv, opV_stuck, strip_mvF, strip_mvT, strip_mvC, strip_mvs, strip_pick, strip_alloc, strip_box, strip_build, strip_bslice, strip_load, strip_storeT, strip_storeC, strip_nilchk, strip_bin, strip_eqv, strip_un, strip_conv, strip_b2s, strip_s2b, strip_slc, strip_fieldAddr, strip_field, strip_indexAddr, strip_indexAddrA, strip_index, strip_indexA, strip_extract, strip_lenS, strip_lenL, strip_lenM, strip_lenC, strip_min2, strip_max2, strip_appendT, strip_appendC, strip_copy, strip_make, strip_mkmap, strip_lookup, strip_update, strip_mkfunc, strip_call, strip_callv, strip_stuck, vr_t, vr_c, cmpX_t, cmpX_c, putV_s, putV_n, ofLV_int, ofLV_bool, ofLV_str, ofLV_nilslice, ofLV_nilptr, ofLV_nilfunc, ofLV_nilmap, ofLV_nilif, ofLV_agg, ofLV_tup, ofLV_func, ofLVs_nil, ofLVs_cons, binE_add, binE_sub, binE_mul, binE_eql, binE_neq, binE_lss, binE_leq, binE_gtr, binE_geq, binE_quo, binE_rem, binE_seql, binE_sneq, unE_not, unE_neg, sh_undef, ow_undef, cells_undef, single_undef, stV_undef, sh_bool, ow_bool, cells_bool, single_bool, sc_bool, stV_bool, cmpV_bool, sh_int, ow_int, cells_int, single_int, sc_int, stV_int, cmpV_int, sh_str, ow_str, cells_str, single_str, sc_str, stV_str, cmpV_str, sh_ptr, ow_ptr, cells_ptr, single_ptr, stV_ptr, cmpV_ptr, sh_cptr, ow_cptr, cells_cptr, single_cptr, stV_cptr, cmpV_cptr, sh_nilptr, ow_nilptr, cells_nilptr, single_nilptr, stV_nilptr, cmpV_nilptr, sh_lists, ow_lists, cells_lists, single_lists, stV_lists, sh_listf, ow_listf, cells_listf, single_listf, stV_listf, sh_listo, ow_listo, cells_listo, single_listo, stV_listo, sh_hs, ow_hs, cells_hs, single_hs, stV_hs, sh_map, ow_map, cells_map, single_map, stV_map, cmpV_map, sh_nilmap, ow_nilmap, cells_nilmap, single_nilmap, stV_nilmap, cmpV_nilmap, sh_func, ow_func, cells_func, single_func, stV_func, cmpV_func, sh_nilfunc, ow_nilfunc, cells_nilfunc, single_nilfunc, stV_nilfunc, cmpV_nilfunc, sh_iface, ow_iface, cells_iface, single_iface, stV_iface, cmpV_iface, sh_nilif, ow_nilif, cells_nilif, single_nilif, stV_nilif, cmpV_nilif, sh_agg, ow_agg, cells_agg, single_agg, stV_agg, cmpV_agg, sh_tup, ow_tup, cells_tup, single_tup, stV_tup, cmpV_cons, guardV_bool, guardV_tup, nat_int, Int.lt_irrefl]
    exact hP1

def gt (a : List Int) (x : Int) : Int := a.getD x.toNat 0
theorem gt_at {a : List Int} {x : Int} (h : x.toNat < a.length) : a[x.toNat]? = some (gt a x) := by
  unfold gt; rw [List.getD_eq_getElem?_getD, List.getElem?_eq_getElem h]; rfl
/-- When what comes before has ended. -/
def atOf (out ts : List Int) (l : List Int) : Int := l.foldl (fun a x => max a (gt out x + gt ts x)) 0
theorem atOf_snoc (out ts l : List Int) (x : Int) : atOf out ts (l ++ [x]) = max (atOf out ts l) (gt out x + gt ts x) := by simp [atOf]
theorem atOf_take (out ts l : List Int) (i : Nat) (x : Int) (hx : l[i]? = some x) : atOf out ts (l.take (i + 1)) = max (atOf out ts (l.take i)) (gt out x + gt ts x) := by
  rw [← atOf_snoc]; congr 1; rw [List.take_add_one, hx]; rfl
theorem atOf_congr (out out' ts l : List Int) (h : ∀ x ∈ l, gt out x = gt out' x) : atOf out ts l = atOf out' ts l := by
  unfold atOf
  have : ∀ (l : List Int) (a : Int), (∀ x ∈ l, gt out x = gt out' x) → l.foldl (fun a x => max a (gt out x + gt ts x)) a = l.foldl (fun a x => max a (gt out' x + gt ts x)) a := by
    intro l
    induction l with
    | nil => intro _ _; rfl
    | cons y r ih =>
      intro a h
      simp only [List.foldl_cons]
      rw [h y (by simp)]
      exact ih _ (fun x hx => h x (by simp [hx]))
  exact this l 0 h
theorem atOf_nonneg (out ts l : List Int) : 0 ≤ atOf out ts l := by
  unfold atOf
  have : ∀ (l : List Int) (a : Int), 0 ≤ a → 0 ≤ l.foldl (fun a x => max a (gt out x + gt ts x)) a := by
    intro l
    induction l with
    | nil => intro a h; exact h
    | cons y r ih => intro a h; exact ih _ (by simp only; omega)
  exact this l 0 (by omega)
theorem atOf_le (out ts l : List Int) (b : Int) (hb : 0 ≤ b) (h : ∀ x ∈ l, gt out x + gt ts x ≤ b) : atOf out ts l ≤ b := by
  unfold atOf
  have : ∀ (l : List Int) (a : Int), a ≤ b → (∀ x ∈ l, gt out x + gt ts x ≤ b) → l.foldl (fun a x => max a (gt out x + gt ts x)) a ≤ b := by
    intro l
    induction l with
    | nil => intro a h _; exact h
    | cons y r ih => intro a h h2; exact ih _ (by have := h2 y (by simp); simp only; omega) (fun x hx => h2 x (by simp [hx]))
  exact this l 0 hb h
theorem le_atOf (out ts l : List Int) {x : Int} (hx : x ∈ l) : gt out x + gt ts x ≤ atOf out ts l := by
  unfold atOf
  have mono : ∀ (l : List Int) (a : Int), a ≤ l.foldl (fun a x => max a (gt out x + gt ts x)) a := by
    intro l
    induction l with
    | nil => intro a; exact Int.le_refl a
    | cons y r ih => intro a; have := ih (max a (gt out y + gt ts y)); simp only [List.foldl_cons]; omega
  have : ∀ (l : List Int) (a : Int), x ∈ l → gt out x + gt ts x ≤ l.foldl (fun a x => max a (gt out x + gt ts x)) a := by
    intro l
    induction l with
    | nil => intro a h; cases h
    | cons y r ih =>
      intro a h
      simp only [List.foldl_cons]
      rcases List.mem_cons.1 h with rfl | h
      · have := mono r (max a (gt out x + gt ts x)); omega
      · exact ih _ h
  exact this l 0 hx
theorem gt_snoc_lt {E : List Int} {a x : Int} (h : x.toNat < E.length) : gt (E ++ [a]) x = gt E x := by
  unfold gt; rw [List.getD_eq_getElem?_getD, List.getD_eq_getElem?_getD, List.getElem?_append_left h]
theorem gt_snoc_eq {E : List Int} {a : Int} : gt (E ++ [a]) (E.length : Nat) = a := by
  unfold gt; rw [List.getD_eq_getElem?_getD, Int.toNat_natCast, List.getElem?_concat_length]; rfl
theorem atOf_hit (out ts l : List Int) : atOf out ts l = 0 ∨ ∃ x ∈ l, atOf out ts l = gt out x + gt ts x := by
  unfold atOf
  have : ∀ (l : List Int) (a : Int), l.foldl (fun a x => max a (gt out x + gt ts x)) a = a ∨ ∃ x ∈ l, l.foldl (fun a x => max a (gt out x + gt ts x)) a = gt out x + gt ts x := by
    intro l
    induction l with
    | nil => intro a; exact .inl rfl
    | cons y r ih =>
      intro a
      simp only [List.foldl_cons]
      rcases ih (max a (gt out y + gt ts y)) with h | ⟨x, hx, h⟩
      · by_cases hy : gt out y + gt ts y ≤ a
        · left; rw [h]; omega
        · right; exact ⟨y, by simp, by rw [h]; omega⟩
      · right; exact ⟨x, by simp [hx], h⟩
  exact this l 0
/-- The uses of the first k tasks. -/
def usedP (ts : List TaskR) (A : List Int) : Nat → List Use
  | 0 => []
  | k + 1 => usedP ts A k ++ (match ts[k]? with | some t => if 0 ≤ t.tool then [⟨t.tool, gt A k, t.long⟩] else [] | none => [])
theorem usedP_congr (ts : List TaskR) (A A' : List Int) (k : Nat) (h : ∀ j : Nat, j < k → gt A j = gt A' j) : usedP ts A k = usedP ts A' k := by
  induction k with
  | zero => rfl
  | succ k ih => rw [usedP, usedP, ih (fun j hj => h j (by omega)), h k (by omega)]
theorem usedP_mem {ts : List TaskR} {A : List Int} {k : Nat} {v : Use} : v ∈ usedP ts A k ↔ ∃ (i : Nat) (t : TaskR), i < k ∧ ts[i]? = some t ∧ 0 ≤ t.tool ∧ v = ⟨t.tool, gt A i, t.long⟩ := by
  induction k with
  | zero => simp [usedP]
  | succ k ih =>
    rw [usedP, List.mem_append, ih]
    constructor
    · rintro (⟨i, t, h1, h2⟩ | h)
      · exact ⟨i, t, by omega, h2⟩
      · cases ht : ts[k]? with
        | none => rw [ht] at h; cases h
        | some t =>
          rw [ht] at h
          simp only at h
          split at h
          · rename_i h0; simp only [List.mem_singleton] at h; exact ⟨k, t, by omega, ht, h0, h⟩
          · cases h
    · rintro ⟨i, t, h1, h2, h3, h4⟩
      by_cases hik : i = k
      · subst hik; right; rw [h2]; simp only [h3, if_true, h4, List.mem_singleton]
      · exact .inl ⟨i, t, by omega, h2, h3, h4⟩
theorem usedP_len (ts : List TaskR) (A : List Int) (k : Nat) : (usedP ts A k).length ≤ k := by
  induction k with
  | zero => simp [usedP]
  | succ k ih =>
    rw [usedP, List.length_append]
    have : (match ts[k]? with | some t => if 0 ≤ t.tool then [(⟨t.tool, gt A k, t.long⟩ : Use)] else [] | none => []).length ≤ 1 := by
      cases ts[k]? with
      | none => simp
      | some t => simp only; split <;> simp
    omega
def longs (ts : List TaskR) : List Int := ts.map (·.long)
theorem gt_longs {ts : List TaskR} {x : Int} {t : TaskR} (h : ts[x.toNat]? = some t) : gt (longs ts) x = t.long := by
  unfold gt longs; rw [List.getD_eq_getElem?_getD, List.getElem?_map, h]; rfl

/-- A plan of the first k tasks. -/
def PlanP (ts : List TaskR) (A : List Int) (k : Nat) : Prop :=
  A.length = k ∧ GoodN (usedP ts A k) (usedP ts A k).length ∧ ∀ (i : Nat) (t : TaskR), i < k → ts[i]? = some t →
    0 ≤ gt A i ∧ gt A i ≤ 20 * i ∧ (∀ x ∈ t.after, gt A x + gt (longs ts) x ≤ gt A i) ∧
    atOf A (longs ts) t.after ≤ gt A i ∧ ∀ c, atOf A (longs ts) t.after ≤ c → c < gt A i → 0 ≤ t.tool ∧ ∃ v ∈ usedP ts A i, clashU ⟨t.tool, c, t.long⟩ v
theorem PlanP.snoc {ts : List TaskR} {A : List Int} {k : Nat} {t : TaskR} {F : Int} (hg : GoodT ts) (h : PlanP ts A k) (ht : ts[k]? = some t) (hF1 : atOf A (longs ts) t.after ≤ F) (hF2 : F ≤ 20 * k)
    (hF3 : ∀ c, atOf A (longs ts) t.after ≤ c → c < F → 0 ≤ t.tool ∧ ∃ v ∈ usedP ts A k, clashU ⟨t.tool, c, t.long⟩ v) (hF4 : 0 ≤ t.tool → ∀ v ∈ usedP ts A k, ¬ clashU ⟨t.tool, F, t.long⟩ v) : PlanP ts (A ++ [F]) (k + 1) := by
  obtain ⟨h1, h2, h3⟩ := h
  obtain ⟨g1, g2, g3, g4, g5, _⟩ := hg.2 k t ht
  have hk := lt_of_getElem? ht
  have hkl := hg.1
  have lt : ∀ j : Int, j.toNat < k → gt (A ++ [F]) j = gt A j := fun j hj => gt_snoc_lt (by omega)
  have eq : gt (A ++ [F]) k = F := by have := gt_snoc_eq (E := A) (a := F); rwa [h1] at this
  have us : ∀ i, i ≤ k → usedP ts (A ++ [F]) i = usedP ts A i := fun i hi => usedP_congr _ _ _ _ fun j hj => lt j (by simp; omega)
  have hat := atOf_nonneg A (longs ts) t.after
  refine ⟨by simp [h1], ?_, ?_⟩
  · rw [usedP, us k (Nat.le_refl k), ht, eq]
    simp only
    split
    · rename_i h0
      refine h2.snoc ?_ (hF4 h0)
      refine ⟨h0, g2, by simp only; omega, g3, by simp only; omega, by simp only; omega⟩
    · rw [List.append_nil]; exact h2
  · intro i t' hi ht'
    by_cases hik : i = k
    · subst hik
      rw [ht] at ht'; cases ht'
      rw [eq, us i (Nat.le_refl i)]
      have hx : ∀ x ∈ t.after, gt (A ++ [F]) x = gt A x := fun x hx => lt x (by have := g5 x hx; omega)
      refine ⟨by omega, hF2, fun x hxm => ?_, ?_⟩
      · rw [hx x hxm]; have := le_atOf A (longs ts) t.after hxm; omega
      · rw [atOf_congr _ _ _ _ hx]; exact ⟨hF1, hF3⟩
    · obtain ⟨p1, p2, p3, p4, p5⟩ := h3 i t' (by omega) ht'
      obtain ⟨_, _, _, _, g5', _⟩ := hg.2 i t' ht'
      have hx : ∀ x ∈ t'.after, gt (A ++ [F]) x = gt A x := fun x hx => lt x (by have := g5' x hx; omega)
      rw [lt i (by simp; omega), us i (by omega)]
      refine ⟨p1, p2, fun x hxm => by rw [hx x hxm]; exact p3 x hxm, ?_⟩
      rw [atOf_congr _ _ _ _ hx]; exact ⟨p4, p5⟩
/-- What First is given. -/
theorem PlanP.farg {ts : List TaskR} {A : List Int} {k : Nat} {t : TaskR} (hg : GoodT ts) (h : PlanP ts A k) (ht : ts[k]? = some t) (h0 : 0 ≤ t.tool) : FArg (usedP ts A k) t.tool (atOf A (longs ts) t.after) t.long (20 * k) := by
  obtain ⟨h1, h2, h3⟩ := h
  obtain ⟨g1, g2, g3, g4, g5, _⟩ := hg.2 k t ht
  have hkl := hg.1
  have hk := lt_of_getElem? ht
  refine ⟨h0, g2, atOf_nonneg _ _ _, atOf_le _ _ _ _ (by omega) fun x hx => ?_, g3, by omega, fun v hv => ?_⟩
  · have hb := g5 x hx
    obtain ⟨tx, htx⟩ : ∃ tx, ts[x.toNat]? = some tx := ⟨_, List.getElem?_eq_getElem (by omega)⟩
    have h4 := h3 x.toNat tx (by omega) htx
    obtain ⟨_, _, _, l4, _⟩ := hg.2 x.toNat tx htx
    rw [Int.toNat_of_nonneg hb.1] at h4
    rw [gt_longs htx]
    omega
  · obtain ⟨j, hj, hjv⟩ := List.mem_iff_getElem.1 hv
    have hval := (h2 j v (by rw [List.getElem?_eq_getElem hj, hjv]) hj).1
    obtain ⟨i, ti, hi, hti, _, rfl⟩ := usedP_mem.1 hv
    have h4 := h3 i ti hi hti
    obtain ⟨_, _, _, l4, _⟩ := hg.2 i ti hti
    exact ⟨hval, by simp only; omega⟩
theorem PlanP.why {ts : List TaskR} {A : List Int} {k i : Nat} {t : TaskR} (h : PlanP ts A k) (hi : i < k) (ht : ts[i]? = some t) : gt A i = 0 ∨ (∃ x ∈ t.after, gt A x + gt (longs ts) x = gt A i) ∨ (0 ≤ t.tool ∧ ∃ v ∈ usedP ts A i, clashU ⟨t.tool, gt A i - 1, t.long⟩ v) := by
  obtain ⟨p1, p2, p3, p4, p5⟩ := h.2.2 i t hi ht
  by_cases hq : gt A i = atOf A (longs ts) t.after
  · rcases atOf_hit A (longs ts) t.after with h0 | ⟨x, hxm, h0⟩
    · left; omega
    · right; left; exact ⟨x, hxm, by omega⟩
  · exact .inr (.inr (p5 _ (by omega) (by omega)))
theorem usedP_prefix (ts : List TaskR) (A : List Int) {i k : Nat} (h : i ≤ k) : ∃ r, usedP ts A k = usedP ts A i ++ r := by
  induction k with
  | zero =>
    obtain rfl : i = 0 := by omega
    exact ⟨[], (List.append_nil _).symm⟩
  | succ k ih =>
    by_cases hik : i = k + 1
    · subst hik; exact ⟨[], (List.append_nil _).symm⟩
    · obtain ⟨r, hr⟩ := ih (by omega)
      rw [usedP, hr, List.append_assoc]
      exact ⟨_, rfl⟩
theorem GoodN.last {us r : List Use} {u v : Use} (h : GoodN (us ++ [u] ++ r) (us ++ [u] ++ r).length) (hv : v ∈ us) : ¬ clashU u v := by
  obtain ⟨j, hj, hjv⟩ := List.mem_iff_getElem.1 hv
  refine (h us.length u ?_ (by simp)).2 j v ?_ hj
  · rw [List.append_assoc, List.getElem?_append_right (Nat.le_refl _)]; simp
  · rw [List.append_assoc, List.getElem?_append_left hj, List.getElem?_eq_getElem hj, hjv]
theorem PlanP.free {ts : List TaskR} {A : List Int} {k i : Nat} {t : TaskR} (h : PlanP ts A k) (hi : i < k) (ht : ts[i]? = some t) (h0 : 0 ≤ t.tool) {v : Use} (hv : v ∈ usedP ts A i) : ¬ clashU ⟨t.tool, gt A i, t.long⟩ v := by
  obtain ⟨r, hr⟩ := usedP_prefix ts A (show i + 1 ≤ k by omega)
  have hG := h.2.1
  rw [hr, usedP, ht] at hG
  simp only [h0, if_true] at hG
  exact hG.last hv
/-- A plan's beginning is the plan of the beginning. -/
theorem PlanP.uniq {ts ts' : List TaskR} {A A' : List Int} {k k' : Nat} (hg : GoodT ts) (h : PlanP ts A k) (h' : PlanP ts' A' k') (n : Nat) (hn : n ≤ k) (hn' : n ≤ k') (hs : ∀ i, i < n → ts[i]? = ts'[i]?) (hl : n ≤ ts.length) : ∀ i : Nat, i < n → gt A i = gt A' i := by
  intro i
  induction i using Nat.strongRecOn with
  | ind i ih =>
    intro hi
    obtain ⟨t, ht⟩ : ∃ t, ts[i]? = some t := ⟨_, List.getElem?_eq_getElem (by omega)⟩
    have ht' : ts'[i]? = some t := by rw [← hs i hi]; exact ht
    obtain ⟨_, _, _, _, g5, _⟩ := hg.2 i t ht
    have hlong : ∀ x : Int, x.toNat < n → gt (longs ts) x = gt (longs ts') x := fun x hx => by
      unfold gt longs; rw [List.getD_eq_getElem?_getD, List.getD_eq_getElem?_getD, List.getElem?_map, List.getElem?_map, hs _ hx]
    have hat : atOf A (longs ts) t.after = atOf A' (longs ts') t.after := by
      have e1 : atOf A (longs ts) t.after = atOf A' (longs ts) t.after := atOf_congr _ _ _ _ fun x hx => by
        have hb := g5 x hx
        have := ih x.toNat (by omega) (by omega)
        rwa [Int.toNat_of_nonneg hb.1] at this
      rw [e1]
      unfold atOf
      have e2 : ∀ (l : List Int) (a : Int), (∀ x ∈ l, 0 ≤ x ∧ x < i) → l.foldl (fun a x => max a (gt A' x + gt (longs ts) x)) a = l.foldl (fun a x => max a (gt A' x + gt (longs ts') x)) a := by
        intro l
        induction l with
        | nil => intro _ _; rfl
        | cons y r ih2 =>
          intro a hb
          simp only [List.foldl_cons]
          rw [hlong y (by have := hb y (by simp); omega)]
          exact ih2 _ (fun x hx => hb x (by simp [hx]))
      exact e2 _ _ g5
    have hus : usedP ts A i = usedP ts' A' i := by
      have e3 : ∀ j, j ≤ i → usedP ts A j = usedP ts' A' j := by
        intro j
        induction j with
        | zero => intro _; rfl
        | succ j ih3 => intro hj; rw [usedP, usedP, ih3 (by omega), hs j (by omega), ih j (by omega) (by omega)]
      exact e3 i (Nat.le_refl i)
    obtain ⟨_, _, _, p4, p5⟩ := h.2.2 i t (by omega) ht
    obtain ⟨_, _, _, p4', p5'⟩ := h'.2.2 i t (by omega) ht'
    apply Int.le_antisymm
    · apply Int.not_lt.1
      intro hlt
      obtain ⟨h0, v, hv, hc⟩ := p5 _ (by rw [hat]; exact p4') hlt
      rw [hus] at hv
      exact h'.free (by omega) ht' h0 hv hc
    · apply Int.not_lt.1
      intro hlt
      obtain ⟨h0, v, hv, hc⟩ := p5' _ (by rw [← hat]; exact p4) hlt
      rw [← hus] at hv
      exact h.free (by omega) ht h0 hv hc
end Vg.G1
