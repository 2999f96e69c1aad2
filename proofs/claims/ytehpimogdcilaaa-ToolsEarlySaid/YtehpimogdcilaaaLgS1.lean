import Derived.Test.YtehpimogdcilaaaLgSpec
import Derived.Test.YtehpimogdcilaaaLgCut
namespace Lg.G1
open Go Lg
set_option linter.unusedSimpArgs false
set_option maxRecDepth 10000
attribute [local congr] bind_congr1

def belowP (x n : Int) : Int := if x.tmod n < 0 then IntKind.i64.wrap (x.tmod n + n) else x.tmod n

theorem Below_spec {lo : Nat} {h : Heap} (x n : Int) (hn : 0 < n) : callL lp lo 15 [.int .i64 x, .int .i64 n] h = some (.int .i64 (belowP x n), h) := by
  have h0 : n ≠ 0 := by omega
  refine callL_pure0 (fn := gantmake_Below_f) rfl rfl rfl (h1 := []) ?_ rfl
  rw [bodyL_eq _ _ rfl]
  simp only [gantmake_Below_r0, gantmake_Below_r1, gantmake_Below_r2, gantmake_Below_r3, gantmake_Below_r4, gantmake_Below_f, mm_max, mm_min, ↓opE_lenL, lenF_nil, lenF_slice, codeL_loop, keepE_from, keepFrom, List.contains_cons, List.contains_nil, codeL_skip, codeL_exit, codeL_ret, codeL_ops, codeL_dops, codeL_seq, codeL_cond, codeL_block, opsE_nil, opsE_cons, operE_plain, operE_guard, guardB, opE, X.ev, binE, unE, eqE, eqL, putE, List.replicate, List.cons_append, List.nil_append, List.append_nil, List.getD_cons_zero, List.getD_cons_succ, List.getD_nil, List.set_cons_zero, List.set_cons_succ, Option.bind_some, Option.bind_none, Option.bind_assoc, thenE_norm, thenE_exit, thenE_ret, blockE_norm, blockE_exit, blockE_ret, endE_norm, endE_ret, resultsE, resE, oneOf, ite_bind, if_true, if_false, decide_eq_true_eq, Bool.false_eq_true, reduceCtorEq, Bool.not_true, Bool.not_false, Bool.and_true, Bool.and_false, Bool.true_and, Bool.false_and, cells_agg, cells_bool, single_bool, cells_int, single_int, cells_str, single_str, cells_ptr, single_ptr, cells_nilptr, single_nilptr, cells_slice, single_slice, cells_nilslice, single_nilslice, cells_map, single_map, cells_nilmap, single_nilmap, cells_func, single_func, cells_nilfunc, single_nilfunc, cells_iface, single_iface, cells_nilif, single_nilif, List.all_cons, List.all_nil, List.length_cons, List.length_nil, List.map_cons, List.map_nil, fillE, splice_zero, splice_cons, splice_head, List.take_succ_cons, List.take_zero, List.drop_succ_cons, List.drop_zero, List.drop_nil, List.take_nil, beq_self_eq_true, bnds, asNat, Int.toNat_zero, Int.toNat_one, Nat.zero_add, Nat.add_zero, Nat.mul_one, Nat.one_mul, List.getElem?_cons_zero, List.getElem?_cons_succ, List.getElem?_nil, decide_true, decide_false, Bool.or_true, Bool.or_false, Bool.true_or, Bool.false_or, not_true_eq_false, not_false_eq_true, true_and, and_true, false_and, and_false, true_or, or_true, false_or, or_false, ne_eq, beq_true, Bool.true_beq, Bool.false_beq, int_beq, int_bne, nat_beq, bool_beq_true, bool_beq_false, ite_bool, cast_zero, cast_one, Bool.not_eq_true', Bool.not_eq_false', decide_eq_false_iff_not, gt_iff_lt, ge_iff_le, Nat.le_refl, Nat.lt_irrefl, Nat.add_sub_cancel, Nat.sub_zero, Int.reduceLT, Int.reduceLE, Int.reduceToNat, Nat.reduceAdd, Nat.reduceMul, Nat.reduceLeDiff, Nat.reduceLT, Nat.reduceSub, Int.reduceNeg, Int.reduceEq, Int.reduceBEq, Int.reduceBNe, Nat.reduceEqDiff, Int.toNat_natCast, Int.natCast_nonneg, Int.cast_ofNat_Int, h0, belowP]
  split <;> rfl
theorem belowP_bnd (x n : Int) (hn : 0 < n) (hn' : n < 1000000) : 0 ≤ belowP x n ∧ belowP x n < n := by
  unfold belowP
  have h1 := Int.tmod_lt_of_pos x hn
  have h2 : -n < x.tmod n := by
    rcases Int.le_total 0 x with h | h
    · have := Int.tmod_nonneg n h; omega
    · have h2 := Int.tmod_lt_of_pos (-x) hn
      rw [Int.neg_tmod] at h2; omega
  split
  · rw [wrap_id (by omega) (by omega)]; omega
  · omega

theorem Next_spec {lo : Nat} {h : Heap} {s : Nat} (n : Int) (hn : 1 ≤ n) (hn' : n < 1000000) (hlo : lo ≤ s) (hs : Strm h s) : ∃ z v, callL lp lo 9 [.ptr s 0, .int .i64 n] h = some (.int .i64 z, h.set s (.cells true [v])) ∧ 0 ≤ z ∧ z < n ∧ Strm (h.set s (.cells true [v])) s ∧ RoKeep h (h.set s (.cells true [v])) := by
  have hs' := hs
  obtain ⟨v, xs, hv, hr⟩ := hs
  have hset : h.set s (.cells true [v]) = h := by
    apply List.ext_getElem?
    intro i
    by_cases hi : i = s
    · subst hi; rw [List.getElem?_set_self (lt_of_getElem? hv), hv]
    · rw [List.getElem?_set_ne (by omega)]
  cases xs with
  | nil =>
    refine ⟨0, v, ?_, by omega, by omega, by rw [hset]; exact hs', by rw [hset]; exact RoKeep.refl _⟩
    rw [hset]
    refine callL_body (fn := gantmake_Stream_Next_f) rfl rfl ?_
    rw [bodyL_eq _ _ rfl]
    rcases hr with ⟨rfl, _⟩ | ⟨m, off, full, cs, rfl, _, _, _⟩
    · simp only [gantmake_Stream_Next_r0, gantmake_Stream_Next_r1, gantmake_Stream_Next_r2, gantmake_Stream_Next_r3, gantmake_Stream_Next_r4, gantmake_Stream_Next_r5, gantmake_Stream_Next_f, mm_max, mm_min, ↓opE_lenL, lenF_nil, lenF_slice, codeL_loop, keepE_from, keepFrom, List.contains_cons, List.contains_nil, codeL_skip, codeL_exit, codeL_ret, codeL_ops, codeL_dops, codeL_seq, codeL_cond, codeL_block, opsE_nil, opsE_cons, operE_plain, operE_guard, guardB, opE, X.ev, binE, unE, eqE, eqL, putE, List.replicate, List.cons_append, List.nil_append, List.append_nil, List.getD_cons_zero, List.getD_cons_succ, List.getD_nil, List.set_cons_zero, List.set_cons_succ, Option.bind_some, Option.bind_none, Option.bind_assoc, thenE_norm, thenE_exit, thenE_ret, blockE_norm, blockE_exit, blockE_ret, endE_norm, endE_ret, resultsE, resE, oneOf, ite_bind, if_true, if_false, decide_eq_true_eq, Bool.false_eq_true, reduceCtorEq, Bool.not_true, Bool.not_false, Bool.and_true, Bool.and_false, Bool.true_and, Bool.false_and, cells_agg, cells_bool, single_bool, cells_int, single_int, cells_str, single_str, cells_ptr, single_ptr, cells_nilptr, single_nilptr, cells_slice, single_slice, cells_nilslice, single_nilslice, cells_map, single_map, cells_nilmap, single_nilmap, cells_func, single_func, cells_nilfunc, single_nilfunc, cells_iface, single_iface, cells_nilif, single_nilif, List.all_cons, List.all_nil, List.length_cons, List.length_nil, List.map_cons, List.map_nil, fillE, splice_zero, splice_cons, splice_head, List.take_succ_cons, List.take_zero, List.drop_succ_cons, List.drop_zero, List.drop_nil, List.take_nil, beq_self_eq_true, bnds, asNat, Int.toNat_zero, Int.toNat_one, Nat.zero_add, Nat.add_zero, Nat.mul_one, Nat.one_mul, List.getElem?_cons_zero, List.getElem?_cons_succ, List.getElem?_nil, decide_true, decide_false, Bool.or_true, Bool.or_false, Bool.true_or, Bool.false_or, not_true_eq_false, not_false_eq_true, true_and, and_true, false_and, and_false, true_or, or_true, false_or, or_false, ne_eq, beq_true, Bool.true_beq, Bool.false_beq, int_beq, int_bne, nat_beq, bool_beq_true, bool_beq_false, ite_bool, cast_zero, cast_one, Bool.not_eq_true', Bool.not_eq_false', decide_eq_false_iff_not, gt_iff_lt, ge_iff_le, Nat.le_refl, Nat.lt_irrefl, Nat.add_sub_cancel, Nat.sub_zero, Int.reduceLT, Int.reduceLE, Int.reduceToNat, Nat.reduceAdd, Nat.reduceMul, Nat.reduceLeDiff, Nat.reduceLT, Nat.reduceSub, Int.reduceNeg, Int.reduceEq, Int.reduceBEq, Int.reduceBNe, Nat.reduceEqDiff, Int.toNat_natCast, Int.natCast_nonneg, Int.cast_ofNat_Int, hv]
    · simp only [gantmake_Stream_Next_r0, gantmake_Stream_Next_r1, gantmake_Stream_Next_r2, gantmake_Stream_Next_r3, gantmake_Stream_Next_r4, gantmake_Stream_Next_r5, gantmake_Stream_Next_f, mm_max, mm_min, ↓opE_lenL, lenF_nil, lenF_slice, codeL_loop, keepE_from, keepFrom, List.contains_cons, List.contains_nil, codeL_skip, codeL_exit, codeL_ret, codeL_ops, codeL_dops, codeL_seq, codeL_cond, codeL_block, opsE_nil, opsE_cons, operE_plain, operE_guard, guardB, opE, X.ev, binE, unE, eqE, eqL, putE, List.replicate, List.cons_append, List.nil_append, List.append_nil, List.getD_cons_zero, List.getD_cons_succ, List.getD_nil, List.set_cons_zero, List.set_cons_succ, Option.bind_some, Option.bind_none, Option.bind_assoc, thenE_norm, thenE_exit, thenE_ret, blockE_norm, blockE_exit, blockE_ret, endE_norm, endE_ret, resultsE, resE, oneOf, ite_bind, if_true, if_false, decide_eq_true_eq, Bool.false_eq_true, reduceCtorEq, Bool.not_true, Bool.not_false, Bool.and_true, Bool.and_false, Bool.true_and, Bool.false_and, cells_agg, cells_bool, single_bool, cells_int, single_int, cells_str, single_str, cells_ptr, single_ptr, cells_nilptr, single_nilptr, cells_slice, single_slice, cells_nilslice, single_nilslice, cells_map, single_map, cells_nilmap, single_nilmap, cells_func, single_func, cells_nilfunc, single_nilfunc, cells_iface, single_iface, cells_nilif, single_nilif, List.all_cons, List.all_nil, List.length_cons, List.length_nil, List.map_cons, List.map_nil, fillE, splice_zero, splice_cons, splice_head, List.take_succ_cons, List.take_zero, List.drop_succ_cons, List.drop_zero, List.drop_nil, List.take_nil, beq_self_eq_true, bnds, asNat, Int.toNat_zero, Int.toNat_one, Nat.zero_add, Nat.add_zero, Nat.mul_one, Nat.one_mul, List.getElem?_cons_zero, List.getElem?_cons_succ, List.getElem?_nil, decide_true, decide_false, Bool.or_true, Bool.or_false, Bool.true_or, Bool.false_or, not_true_eq_false, not_false_eq_true, true_and, and_true, false_and, and_false, true_or, or_true, false_or, or_false, ne_eq, beq_true, Bool.true_beq, Bool.false_beq, int_beq, int_bne, nat_beq, bool_beq_true, bool_beq_false, ite_bool, cast_zero, cast_one, Bool.not_eq_true', Bool.not_eq_false', decide_eq_false_iff_not, gt_iff_lt, ge_iff_le, Nat.le_refl, Nat.lt_irrefl, Nat.add_sub_cancel, Nat.sub_zero, Int.reduceLT, Int.reduceLE, Int.reduceToNat, Nat.reduceAdd, Nat.reduceMul, Nat.reduceLeDiff, Nat.reduceLT, Nat.reduceSub, Int.reduceNeg, Int.reduceEq, Int.reduceBEq, Int.reduceBNe, Nat.reduceEqDiff, Int.toNat_natCast, Int.natCast_nonneg, Int.cast_ofNat_Int, hv]
  | cons x r =>
    rcases hr with ⟨_, hc⟩ | ⟨m, off, full, cs, rfl, hm, hle, hx⟩
    · cases hc
    · have h1 : ¬ (n < 1) := by omega
      have h2 : ¬ (((r.length + 1 : Nat) : Int) = 0) := by omega
      have h3 : 0 < r.length + 1 := by omega
      have h4 : 1 ≤ r.length + 1 := by omega
      have h5 : cs[off]? = some (.int .i64 x) := hx 0 x rfl
      have h6 := fun lo h => Below_spec (lo := lo) (h := h) x n (by omega)
      have hb := belowP_bnd x n (by omega) hn'
      have hk : RoKeep h (h.set s (.cells true [.slice m (off + 1) r.length 1 full])) := RoKeep.set hv rfl
      refine ⟨_, .slice m (off + 1) r.length 1 full, ?_, hb.1, hb.2, ⟨_, r, List.getElem?_set_self (lt_of_getElem? hv), ?_⟩, hk⟩
      · refine callL_body (fn := gantmake_Stream_Next_f) rfl rfl ?_
        rw [bodyL_eq _ _ rfl]
        simp only [gantmake_Stream_Next_r0, gantmake_Stream_Next_r1, gantmake_Stream_Next_r2, gantmake_Stream_Next_r3, gantmake_Stream_Next_r4, gantmake_Stream_Next_r5, gantmake_Stream_Next_f, mm_max, mm_min, ↓opE_lenL, lenF_nil, lenF_slice, codeL_loop, keepE_from, keepFrom, List.contains_cons, List.contains_nil, codeL_skip, codeL_exit, codeL_ret, codeL_ops, codeL_dops, codeL_seq, codeL_cond, codeL_block, opsE_nil, opsE_cons, operE_plain, operE_guard, guardB, opE, X.ev, binE, unE, eqE, eqL, putE, List.replicate, List.cons_append, List.nil_append, List.append_nil, List.getD_cons_zero, List.getD_cons_succ, List.getD_nil, List.set_cons_zero, List.set_cons_succ, Option.bind_some, Option.bind_none, Option.bind_assoc, thenE_norm, thenE_exit, thenE_ret, blockE_norm, blockE_exit, blockE_ret, endE_norm, endE_ret, resultsE, resE, oneOf, ite_bind, if_true, if_false, decide_eq_true_eq, Bool.false_eq_true, reduceCtorEq, Bool.not_true, Bool.not_false, Bool.and_true, Bool.and_false, Bool.true_and, Bool.false_and, cells_agg, cells_bool, single_bool, cells_int, single_int, cells_str, single_str, cells_ptr, single_ptr, cells_nilptr, single_nilptr, cells_slice, single_slice, cells_nilslice, single_nilslice, cells_map, single_map, cells_nilmap, single_nilmap, cells_func, single_func, cells_nilfunc, single_nilfunc, cells_iface, single_iface, cells_nilif, single_nilif, List.all_cons, List.all_nil, List.length_cons, List.length_nil, List.map_cons, List.map_nil, fillE, splice_zero, splice_cons, splice_head, List.take_succ_cons, List.take_zero, List.drop_succ_cons, List.drop_zero, List.drop_nil, List.take_nil, beq_self_eq_true, bnds, asNat, Int.toNat_zero, Int.toNat_one, Nat.zero_add, Nat.add_zero, Nat.mul_one, Nat.one_mul, List.getElem?_cons_zero, List.getElem?_cons_succ, List.getElem?_nil, decide_true, decide_false, Bool.or_true, Bool.or_false, Bool.true_or, Bool.false_or, not_true_eq_false, not_false_eq_true, true_and, and_true, false_and, and_false, true_or, or_true, false_or, or_false, ne_eq, beq_true, Bool.true_beq, Bool.false_beq, int_beq, int_bne, nat_beq, bool_beq_true, bool_beq_false, ite_bool, cast_zero, cast_one, Bool.not_eq_true', Bool.not_eq_false', decide_eq_false_iff_not, gt_iff_lt, ge_iff_le, Nat.le_refl, Nat.lt_irrefl, Nat.add_sub_cancel, Nat.sub_zero, Int.reduceLT, Int.reduceLE, Int.reduceToNat, Nat.reduceAdd, Nat.reduceMul, Nat.reduceLeDiff, Nat.reduceLT, Nat.reduceSub, Int.reduceNeg, Int.reduceEq, Int.reduceBEq, Int.reduceBNe, Nat.reduceEqDiff, Int.toNat_natCast, Int.natCast_nonneg, Int.cast_ofNat_Int, hv, h1, h2, h3, h4, h5, h6, hm, hlo]
      · refine RInts.keep (.inr ⟨m, off + 1, full, cs, rfl, hm, ?_, fun i y hy => ?_⟩) hk
        · simp only [List.length_cons] at hle; omega
        · have := hx (i + 1) y (by simpa using hy)
          rw [show off + 1 + i = off + (i + 1) from by omega]; exact this
end Lg.G1
