import Derived.Test.YtehpimogdcilaaaLgS7
namespace Lg.G1
open Go Lg
set_option linter.unusedSimpArgs false
set_option maxRecDepth 10000
attribute [local congr] bind_congr1

/-- The critical ones of the first k steps. -/
def Crit (E D C : List Int) (k : Nat) : Prop := Inc k C ∧ (∀ x ∈ C, gt E x = gt D x) ∧ ∀ j : Nat, j < k → gt E j = gt D j → (j : Int) ∈ C

theorem Critical_spec {lo : Nat} {h : Heap} {v tv : LV} {L : List (List Int)} {ts : List Int} (hlo : lo ≤ h.length) (hr : LL h v L) (hW : WF L) (ht : RI h tv ts) (hd : Dur L ts) :
    Sat (callL lp lo 13 [v, tv] h) fun r => ∃ ov C D E, r.1 = .tup [ov, .int .i64 0] ∧ Early L ts E L.length ∧ Lat L ts E (endN E ts L.length) D 0 ∧ Crit E D C L.length ∧ RI r.2 ov C ∧ h.length ≤ r.2.length ∧ ∀ j, j < h.length → r.2[j]? = h[j]? := by
  have hl9 := hW.1
  obtain ⟨⟨_, h1⟩, hT, ev, E, rfl, hE, hev, hhl, hfr⟩ := Times_spec (lo := lo) hlo hr hW ht hd
  simp only at hev hhl hfr
  have hr1 := hr.keep hfr
  have ht1 : RI h1 tv ts := ht.keep fun n _ _ _ _ _ b hb => by rw [hfr n (lt_of_getElem? hb)]; exact hb
  obtain ⟨⟨_, h2⟩, hT2, dv, D, E', rfl, hE', hD, hdv, hhl2, hfr2⟩ := Latest_spec (lo := lo) (by omega) hr1 hW ht1 hd
  simp only at hdv hhl2 hfr2
  have hEE : E' = E := hE'.uniq hW hE
  subst hEE
  have hev2 : RI h2 ev E' := hev.keep fun n _ _ _ _ _ b hb => by rw [hfr2 n (lt_of_getElem? hb)]; exact hb
  have hr2 := hr1.keep hfr2
  refine Sat_body (fn := order_Critical_f) rfl rfl rfl ?_
  simp only [order_Critical_r0, order_Critical_r1, order_Critical_r2, order_Critical_r3, order_Critical_r4, order_Critical_r5, order_Critical_r6, order_Critical_r7, order_Critical_r8, order_Critical_r9, order_Critical_r10, order_Critical_r11, order_Critical_r12, order_Critical_f, mm_max, mm_min, ↓opE_lenL, lenF_nil, lenF_slice, codeL_loop, keepE_from, keepFrom, List.contains_cons, List.contains_nil, codeL_skip, codeL_exit, codeL_ret, codeL_ops, codeL_dops, codeL_seq, codeL_cond, codeL_block, opsE_nil, opsE_cons, operE_plain, operE_guard, guardB, opE, X.ev, binE, unE, eqE, eqL, putE, List.replicate, List.cons_append, List.nil_append, List.append_nil, List.getD_cons_zero, List.getD_cons_succ, List.getD_nil, List.set_cons_zero, List.set_cons_succ, Option.bind_some, Option.bind_none, Option.bind_assoc, thenE_norm, thenE_exit, thenE_ret, blockE_norm, blockE_exit, blockE_ret, endE_norm, endE_ret, resultsE, resE, oneOf, ite_bind, if_true, if_false, decide_eq_true_eq, Bool.false_eq_true, reduceCtorEq, Bool.not_true, Bool.not_false, Bool.and_true, Bool.and_false, Bool.true_and, Bool.false_and, cells_agg, cells_bool, single_bool, cells_int, single_int, cells_str, single_str, cells_ptr, single_ptr, cells_nilptr, single_nilptr, cells_slice, single_slice, cells_nilslice, single_nilslice, cells_map, single_map, cells_nilmap, single_nilmap, cells_func, single_func, cells_nilfunc, single_nilfunc, cells_iface, single_iface, cells_nilif, single_nilif, List.all_cons, List.all_nil, List.length_cons, List.length_nil, List.map_cons, List.map_nil, fillE, splice_zero, splice_cons, splice_head, List.take_succ_cons, List.take_zero, List.drop_succ_cons, List.drop_zero, List.drop_nil, List.take_nil, beq_self_eq_true, bnds, asNat, Int.toNat_zero, Int.toNat_one, Nat.zero_add, Nat.add_zero, Nat.mul_one, Nat.one_mul, List.getElem?_cons_zero, List.getElem?_cons_succ, List.getElem?_nil, decide_true, decide_false, Bool.or_true, Bool.or_false, Bool.true_or, Bool.false_or, not_true_eq_false, not_false_eq_true, true_and, and_true, false_and, and_false, true_or, or_true, false_or, or_false, ne_eq, beq_true, Bool.true_beq, Bool.false_beq, int_beq, int_bne, nat_beq, bool_beq_true, bool_beq_false, ite_bool, cast_zero, cast_one, Bool.not_eq_true', Bool.not_eq_false', decide_eq_false_iff_not, gt_iff_lt, ge_iff_le, Nat.le_refl, Nat.lt_irrefl, Nat.add_sub_cancel, Nat.sub_zero, Int.reduceLT, Int.reduceLE, Int.reduceToNat, Nat.reduceAdd, Nat.reduceMul, Nat.reduceLeDiff, Nat.reduceLT, Nat.reduceSub, Int.reduceNeg, Int.reduceEq, Int.reduceBEq, Int.reduceBNe, Nat.reduceEqDiff, Int.toNat_natCast, Int.natCast_nonneg, Int.cast_ofNat_Int, hT, hT2, hr2.len]
  refine Sat.bind (P := fun r => ∃ ov C, r.1 = .exit 0 ∧ r.2.1 = [.undef, .undef, .undef, .undef, .undef, .undef, ev, .undef, .undef, dv, .undef, ov, .undef, .undef, .undef, .undef, .undef, .undef, .undef, .undef, .undef, .undef, .undef, .undef, .undef, .undef, .undef, .undef, .undef, .undef, .int .i64 L.length, .int .i64 L.length, .bool false, .undef, .undef, .undef, .undef, .undef, .undef, .undef, .undef, .undef, .undef, .undef, .undef, .undef, .undef, .undef, .undef] ∧ Crit E' D C L.length ∧ RI r.2.2 ov C ∧ h2.length ≤ r.2.2.length ∧ ∀ j, j < h2.length → r.2.2[j]? = h2[j]?)
    (loop_up (I := fun k env h' => ∃ ov C, env = [.undef, .undef, .undef, .undef, .undef, .undef, ev, .undef, .undef, dv, .undef, ov, .undef, .undef, .undef, .undef, .undef, .undef, .undef, .undef, .undef, .undef, .undef, .undef, .undef, .undef, .undef, .undef, .undef, .undef, .int .i64 L.length, .int .i64 k, .undef, .undef, .undef, .undef, .undef, .undef, .undef, .undef, .undef, .undef, .undef, .undef, .undef, .undef, .undef, .undef, .undef] ∧ Crit E' D C k ∧ OI h' h2.length ov C ∧ h2.length ≤ h'.length ∧ ∀ j, j < h2.length → h'[j]? = h2[j]?) L.length ?_ ?_ (Nat.zero_le _) ?_) ?_
  · rintro k env h' hk ⟨ov, C, rfl, ⟨hC1, hC2, hC3⟩, ho, hhl', hfr'⟩
    have hk' : (k : Int) < (L.length : Int) := by omega
    have hw : IntKind.i64.wrap ((k : Int) + 1) = ((k + 1 : Nat) : Int) := by rw [wrap_id (by omega) (by omega)]; rfl
    have hx1 : k < E'.length := by rw [hE'.1]; omega
    have hx3 : k < D.length := by rw [hD.1]; omega
    have hev' : RI h' ev E' := hev2.keep fun n _ _ _ _ _ b hb => by rw [hfr' n (lt_of_getElem? hb)]; exact hb
    have hdv' : RI h' dv D := hdv.keep fun n _ _ _ _ _ b hb => by rw [hfr' n (lt_of_getElem? hb)]; exact hb
    obtain ⟨n3, off3, f3, rw3, cs3, rfl, hn3, hc3, _⟩ := hev'.at (gt_at (x := (k : Int)) (by simp; omega))
    obtain ⟨n4, off4, f4, rw4, cs4, rfl, hn4, hc4, _⟩ := hdv'.at (gt_at (x := (k : Int)) (by simp; omega))
    rw [Int.toNat_natCast] at hc3 hc4
    by_cases heq : gt E' k = gt D k
    · rw [heq] at hc3
      generalize hx : (LBlk.cells true [LV.int .i64 (k : Int)]) = lit
      have hm : (h' ++ [lit])[h'.length]? = some (.cells true [.int .i64 (k : Int)]) := by rw [← hx]; exact List.getElem?_concat_length
      have ho2 : OI (h' ++ [lit]) h2.length ov C := ho.keep fun n b hn hb => by rw [List.getElem?_append_left (lt_of_getElem? hb)]; exact hb
      obtain ⟨h3, ha, ho3, hl3, hf3, _⟩ := ho2.append (lo := lo) (by omega) (by simp; omega) hm (by have := hC1.2.2; omega)
      have hl4 : h3.length = h'.length + 2 := by rw [hl3]; simp
      simp only [order_Critical_r0, order_Critical_r1, order_Critical_r2, order_Critical_r3, order_Critical_r4, order_Critical_r5, order_Critical_r6, order_Critical_r7, order_Critical_r8, order_Critical_r9, order_Critical_r10, order_Critical_r11, order_Critical_b0, order_Critical_r12, order_Critical_f, mm_max, mm_min, ↓opE_lenL, lenF_nil, lenF_slice, codeL_loop, keepE_from, keepFrom, List.contains_cons, List.contains_nil, codeL_skip, codeL_exit, codeL_ret, codeL_ops, codeL_dops, codeL_seq, codeL_cond, codeL_block, opsE_nil, opsE_cons, operE_plain, operE_guard, guardB, opE, X.ev, binE, unE, eqE, eqL, putE, List.replicate, List.cons_append, List.nil_append, List.append_nil, List.getD_cons_zero, List.getD_cons_succ, List.getD_nil, List.set_cons_zero, List.set_cons_succ, Option.bind_some, Option.bind_none, Option.bind_assoc, thenE_norm, thenE_exit, thenE_ret, blockE_norm, blockE_exit, blockE_ret, endE_norm, endE_ret, resultsE, resE, oneOf, ite_bind, if_true, if_false, decide_eq_true_eq, Bool.false_eq_true, reduceCtorEq, Bool.not_true, Bool.not_false, Bool.and_true, Bool.and_false, Bool.true_and, Bool.false_and, cells_agg, cells_bool, single_bool, cells_int, single_int, cells_str, single_str, cells_ptr, single_ptr, cells_nilptr, single_nilptr, cells_slice, single_slice, cells_nilslice, single_nilslice, cells_map, single_map, cells_nilmap, single_nilmap, cells_func, single_func, cells_nilfunc, single_nilfunc, cells_iface, single_iface, cells_nilif, single_nilif, List.all_cons, List.all_nil, List.length_cons, List.length_nil, List.map_cons, List.map_nil, fillE, splice_zero, splice_cons, splice_head, List.take_succ_cons, List.take_zero, List.drop_succ_cons, List.drop_zero, List.drop_nil, List.take_nil, beq_self_eq_true, bnds, asNat, Int.toNat_zero, Int.toNat_one, Nat.zero_add, Nat.add_zero, Nat.mul_one, Nat.one_mul, List.getElem?_cons_zero, List.getElem?_cons_succ, List.getElem?_nil, decide_true, decide_false, Bool.or_true, Bool.or_false, Bool.true_or, Bool.false_or, not_true_eq_false, not_false_eq_true, true_and, and_true, false_and, and_false, true_or, or_true, false_or, or_false, ne_eq, beq_true, Bool.true_beq, Bool.false_beq, int_beq, int_bne, nat_beq, bool_beq_true, bool_beq_false, ite_bool, cast_zero, cast_one, Bool.not_eq_true', Bool.not_eq_false', decide_eq_false_iff_not, gt_iff_lt, ge_iff_le, Nat.le_refl, Nat.lt_irrefl, Nat.add_sub_cancel, Nat.sub_zero, Int.reduceLT, Int.reduceLE, Int.reduceToNat, Nat.reduceAdd, Nat.reduceMul, Nat.reduceLeDiff, Nat.reduceLT, Nat.reduceSub, Int.reduceNeg, Int.reduceEq, Int.reduceBEq, Int.reduceBNe, Nat.reduceEqDiff, Int.toNat_natCast, Int.natCast_nonneg, Int.cast_ofNat_Int, hk', hk, hx1, hx3, hn3, hc3, hn4, hc4, hx, ha, hw]
      refine ⟨_, rfl, _, _, rfl, ⟨hC1.snoc, ?_, ?_⟩, ho3, by omega, fun j hj => ?_⟩
      · intro x hx
        rcases List.mem_append.1 hx with h | h
        · exact hC2 x h
        · simp at h; subst h; exact heq
      · intro j hj hjq
        by_cases hjk : j = k
        · subst hjk; simp
        · exact List.mem_append_left _ (hC3 j (by omega) hjq)
      · rw [hf3 j hj, List.getElem?_append_left (by omega)]; exact hfr' j hj
    · simp only [order_Critical_r0, order_Critical_r1, order_Critical_r2, order_Critical_r3, order_Critical_r4, order_Critical_r5, order_Critical_r6, order_Critical_r7, order_Critical_r8, order_Critical_r9, order_Critical_r10, order_Critical_r11, order_Critical_b0, order_Critical_r12, order_Critical_f, mm_max, mm_min, ↓opE_lenL, lenF_nil, lenF_slice, codeL_loop, keepE_from, keepFrom, List.contains_cons, List.contains_nil, codeL_skip, codeL_exit, codeL_ret, codeL_ops, codeL_dops, codeL_seq, codeL_cond, codeL_block, opsE_nil, opsE_cons, operE_plain, operE_guard, guardB, opE, X.ev, binE, unE, eqE, eqL, putE, List.replicate, List.cons_append, List.nil_append, List.append_nil, List.getD_cons_zero, List.getD_cons_succ, List.getD_nil, List.set_cons_zero, List.set_cons_succ, Option.bind_some, Option.bind_none, Option.bind_assoc, thenE_norm, thenE_exit, thenE_ret, blockE_norm, blockE_exit, blockE_ret, endE_norm, endE_ret, resultsE, resE, oneOf, ite_bind, if_true, if_false, decide_eq_true_eq, Bool.false_eq_true, reduceCtorEq, Bool.not_true, Bool.not_false, Bool.and_true, Bool.and_false, Bool.true_and, Bool.false_and, cells_agg, cells_bool, single_bool, cells_int, single_int, cells_str, single_str, cells_ptr, single_ptr, cells_nilptr, single_nilptr, cells_slice, single_slice, cells_nilslice, single_nilslice, cells_map, single_map, cells_nilmap, single_nilmap, cells_func, single_func, cells_nilfunc, single_nilfunc, cells_iface, single_iface, cells_nilif, single_nilif, List.all_cons, List.all_nil, List.length_cons, List.length_nil, List.map_cons, List.map_nil, fillE, splice_zero, splice_cons, splice_head, List.take_succ_cons, List.take_zero, List.drop_succ_cons, List.drop_zero, List.drop_nil, List.take_nil, beq_self_eq_true, bnds, asNat, Int.toNat_zero, Int.toNat_one, Nat.zero_add, Nat.add_zero, Nat.mul_one, Nat.one_mul, List.getElem?_cons_zero, List.getElem?_cons_succ, List.getElem?_nil, decide_true, decide_false, Bool.or_true, Bool.or_false, Bool.true_or, Bool.false_or, not_true_eq_false, not_false_eq_true, true_and, and_true, false_and, and_false, true_or, or_true, false_or, or_false, ne_eq, beq_true, Bool.true_beq, Bool.false_beq, int_beq, int_bne, nat_beq, bool_beq_true, bool_beq_false, ite_bool, cast_zero, cast_one, Bool.not_eq_true', Bool.not_eq_false', decide_eq_false_iff_not, gt_iff_lt, ge_iff_le, Nat.le_refl, Nat.lt_irrefl, Nat.add_sub_cancel, Nat.sub_zero, Int.reduceLT, Int.reduceLE, Int.reduceToNat, Nat.reduceAdd, Nat.reduceMul, Nat.reduceLeDiff, Nat.reduceLT, Nat.reduceSub, Int.reduceNeg, Int.reduceEq, Int.reduceBEq, Int.reduceBNe, Nat.reduceEqDiff, Int.toNat_natCast, Int.natCast_nonneg, Int.cast_ofNat_Int, hk', hk, hx1, hx3, hn3, hc3, hn4, hc4, heq, hw]
      refine ⟨_, rfl, _, _, rfl, ⟨hC1.succ, hC2, fun j hj hjq => ?_⟩, ho, hhl', hfr'⟩
      by_cases hjk : j = k
      · subst hjk; exact absurd hjq heq
      · exact hC3 j (by omega) hjq
  · rintro env h' ⟨ov, C, rfl, hC, ho, hhl', hfr'⟩
    simp only [order_Critical_r0, order_Critical_r1, order_Critical_r2, order_Critical_r3, order_Critical_r4, order_Critical_r5, order_Critical_r6, order_Critical_r7, order_Critical_r8, order_Critical_r9, order_Critical_r10, order_Critical_r11, order_Critical_b0, order_Critical_r12, order_Critical_f, mm_max, mm_min, ↓opE_lenL, lenF_nil, lenF_slice, codeL_loop, keepE_from, keepFrom, List.contains_cons, List.contains_nil, codeL_skip, codeL_exit, codeL_ret, codeL_ops, codeL_dops, codeL_seq, codeL_cond, codeL_block, opsE_nil, opsE_cons, operE_plain, operE_guard, guardB, opE, X.ev, binE, unE, eqE, eqL, putE, List.replicate, List.cons_append, List.nil_append, List.append_nil, List.getD_cons_zero, List.getD_cons_succ, List.getD_nil, List.set_cons_zero, List.set_cons_succ, Option.bind_some, Option.bind_none, Option.bind_assoc, thenE_norm, thenE_exit, thenE_ret, blockE_norm, blockE_exit, blockE_ret, endE_norm, endE_ret, resultsE, resE, oneOf, ite_bind, if_true, if_false, decide_eq_true_eq, Bool.false_eq_true, reduceCtorEq, Bool.not_true, Bool.not_false, Bool.and_true, Bool.and_false, Bool.true_and, Bool.false_and, cells_agg, cells_bool, single_bool, cells_int, single_int, cells_str, single_str, cells_ptr, single_ptr, cells_nilptr, single_nilptr, cells_slice, single_slice, cells_nilslice, single_nilslice, cells_map, single_map, cells_nilmap, single_nilmap, cells_func, single_func, cells_nilfunc, single_nilfunc, cells_iface, single_iface, cells_nilif, single_nilif, List.all_cons, List.all_nil, List.length_cons, List.length_nil, List.map_cons, List.map_nil, fillE, splice_zero, splice_cons, splice_head, List.take_succ_cons, List.take_zero, List.drop_succ_cons, List.drop_zero, List.drop_nil, List.take_nil, beq_self_eq_true, bnds, asNat, Int.toNat_zero, Int.toNat_one, Nat.zero_add, Nat.add_zero, Nat.mul_one, Nat.one_mul, List.getElem?_cons_zero, List.getElem?_cons_succ, List.getElem?_nil, decide_true, decide_false, Bool.or_true, Bool.or_false, Bool.true_or, Bool.false_or, not_true_eq_false, not_false_eq_true, true_and, and_true, false_and, and_false, true_or, or_true, false_or, or_false, ne_eq, beq_true, Bool.true_beq, Bool.false_beq, int_beq, int_bne, nat_beq, bool_beq_true, bool_beq_false, ite_bool, cast_zero, cast_one, Bool.not_eq_true', Bool.not_eq_false', decide_eq_false_iff_not, gt_iff_lt, ge_iff_le, Nat.le_refl, Nat.lt_irrefl, Nat.add_sub_cancel, Nat.sub_zero, Int.reduceLT, Int.reduceLE, Int.reduceToNat, Nat.reduceAdd, Nat.reduceMul, Nat.reduceLeDiff, Nat.reduceLT, Nat.reduceSub, Int.reduceNeg, Int.reduceEq, Int.reduceBEq, Int.reduceBNe, Nat.reduceEqDiff, Int.toNat_natCast, Int.natCast_nonneg, Int.cast_ofNat_Int, Int.lt_irrefl]
    exact ⟨_, rfl, ov, C, rfl, rfl, hC, ho.ri, hhl', hfr'⟩
  · exact ⟨.nilslice, [], by simp only [mm_max, mm_min, ↓opE_lenL, lenF_nil, lenF_slice, codeL_loop, keepE_from, keepFrom, List.contains_cons, List.contains_nil, codeL_skip, codeL_exit, codeL_ret, codeL_ops, codeL_dops, codeL_seq, codeL_cond, codeL_block, opsE_nil, opsE_cons, operE_plain, operE_guard, guardB, opE, X.ev, binE, unE, eqE, eqL, putE, List.replicate, List.cons_append, List.nil_append, List.append_nil, List.getD_cons_zero, List.getD_cons_succ, List.getD_nil, List.set_cons_zero, List.set_cons_succ, Option.bind_some, Option.bind_none, Option.bind_assoc, thenE_norm, thenE_exit, thenE_ret, blockE_norm, blockE_exit, blockE_ret, endE_norm, endE_ret, resultsE, resE, oneOf, ite_bind, if_true, if_false, decide_eq_true_eq, Bool.false_eq_true, reduceCtorEq, Bool.not_true, Bool.not_false, Bool.and_true, Bool.and_false, Bool.true_and, Bool.false_and, cells_agg, cells_bool, single_bool, cells_int, single_int, cells_str, single_str, cells_ptr, single_ptr, cells_nilptr, single_nilptr, cells_slice, single_slice, cells_nilslice, single_nilslice, cells_map, single_map, cells_nilmap, single_nilmap, cells_func, single_func, cells_nilfunc, single_nilfunc, cells_iface, single_iface, cells_nilif, single_nilif, List.all_cons, List.all_nil, List.length_cons, List.length_nil, List.map_cons, List.map_nil, fillE, splice_zero, splice_cons, splice_head, List.take_succ_cons, List.take_zero, List.drop_succ_cons, List.drop_zero, List.drop_nil, List.take_nil, beq_self_eq_true, bnds, asNat, Int.toNat_zero, Int.toNat_one, Nat.zero_add, Nat.add_zero, Nat.mul_one, Nat.one_mul, List.getElem?_cons_zero, List.getElem?_cons_succ, List.getElem?_nil, decide_true, decide_false, Bool.or_true, Bool.or_false, Bool.true_or, Bool.false_or, not_true_eq_false, not_false_eq_true, true_and, and_true, false_and, and_false, true_or, or_true, false_or, or_false, ne_eq, beq_true, Bool.true_beq, Bool.false_beq, int_beq, int_bne, nat_beq, bool_beq_true, bool_beq_false, ite_bool, cast_zero, cast_one, Bool.not_eq_true', Bool.not_eq_false', decide_eq_false_iff_not, gt_iff_lt, ge_iff_le, Nat.le_refl, Nat.lt_irrefl, Nat.add_sub_cancel, Nat.sub_zero, Int.reduceLT, Int.reduceLE, Int.reduceToNat, Nat.reduceAdd, Nat.reduceMul, Nat.reduceLeDiff, Nat.reduceLT, Nat.reduceSub, Int.reduceNeg, Int.reduceEq, Int.reduceBEq, Int.reduceBNe, Nat.reduceEqDiff, Int.toNat_natCast, Int.natCast_nonneg, Int.cast_ofNat_Int], ⟨Inc.nil 0, by simp, fun j hj => absurd hj (by omega)⟩, .inl ⟨rfl, rfl⟩, Nat.le_refl _, fun _ _ => rfl⟩
  · rintro ⟨o', env', h'⟩ ⟨ov, C, rfl, rfl, hC, ho, hhl', hfr'⟩
    simp only at ho hhl' hfr'
    simp only [order_Critical_r0, order_Critical_r1, order_Critical_r2, order_Critical_r3, order_Critical_r4, order_Critical_r5, order_Critical_r6, order_Critical_r7, order_Critical_r8, order_Critical_r9, order_Critical_r10, order_Critical_r11, order_Critical_r12, order_Critical_f, mm_max, mm_min, ↓opE_lenL, lenF_nil, lenF_slice, codeL_loop, keepE_from, keepFrom, List.contains_cons, List.contains_nil, codeL_skip, codeL_exit, codeL_ret, codeL_ops, codeL_dops, codeL_seq, codeL_cond, codeL_block, opsE_nil, opsE_cons, operE_plain, operE_guard, guardB, opE, X.ev, binE, unE, eqE, eqL, putE, List.replicate, List.cons_append, List.nil_append, List.append_nil, List.getD_cons_zero, List.getD_cons_succ, List.getD_nil, List.set_cons_zero, List.set_cons_succ, Option.bind_some, Option.bind_none, Option.bind_assoc, thenE_norm, thenE_exit, thenE_ret, blockE_norm, blockE_exit, blockE_ret, endE_norm, endE_ret, resultsE, resE, oneOf, ite_bind, if_true, if_false, decide_eq_true_eq, Bool.false_eq_true, reduceCtorEq, Bool.not_true, Bool.not_false, Bool.and_true, Bool.and_false, Bool.true_and, Bool.false_and, cells_agg, cells_bool, single_bool, cells_int, single_int, cells_str, single_str, cells_ptr, single_ptr, cells_nilptr, single_nilptr, cells_slice, single_slice, cells_nilslice, single_nilslice, cells_map, single_map, cells_nilmap, single_nilmap, cells_func, single_func, cells_nilfunc, single_nilfunc, cells_iface, single_iface, cells_nilif, single_nilif, List.all_cons, List.all_nil, List.length_cons, List.length_nil, List.map_cons, List.map_nil, fillE, splice_zero, splice_cons, splice_head, List.take_succ_cons, List.take_zero, List.drop_succ_cons, List.drop_zero, List.drop_nil, List.take_nil, beq_self_eq_true, bnds, asNat, Int.toNat_zero, Int.toNat_one, Nat.zero_add, Nat.add_zero, Nat.mul_one, Nat.one_mul, List.getElem?_cons_zero, List.getElem?_cons_succ, List.getElem?_nil, decide_true, decide_false, Bool.or_true, Bool.or_false, Bool.true_or, Bool.false_or, not_true_eq_false, not_false_eq_true, true_and, and_true, false_and, and_false, true_or, or_true, false_or, or_false, ne_eq, beq_true, Bool.true_beq, Bool.false_beq, int_beq, int_bne, nat_beq, bool_beq_true, bool_beq_false, ite_bool, cast_zero, cast_one, Bool.not_eq_true', Bool.not_eq_false', decide_eq_false_iff_not, gt_iff_lt, ge_iff_le, Nat.le_refl, Nat.lt_irrefl, Nat.add_sub_cancel, Nat.sub_zero, Int.reduceLT, Int.reduceLE, Int.reduceToNat, Nat.reduceAdd, Nat.reduceMul, Nat.reduceLeDiff, Nat.reduceLT, Nat.reduceSub, Int.reduceNeg, Int.reduceEq, Int.reduceBEq, Int.reduceBNe, Nat.reduceEqDiff, Int.toNat_natCast, Int.natCast_nonneg, Int.cast_ofNat_Int]
    refine ⟨_, rfl, ov, C, D, E', rfl, hE', hD, hC, ho, by simp only; omega, fun j hj => ?_⟩
    simp only
    rw [hfr' j (by omega), hfr2 j (by omega), hfr j hj]

theorem atOf_hit (out ts l : List Int) : atOf out ts l = 0 ∨ ∃ x ∈ l, atOf out ts l = gt out x + gt ts x := by
  unfold atOf
  have : ∀ (l : List Int) (a : Int), l.foldl (fun a x => max a (gt out x + gt ts x)) a = a ∨ ∃ x ∈ l, l.foldl (fun a x => max a (gt out x + gt ts x)) a = gt out x + gt ts x := by
    intro l
    induction l with
    | nil => intro a; exact .inl rfl
    | cons y r ih =>
      intro a
      simp only [List.foldl_cons]
      rcases ih (max a (gt out y + gt ts y)) with h | ⟨x, hx, h⟩
      · by_cases hy : gt out y + gt ts y ≤ a
        · left; rw [h]; omega
        · right; exact ⟨y, by simp, by rw [h]; omega⟩
      · right; exact ⟨x, by simp [hx], h⟩
  exact this l 0
theorem endN_hit (out ts : List Int) (n : Nat) (hn : 0 < n) (h0 : ∀ k : Nat, k < n → 0 ≤ gt out k + gt ts k) : ∃ k : Nat, k < n ∧ endN out ts n = gt out k + gt ts k := by
  induction n with
  | zero => omega
  | succ n ih =>
    have := h0 n (by omega)
    rw [endN]
    by_cases hz : n = 0
    · subst hz; exact ⟨0, by omega, by rw [endN]; omega⟩
    · obtain ⟨k, hk, he⟩ := ih (by omega) (fun k hk => h0 k (by omega))
      by_cases hm : gt out n + gt ts n ≤ endN out ts n
      · exact ⟨k, by omega, by omega⟩
      · exact ⟨n, by omega, by omega⟩

/-- The best chains, the first i critical steps done. -/
def Best (L : List (List Int)) (ts E C B : List Int) (i : Nat) : Prop :=
  B.length = L.length ∧ (∀ x ∈ C.take i, gt B x = gt E x + gt ts x) ∧ ∀ j : Nat, j < L.length → (j : Int) ∉ C.take i → gt B j = 0
theorem Best.here {L : List (List Int)} {ts E D C B : List Int} {e : Int} {i k : Nat} {l : List Int} (hW : WF L) (hE : Early L ts E L.length) (hd : Dur L ts) (hD : Lat L ts E e D 0) (hC : Crit E D C L.length) (hB : Best L ts E C B i) (hx : C[i]? = some (k : Int)) (hl : L[k]? = some l) : atOf B [] l = gt E k ∧ gt B k = 0 := by
  have hk := lt_of_getElem? hl
  have nil : ∀ x, gt [] x = 0 := fun x => by simp [gt]
  have hinc := hW.2 k l hl
  have hil := lt_of_getElem? hx
  have pw := List.pairwise_iff_getElem.1 hC.1.1
  have hki : C[i] = (k : Int) := by rw [List.getElem?_eq_getElem hil] at hx; exact Option.some.inj hx
  -- smaller critical ones have been done
  have done : ∀ x ∈ C, x < (k : Int) → x ∈ C.take i := by
    intro x hxC hxk
    obtain ⟨j, hj, rfl⟩ := List.mem_iff_getElem.1 hxC
    by_cases hji : j < i
    · rw [List.mem_take_iff_getElem]; exact ⟨j, by omega, rfl⟩
    · by_cases hji2 : j = i
      · subst hji2; omega
      · have := pw i j hil hj (by omega); omega
  have undone : (k : Int) ∉ C.take i := by
    intro hm
    obtain ⟨j, hj, hje⟩ := List.mem_take_iff_getElem.1 hm
    have := pw j i (by omega) hil (by omega)
    omega
  have hBx : ∀ x ∈ l, gt B x ≤ gt E x + gt ts x ∧ 0 ≤ gt B x := by
    intro x hxl
    have hb := hinc.2.1 x hxl
    have h1 := hE.2.2 x.toNat (by omega)
    rw [Int.toNat_of_nonneg hb.1] at h1
    have h2 := hd.gt x
    by_cases hm : x ∈ C.take i
    · rw [hB.2.1 x hm]; omega
    · have := hB.2.2 x.toNat (by omega) (by rw [Int.toNat_of_nonneg hb.1]; exact hm)
      rw [Int.toNat_of_nonneg hb.1] at this
      omega
  have hEk := hE.2.1 k l hk hl
  have hEkb := hE.2.2 k hk
  refine ⟨?_, hB.2.2 k hk undone⟩
  apply Int.le_antisymm
  · refine atOf_le _ _ _ _ hEkb.1 fun x hxl => ?_
    have := hBx x hxl
    have := le_atOf E ts l hxl
    rw [nil]; omega
  · rcases atOf_hit E ts l with h0 | ⟨x, hxl, h0⟩
    · have := atOf_nonneg B [] l; omega
    · have hb := hinc.2.1 x hxl
      have hDk : gt E k = gt D k := hC.2.1 _ (List.mem_of_getElem? hx)
      have h1 := hD.2.2 k l (Nat.zero_le _) hl x hxl
      have h2 := (hD.2.1 x.toNat (by omega)).1
      rw [Int.toNat_of_nonneg hb.1] at h2
      have hxC : x ∈ C := by
        have := hC.2.2 x.toNat (by omega) (by rw [Int.toNat_of_nonneg hb.1]; omega)
        rw [Int.toNat_of_nonneg hb.1] at this; exact this
      have h3 := hB.2.1 x (done x hxC hb.2)
      have h4 := le_atOf B [] l hxl
      rw [nil] at h4
      omega
theorem Best.step {L : List (List Int)} {ts E D C B : List Int} {i k : Nat} (hC : Crit E D C L.length) (hB : Best L ts E C B i) (hx : C[i]? = some (k : Int)) (hk : k < L.length) : Best L ts E C (B.set k (gt E k + gt ts k)) (i + 1) := by
  have eq : gt (B.set k (gt E k + gt ts k)) k = gt E k + gt ts k := by
    have := gt_set_eq (D := B) (x := (k : Int)) (a := gt E k + gt ts k) (by have := hB.1; simp; omega)
    rw [Int.toNat_natCast] at this; exact this
  have ne : ∀ y : Int, 0 ≤ y → y ≠ k → gt (B.set k (gt E k + gt ts k)) y = gt B y := by
    intro y h0 hy
    have := gt_set_ne (D := B) (x := (k : Int)) (y := y) (a := gt E k + gt ts k) (by simp; omega)
    rw [Int.toNat_natCast] at this; exact this
  refine ⟨by simp [hB.1], ?_, ?_⟩
  · intro x hm
    rw [List.take_add_one, hx] at hm
    by_cases hxk : x = k
    · subst hxk; exact eq
    · rcases List.mem_append.1 hm with h | h
      · rw [ne x (hC.1.2.1 x (List.mem_of_mem_take h)).1 hxk]; exact hB.2.1 x h
      · simp at h; exact absurd h hxk
  · intro j hj hm
    rw [List.take_add_one, hx] at hm
    have h1 : (j : Int) ∉ C.take i := fun h => hm (List.mem_append_left _ h)
    have h2 : (j : Int) ≠ k := fun h => hm (List.mem_append_right _ (by simp [h]))
    rw [ne j (by omega) h2]; exact hB.2.2 j hj h1
end Lg.G1
