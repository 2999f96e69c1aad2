import Derived.Test.YtpoofafddbcnpaaVG3
namespace Vg.G3
open Go Lg
set_option linter.unusedSimpArgs false
set_option maxRecDepth 10000
set_option maxHeartbeats 2000000
attribute [local congr] bind_congr1
attribute [local go_sem] ite_self cloneA cloneC Nat.zero_le mm_max mm_min codeVL_loop keepV_from keepFrom List.contains_cons List.contains_nil codeVL_skip codeVL_exit codeVL_ret codeVL_ops codeVL_dops codeVL_seq codeVL_cond codeVL_block opsV_nil opsV_d opsV_n opsV_g vs_c vs_t nrm nrmL eqE eqL List.replicate List.cons_append List.nil_append List.append_nil List.getD_cons_zero List.getD_cons_succ List.getD_nil List.set_cons_zero List.set_cons_succ Option.bind_some Option.bind_none Option.bind_assoc thenV_norm thenV_exit thenV_ret blockV_norm blockV_exit blockV_ret endV_norm endV_ret backV fz_list fz_int fz_bool fz_str fz_tup fz_agg mapM_cons' mapM_nil' fzN_tup fzN_agg fzN_list fzN_int fzN_bool fzN_str fzN_cptr fzN_nilptr ressV resV oneV ite_bind if_true if_false decide_eq_true_eq Bool.false_eq_true Bool.not_true Bool.not_false Bool.and_true Bool.and_false Bool.true_and Bool.false_and List.all_cons List.all_nil List.length_cons List.length_nil List.map_cons List.map_nil fillV vsplice List.take_succ_cons List.take_zero List.drop_succ_cons List.drop_zero List.drop_nil List.take_nil beq_self_eq_true vbnds Int.toNat_zero Int.toNat_one Nat.zero_add Nat.add_zero Nat.mul_one Nat.one_mul Nat.mul_zero Nat.zero_mul List.getElem?_cons_zero List.getElem?_cons_succ List.getElem?_nil List.getElem?_map Option.map_some Option.map_none List.length_map decide_true decide_false Bool.or_true Bool.or_false Bool.true_or Bool.false_or not_true_eq_false not_false_eq_true true_and and_true false_and and_false true_or or_true false_or or_false ne_eq beq_true Bool.true_beq Bool.false_beq int_beq int_bne nat_beq bool_beq_true bool_beq_false ite_boolV cast_zero cast_one Bool.not_eq_true' Bool.not_eq_false' decide_eq_false_iff_not gt_iff_lt ge_iff_le Nat.le_refl Nat.lt_irrefl Nat.add_sub_cancel Nat.sub_zero Int.toNat_natCast Int.natCast_nonneg Int.cast_ofNat_Int lowL VV.low trim chunk appendV rowsOf Sat_some take_map_len take_len take_set_len succ_ne_zero succ_pos' List.length_set opV_mvF opV_mvT opV_mvs opV_pick opV_alloc opV_box opV_build opV_bslice opV_load opV_store opV_nilchk opV_bin opV_eqv opV_un opV_conv opV_b2s opV_s2b opV_slc opV_fieldAddr opV_field opV_indexAddr opV_indexAddrA opV_index opV_indexA opV_extract opV_lenS opV_lenL opV_lenM opV_lenC opV_min2 opV_max2 opV_append opV_copy opV_make opV_mkmap opV_lookup opV_update opV_mkfunc opV_call opV_callv opV_ext opV_rewr opV_concat opV_capL extE_index1 extE_count1 extE_join argV_str argV_int argV_bool argV_list Option.isNone_none Option.isNone_some opV_stuck strip_mvF strip_mvT strip_mvC strip_mvs strip_pick strip_alloc strip_box strip_build strip_bslice strip_load strip_storeT strip_storeC strip_nilchk strip_bin strip_eqv strip_un strip_conv strip_b2s strip_s2b strip_slc strip_fieldAddr strip_field strip_indexAddr strip_indexAddrA strip_index strip_indexA strip_extract strip_lenS strip_lenL strip_lenM strip_lenC strip_min2 strip_max2 strip_appendT strip_appendC strip_copy strip_make strip_mkmap strip_lookup strip_update strip_mkfunc strip_call strip_callv strip_ext strip_rewr strip_concat strip_capL strip_stuck vr_t vr_c cmpX_t cmpX_c putV_s putV_n ofLV_int ofLV_bool ofLV_str ofLV_nilslice ofLV_nilptr ofLV_nilfunc ofLV_nilmap ofLV_nilif ofLV_agg ofLV_tup ofLV_func ofLVs_nil ofLVs_cons binE_add binE_sub binE_mul binE_eql binE_neq binE_lss binE_leq binE_gtr binE_geq binE_quo binE_rem binE_seql binE_sneq unE_not unE_neg sh_undef ow_undef cells_undef single_undef stV_undef sh_bool ow_bool cells_bool single_bool sc_bool stV_bool cmpV_bool sh_int ow_int cells_int single_int sc_int stV_int cmpV_int sh_str ow_str cells_str single_str sc_str stV_str cmpV_str sh_ptr ow_ptr cells_ptr single_ptr stV_ptr cmpV_ptr sh_cptr ow_cptr cells_cptr single_cptr stV_cptr cmpV_cptr sh_nilptr ow_nilptr cells_nilptr single_nilptr stV_nilptr cmpV_nilptr sh_lists ow_lists cells_lists single_lists stV_lists sh_listf ow_listf cells_listf single_listf stV_listf sh_listo ow_listo cells_listo single_listo stV_listo sh_hs ow_hs cells_hs single_hs stV_hs sh_map ow_map cells_map single_map stV_map cmpV_map sh_nilmap ow_nilmap cells_nilmap single_nilmap stV_nilmap cmpV_nilmap sh_func ow_func cells_func single_func stV_func cmpV_func sh_nilfunc ow_nilfunc cells_nilfunc single_nilfunc stV_nilfunc cmpV_nilfunc sh_iface ow_iface cells_iface single_iface stV_iface cmpV_iface sh_nilif ow_nilif cells_nilif single_nilif stV_nilif cmpV_nilif sh_agg ow_agg cells_agg single_agg stV_agg cmpV_agg sh_tup ow_tup cells_tup single_tup stV_tup cmpV_cons guardV_bool guardV_tup nat_int fact_Valid_r0 fact_Valid_r1 fact_Valid_r2 fact_Valid_r3 fact_Valid_r4 fact_Valid_r5 fact_Valid_r6 fact_Valid_r7 fact_Valid_r8 fact_Valid_r9 fact_Valid_r10 fact_Valid_r11 fact_Valid_r12 fact_Valid_r13 fact_Valid_r14 fact_Valid_r15 fact_Valid_f fact_Valid_v

structure Fa where
  k : Int
  a : Int
  b : Int
  deriving DecidableEq
def fF (f : Fa) : List VV := [.int .i64 f.k, .int .i64 f.a, .int .i64 f.b]
theorem fF_len (f : Fa) : (fF f).length = 3 := rfl
def lim (k : Int) : Int × Int := if k = 1 then (6, 8) else if k = 2 then (4, 6) else if k = 3 then (4, 1) else if k = 4 then (8, 1) else if k = 5 then (6, 1) else if k = 6 then (4, 14) else (0, 1)
def validF (f : Fa) : Bool := decide (0 ≤ f.a) && (decide (f.a < (lim f.k).1) && (decide (0 ≤ f.b) && decide (f.b < (lim f.k).2)))
theorem Valid_spec (f : Fa) (lo : Nat) (h : VHeap) : callVL vp lo n_fact_Valid [.agg (fF f)] h = some (.bool (validF f), h) := by
  obtain ⟨k, a, b⟩ := f
  refine call_valE (fn := fact_Valid_v) rfl rfl rfl rfl rfl ?_ lo h
  unfold validF
  simp only
  have hl : lim k = if k = 1 then (6, 8) else if k = 2 then (4, 6) else if k = 3 then (4, 1) else if k = 4 then (8, 1) else if k = 5 then (6, 1) else if k = 6 then (4, 14) else (0, 1) := rfl
  by_cases k1 : k = 1
  · subst k1
    simp only [if_true] at hl
    by_cases h1 : 0 ≤ a <;> by_cases h2 : a < 6 <;> by_cases h3 : 0 ≤ b <;> by_cases h4 : b < 8 <;> simp -implicitDefEqProofs only [go_sem, ↓reduceIte, reduceCtorEq, Int.reduceLT, Int.reduceLE, Int.reduceToNat, Nat.reduceAdd, Nat.reduceMul, Nat.reduceLeDiff, Nat.reduceLT, Nat.reduceSub, Int.reduceNeg, Int.reduceEq, Int.reduceBEq, Int.reduceBNe, Nat.reduceEqDiff, fF, hl, h1, h2, h3, h4]
  by_cases k2 : k = 2
  · subst k2
    simp only [k1, if_true, if_false] at hl
    by_cases h1 : 0 ≤ a <;> by_cases h2 : a < 4 <;> by_cases h3 : 0 ≤ b <;> by_cases h4 : b < 6 <;> simp -implicitDefEqProofs only [go_sem, ↓reduceIte, reduceCtorEq, Int.reduceLT, Int.reduceLE, Int.reduceToNat, Nat.reduceAdd, Nat.reduceMul, Nat.reduceLeDiff, Nat.reduceLT, Nat.reduceSub, Int.reduceNeg, Int.reduceEq, Int.reduceBEq, Int.reduceBNe, Nat.reduceEqDiff, fF, hl, h1, h2, h3, h4]
  by_cases k3 : k = 3
  · subst k3
    simp only [k1, k2, if_true, if_false] at hl
    by_cases h1 : 0 ≤ a <;> by_cases h2 : a < 4 <;> by_cases h3 : 0 ≤ b <;> by_cases h4 : b < 1 <;> simp -implicitDefEqProofs only [go_sem, ↓reduceIte, reduceCtorEq, Int.reduceLT, Int.reduceLE, Int.reduceToNat, Nat.reduceAdd, Nat.reduceMul, Nat.reduceLeDiff, Nat.reduceLT, Nat.reduceSub, Int.reduceNeg, Int.reduceEq, Int.reduceBEq, Int.reduceBNe, Nat.reduceEqDiff, fF, hl, h1, h2, h3, h4]
  by_cases k4 : k = 4
  · subst k4
    simp only [k1, k2, k3, if_true, if_false] at hl
    by_cases h1 : 0 ≤ a <;> by_cases h2 : a < 8 <;> by_cases h3 : 0 ≤ b <;> by_cases h4 : b < 1 <;> simp -implicitDefEqProofs only [go_sem, ↓reduceIte, reduceCtorEq, Int.reduceLT, Int.reduceLE, Int.reduceToNat, Nat.reduceAdd, Nat.reduceMul, Nat.reduceLeDiff, Nat.reduceLT, Nat.reduceSub, Int.reduceNeg, Int.reduceEq, Int.reduceBEq, Int.reduceBNe, Nat.reduceEqDiff, fF, hl, h1, h2, h3, h4]
  by_cases k5 : k = 5
  · subst k5
    simp only [k1, k2, k3, k4, if_true, if_false] at hl
    by_cases h1 : 0 ≤ a <;> by_cases h2 : a < 6 <;> by_cases h3 : 0 ≤ b <;> by_cases h4 : b < 1 <;> simp -implicitDefEqProofs only [go_sem, ↓reduceIte, reduceCtorEq, Int.reduceLT, Int.reduceLE, Int.reduceToNat, Nat.reduceAdd, Nat.reduceMul, Nat.reduceLeDiff, Nat.reduceLT, Nat.reduceSub, Int.reduceNeg, Int.reduceEq, Int.reduceBEq, Int.reduceBNe, Nat.reduceEqDiff, fF, hl, h1, h2, h3, h4]
  by_cases k6 : k = 6
  · subst k6
    simp only [k1, k2, k3, k4, k5, if_true, if_false] at hl
    by_cases h1 : 0 ≤ a <;> by_cases h2 : a < 4 <;> by_cases h3 : 0 ≤ b <;> by_cases h4 : b < 14 <;> simp -implicitDefEqProofs only [go_sem, ↓reduceIte, reduceCtorEq, Int.reduceLT, Int.reduceLE, Int.reduceToNat, Nat.reduceAdd, Nat.reduceMul, Nat.reduceLeDiff, Nat.reduceLT, Nat.reduceSub, Int.reduceNeg, Int.reduceEq, Int.reduceBEq, Int.reduceBNe, Nat.reduceEqDiff, fF, hl, h1, h2, h3, h4]
  simp only [k1, k2, k3, k4, k5, k6, if_false] at hl
  by_cases h1 : 0 ≤ a <;> by_cases h2 : a < 0 <;> by_cases h3 : 0 ≤ b <;> by_cases h4 : b < 1 <;> simp -implicitDefEqProofs only [go_sem, ↓reduceIte, reduceCtorEq, Int.reduceLT, Int.reduceLE, Int.reduceToNat, Nat.reduceAdd, Nat.reduceMul, Nat.reduceLeDiff, Nat.reduceLT, Nat.reduceSub, Int.reduceNeg, Int.reduceEq, Int.reduceBEq, Int.reduceBNe, Nat.reduceEqDiff, fF, hl, k1, k2, k3, k4, k5, k6, h1, h2, h3, h4]
theorem eq3 (f g : Fa) : eqL [.i, .i, .i] [.int .i64 f.k, .int .i64 f.a, .int .i64 f.b] [.int .i64 g.k, .int .i64 g.a, .int .i64 g.b] = some (decide (f = g)) := by
  obtain ⟨k, a, b⟩ := f
  obtain ⟨k', a', b'⟩ := g
  simp only [eqL, if_true, int_beq]
  by_cases h1 : k = k' <;> by_cases h2 : a = a' <;> by_cases h3 : b = b' <;> simp [h1, h2, h3]
end Vg.G3
