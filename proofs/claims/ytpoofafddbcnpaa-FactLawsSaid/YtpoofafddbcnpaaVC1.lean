import Derived.Test.YtpoofafddbcnpaaVG3c
namespace Vg.G3c
open Go Lg
set_option linter.unusedSimpArgs false
set_option maxRecDepth 10000
set_option maxHeartbeats 1000000
attribute [local congr] bind_congr1
attribute [local go_sem] ite_self cloneA cloneC Nat.zero_le mm_max mm_min codeVL_loop keepV_from keepFrom List.contains_cons List.contains_nil codeVL_skip codeVL_exit codeVL_ret codeVL_ops codeVL_dops codeVL_seq codeVL_cond codeVL_block opsV_nil opsV_d opsV_n opsV_g vs_c vs_t nrm nrmL eqE eqL List.replicate List.cons_append List.nil_append List.append_nil List.getD_cons_zero List.getD_cons_succ List.getD_nil List.set_cons_zero List.set_cons_succ Option.bind_some Option.bind_none Option.bind_assoc thenV_norm thenV_exit thenV_ret blockV_norm blockV_exit blockV_ret endV_norm endV_ret backV fz_list fz_int fz_bool fz_str fz_tup fz_agg mapM_cons' mapM_nil' fzN_tup fzN_agg fzN_list fzN_int fzN_bool fzN_str fzN_cptr fzN_nilptr ressV resV oneV ite_bind if_true if_false decide_eq_true_eq Bool.false_eq_true Bool.not_true Bool.not_false Bool.and_true Bool.and_false Bool.true_and Bool.false_and List.all_cons List.all_nil List.length_cons List.length_nil List.map_cons List.map_nil fillV vsplice List.take_succ_cons List.take_zero List.drop_succ_cons List.drop_zero List.drop_nil List.take_nil beq_self_eq_true vbnds Int.toNat_zero Int.toNat_one Nat.zero_add Nat.add_zero Nat.mul_one Nat.one_mul Nat.mul_zero Nat.zero_mul List.getElem?_cons_zero List.getElem?_cons_succ List.getElem?_nil List.getElem?_map Option.map_some Option.map_none List.length_map decide_true decide_false Bool.or_true Bool.or_false Bool.true_or Bool.false_or not_true_eq_false not_false_eq_true true_and and_true false_and and_false true_or or_true false_or or_false ne_eq beq_true Bool.true_beq Bool.false_beq int_beq int_bne nat_beq bool_beq_true bool_beq_false ite_boolV cast_zero cast_one Bool.not_eq_true' Bool.not_eq_false' decide_eq_false_iff_not gt_iff_lt ge_iff_le Nat.le_refl Nat.lt_irrefl Nat.add_sub_cancel Nat.sub_zero Int.toNat_natCast Int.natCast_nonneg Int.cast_ofNat_Int lowL VV.low trim chunk appendV rowsOf Sat_some take_map_len take_len take_set_len succ_ne_zero succ_pos' List.length_set opV_mvF opV_mvT opV_mvs opV_pick opV_alloc opV_box opV_build opV_bslice opV_load opV_store opV_nilchk opV_bin opV_eqv opV_un opV_conv opV_b2s opV_s2b opV_slc opV_fieldAddr opV_field opV_indexAddr opV_indexAddrA opV_index opV_indexA opV_extract opV_lenS opV_lenL opV_lenM opV_lenC opV_min2 opV_max2 opV_append opV_copy opV_make opV_mkmap opV_lookup opV_update opV_mkfunc opV_call opV_callv opV_ext opV_rewr opV_concat extE_index1 extE_count1 extE_join argV_str argV_int argV_bool argV_list Option.isNone_none Option.isNone_some opV_stuck strip_mvF strip_mvT strip_mvC strip_mvs strip_pick strip_alloc strip_box strip_build strip_bslice strip_load strip_storeT strip_storeC strip_nilchk strip_bin strip_eqv strip_un strip_conv strip_b2s strip_s2b strip_slc strip_fieldAddr strip_field strip_indexAddr strip_indexAddrA strip_index strip_indexA strip_extract strip_lenS strip_lenL strip_lenM strip_lenC strip_min2 strip_max2 strip_appendT strip_appendC strip_copy strip_make strip_mkmap strip_lookup strip_update strip_mkfunc strip_call strip_callv strip_ext strip_rewr strip_concat strip_stuck vr_t vr_c cmpX_t cmpX_c putV_s putV_n ofLV_int ofLV_bool ofLV_str ofLV_nilslice ofLV_nilptr ofLV_nilfunc ofLV_nilmap ofLV_nilif ofLV_agg ofLV_tup ofLV_func ofLVs_nil ofLVs_cons binE_add binE_sub binE_mul binE_eql binE_neq binE_lss binE_leq binE_gtr binE_geq binE_quo binE_rem binE_seql binE_sneq unE_not unE_neg sh_undef ow_undef cells_undef single_undef stV_undef sh_bool ow_bool cells_bool single_bool sc_bool stV_bool cmpV_bool sh_int ow_int cells_int single_int sc_int stV_int cmpV_int sh_str ow_str cells_str single_str sc_str stV_str cmpV_str sh_ptr ow_ptr cells_ptr single_ptr stV_ptr cmpV_ptr sh_cptr ow_cptr cells_cptr single_cptr stV_cptr cmpV_cptr sh_nilptr ow_nilptr cells_nilptr single_nilptr stV_nilptr cmpV_nilptr sh_lists ow_lists cells_lists single_lists stV_lists sh_listf ow_listf cells_listf single_listf stV_listf sh_listo ow_listo cells_listo single_listo stV_listo sh_hs ow_hs cells_hs single_hs stV_hs sh_map ow_map cells_map single_map stV_map cmpV_map sh_nilmap ow_nilmap cells_nilmap single_nilmap stV_nilmap cmpV_nilmap sh_func ow_func cells_func single_func stV_func cmpV_func sh_nilfunc ow_nilfunc cells_nilfunc single_nilfunc stV_nilfunc cmpV_nilfunc sh_iface ow_iface cells_iface single_iface stV_iface cmpV_iface sh_nilif ow_nilif cells_nilif single_nilif stV_nilif cmpV_nilif sh_agg ow_agg cells_agg single_agg stV_agg cmpV_agg sh_tup ow_tup cells_tup single_tup stV_tup cmpV_cons guardV_bool guardV_tup nat_int cmp_isNaN_int_r0 cmp_isNaN_int_r1 cmp_isNaN_int_f cmp_isNaN_int_v cmp_Compare_int_r0 cmp_Compare_int_r1 cmp_Compare_int_r2 cmp_Compare_int_r3 cmp_Compare_int_r4 cmp_Compare_int_r5 cmp_Compare_int_r6 cmp_Compare_int_r7 cmp_Compare_int_r8 cmp_Compare_int_r9 cmp_Compare_int_r10 cmp_Compare_int_r11 cmp_Compare_int_r12 cmp_Compare_int_r13 cmp_Compare_int_f cmp_Compare_int_v slices_Compare_intint_r0 slices_Compare_intint_r1 slices_Compare_intint_r2 slices_Compare_intint_r3 slices_Compare_intint_r4 slices_Compare_intint_r5 slices_Compare_intint_r6 slices_Compare_intint_r7 slices_Compare_intint_r8 slices_Compare_intint_r9 slices_Compare_intint_r10 slices_Compare_intint_r11 slices_Compare_intint_r12 slices_Compare_intint_r13 slices_Compare_intint_f slices_Compare_intint_v fact_Compare_r0 fact_Compare_r1 fact_Compare_f fact_Compare_v act_Compare_r0 act_Compare_r1 act_Compare_f act_Compare_v

theorem isNaN_spec (n : Int) (lo : Nat) (h : VHeap) : callVL vp lo n_cmp_isNaN_int [.int .i64 n] h = some (.bool false, h) := by
  refine call_valE (fn := cmp_isNaN_int_v) rfl rfl rfl rfl rfl ?_ lo h
  simp -implicitDefEqProofs only [go_sem, ↓reduceIte, reduceCtorEq, Int.reduceLT, Int.reduceLE, Int.reduceToNat, Nat.reduceAdd, Nat.reduceMul, Nat.reduceLeDiff, Nat.reduceLT, Nat.reduceSub, Int.reduceNeg, Int.reduceEq, Int.reduceBEq, Int.reduceBNe, Nat.reduceEqDiff]
theorem cmp_spec (a b : Int) (lo : Nat) (h : VHeap) : callVL vp lo n_cmp_Compare_int [.int .i64 a, .int .i64 b] h = some (.int .i64 (if a < b then -1 else if b < a then 1 else 0), h) := by
  refine call_valE (fn := cmp_Compare_int_v) rfl rfl rfl rfl rfl ?_ lo h
  have hA := isNaN_spec a
  have hB := isNaN_spec b
  by_cases h1 : a < b
  · simp -implicitDefEqProofs only [go_sem, ↓reduceIte, reduceCtorEq, Int.reduceLT, Int.reduceLE, Int.reduceToNat, Nat.reduceAdd, Nat.reduceMul, Nat.reduceLeDiff, Nat.reduceLT, Nat.reduceSub, Int.reduceNeg, Int.reduceEq, Int.reduceBEq, Int.reduceBNe, Nat.reduceEqDiff, hA, hB, h1]
  · by_cases h2 : b < a <;> simp -implicitDefEqProofs only [go_sem, ↓reduceIte, reduceCtorEq, Int.reduceLT, Int.reduceLE, Int.reduceToNat, Nat.reduceAdd, Nat.reduceMul, Nat.reduceLeDiff, Nat.reduceLT, Nat.reduceSub, Int.reduceNeg, Int.reduceEq, Int.reduceBEq, Int.reduceBNe, Nat.reduceEqDiff, hA, hB, h1, h2]
def fJ (n : Int) : List VV := [.int .i64 n]
theorem dropJ {xs : List Int} {i : Nat} {x : Int} (h : xs[i]? = some x) : xs.drop i = x :: xs.drop (i + 1) := by
  obtain ⟨h1, h2⟩ := List.getElem?_eq_some_iff.1 h
  rw [List.drop_eq_getElem_cons h1, h2]
theorem sCompare_spec (A B : List Int) (hA : A.length ≤ 1000) (lo : Nat) (h : VHeap) : callVL vp lo n_slices_Compare_intint [.list .s (A.map fJ), .list .s (B.map fJ)] h = some (.int .i64 (cmpI A B), h) := by
  refine call_valE (fn := slices_Compare_intint_v) rfl rfl rfl rfl rfl ?_ lo h
  generalize hT : cmpI A B = T
  obtain ⟨P, hP⟩ : ∃ P : VV → Prop, P = fun w : VV => w = .int .i64 T := ⟨_, rfl⟩
  have hP1 : P (.int .i64 T) := by subst hP; rfl
  have hP2 : (fun r : VV × VHeap => r.1 = .int .i64 T) = fun r => P r.1 := by subst hP; rfl
  rw [hP2]
  clear hP hP2
  simp -implicitDefEqProofs only [go_sem, ↓reduceIte, reduceCtorEq, Int.reduceLT, Int.reduceLE, Int.reduceToNat, Nat.reduceAdd, Nat.reduceMul, Nat.reduceLeDiff, Nat.reduceLT, Nat.reduceSub, Int.reduceNeg, Int.reduceEq, Int.reduceBEq, Int.reduceBNe, Nat.reduceEqDiff]
  rw [Sat_bind]
  refine loop_up (I := fun i env h' => h' = [] ∧ cmpI (A.drop i) (B.drop i) = T ∧ env = [.list .s (A.map fJ), .list .s (B.map fJ), .undef, .undef, .undef, .undef, .undef, .undef, .undef, .list .s (A.map fJ), .int .i64 ((A.length : Nat) : Int), .int .i64 ((i : Nat) : Int), .undef, .undef, .undef, .undef, .undef, .undef, .undef, .undef, .undef, .undef, .undef, .undef, .undef, .undef, .undef, .undef, .undef, .undef, .undef, .undef, .undef, .undef, .undef, .undef]) A.length ?_ ?_ (Nat.zero_le _) ⟨rfl, hT, by simp -implicitDefEqProofs only [go_sem, ↓reduceIte, reduceCtorEq, Int.reduceLT, Int.reduceLE, Int.reduceToNat, Nat.reduceAdd, Nat.reduceMul, Nat.reduceLeDiff, Nat.reduceLT, Nat.reduceSub, Int.reduceNeg, Int.reduceEq, Int.reduceBEq, Int.reduceBNe, Nat.reduceEqDiff]⟩
  · rintro i env h' hi ⟨rfl, hI, rfl⟩
    obtain ⟨a, ha⟩ := get_some hi
    have hga := get_map (F := fJ) ha
    simp only [fJ] at hga
    have hi' : (i : Int) < (A.length : Int) := by omega
    have hw := wrap_succ (i := i) (by omega)
    rw [dropJ ha] at hI
    rcases Nat.lt_or_ge i B.length with hb | hb
    · obtain ⟨b, hb'⟩ := get_some hb
      have hgb := get_map (F := fJ) hb'
      simp only [fJ] at hgb
      have hc := cmp_spec a b
      have hge : ¬ (B.length : Int) ≤ (i : Int) := by omega
      rw [dropJ hb'] at hI
      simp only [cmpI] at hI
      by_cases h1 : a < b
      · simp only [h1, if_true] at hI hc
        subst hI
        simp -implicitDefEqProofs only [slices_Compare_intint_b0, go_sem, ↓reduceIte, reduceCtorEq, Int.reduceLT, Int.reduceLE, Int.reduceToNat, Nat.reduceAdd, Nat.reduceMul, Nat.reduceLeDiff, Nat.reduceLT, Nat.reduceSub, Int.reduceNeg, Int.reduceEq, Int.reduceBEq, Int.reduceBNe, Nat.reduceEqDiff, hi', hga, hgb, hge, hc]
        exact hP1
      · by_cases h2 : b < a
        · simp only [h1, h2, if_true, if_false] at hI hc
          subst hI
          simp -implicitDefEqProofs only [slices_Compare_intint_b0, go_sem, ↓reduceIte, reduceCtorEq, Int.reduceLT, Int.reduceLE, Int.reduceToNat, Nat.reduceAdd, Nat.reduceMul, Nat.reduceLeDiff, Nat.reduceLT, Nat.reduceSub, Int.reduceNeg, Int.reduceEq, Int.reduceBEq, Int.reduceBNe, Nat.reduceEqDiff, hi', hga, hgb, hge, hc]
          exact hP1
        · simp only [h1, h2, if_false] at hI hc
          simp -implicitDefEqProofs only [slices_Compare_intint_b0, go_sem, ↓reduceIte, reduceCtorEq, Int.reduceLT, Int.reduceLE, Int.reduceToNat, Nat.reduceAdd, Nat.reduceMul, Nat.reduceLeDiff, Nat.reduceLT, Nat.reduceSub, Int.reduceNeg, Int.reduceEq, Int.reduceBEq, Int.reduceBNe, Nat.reduceEqDiff, hi', hga, hgb, hge, hc, hw]
          exact hI
    · have hge : (B.length : Int) ≤ (i : Int) := by omega
      rw [List.drop_eq_nil_of_le hb] at hI
      simp only [cmpI] at hI
      subst hI
      simp -implicitDefEqProofs only [slices_Compare_intint_b0, go_sem, ↓reduceIte, reduceCtorEq, Int.reduceLT, Int.reduceLE, Int.reduceToNat, Nat.reduceAdd, Nat.reduceMul, Nat.reduceLeDiff, Nat.reduceLT, Nat.reduceSub, Int.reduceNeg, Int.reduceEq, Int.reduceBEq, Int.reduceBNe, Nat.reduceEqDiff, hi', hga, hge]
      exact hP1
  · rintro env h' ⟨rfl, hI, rfl⟩
    rw [List.drop_eq_nil_of_le (Nat.le_refl _)] at hI
    by_cases h1 : (A.length : Int) < (B.length : Int)
    · have : ∃ b t, B.drop A.length = b :: t := by
        obtain ⟨b, hb⟩ := get_some (show A.length < B.length by omega)
        exact ⟨_, _, dropJ hb⟩
      obtain ⟨b, t, hbt⟩ := this
      rw [hbt] at hI
      simp only [cmpI] at hI
      subst hI
      simp -implicitDefEqProofs only [slices_Compare_intint_b0, go_sem, ↓reduceIte, reduceCtorEq, Int.reduceLT, Int.reduceLE, Int.reduceToNat, Nat.reduceAdd, Nat.reduceMul, Nat.reduceLeDiff, Nat.reduceLT, Nat.reduceSub, Int.reduceNeg, Int.reduceEq, Int.reduceBEq, Int.reduceBNe, Nat.reduceEqDiff, Int.lt_irrefl, h1]
      exact hP1
    · rw [List.drop_eq_nil_of_le (by omega)] at hI
      simp only [cmpI] at hI
      subst hI
      simp -implicitDefEqProofs only [slices_Compare_intint_b0, go_sem, ↓reduceIte, reduceCtorEq, Int.reduceLT, Int.reduceLE, Int.reduceToNat, Nat.reduceAdd, Nat.reduceMul, Nat.reduceLeDiff, Nat.reduceLT, Nat.reduceSub, Int.reduceNeg, Int.reduceEq, Int.reduceBEq, Int.reduceBNe, Nat.reduceEqDiff, Int.lt_irrefl, h1]
      exact hP1
theorem factCompare_spec (a b c a' b' c' : Int) (lo : Nat) (h : VHeap) : callVL vp lo n_fact_Compare [.agg [.int .i64 a, .int .i64 b, .int .i64 c], .agg [.int .i64 a', .int .i64 b', .int .i64 c']] h = some (.int .i64 (cmpI [a, b, c] [a', b', c']), h) := by
  refine call_valE (fn := fact_Compare_v) rfl rfl rfl rfl rfl ?_ lo h
  have hS := sCompare_spec [a, b, c] [a', b', c'] (by simp)
  simp only [List.map_cons, List.map_nil, fJ] at hS
  simp -implicitDefEqProofs only [go_sem, ↓reduceIte, reduceCtorEq, Int.reduceLT, Int.reduceLE, Int.reduceToNat, Nat.reduceAdd, Nat.reduceMul, Nat.reduceLeDiff, Nat.reduceLT, Nat.reduceSub, Int.reduceNeg, Int.reduceEq, Int.reduceBEq, Int.reduceBNe, Nat.reduceEqDiff, hS]
theorem actCompare_spec (a b c d e a' b' c' d' e' : Int) (lo : Nat) (h : VHeap) : callVL vp lo n_act_Compare [.agg [.int .i64 a, .int .i64 b, .int .i64 c, .int .i64 d, .int .i64 e], .agg [.int .i64 a', .int .i64 b', .int .i64 c', .int .i64 d', .int .i64 e']] h = some (.int .i64 (cmpI [a, b, c, d, e] [a', b', c', d', e']), h) := by
  refine call_valE (fn := act_Compare_v) rfl rfl rfl rfl rfl ?_ lo h
  have hS := sCompare_spec [a, b, c, d, e] [a', b', c', d', e'] (by simp)
  simp only [List.map_cons, List.map_nil, fJ] at hS
  simp -implicitDefEqProofs only [go_sem, ↓reduceIte, reduceCtorEq, Int.reduceLT, Int.reduceLE, Int.reduceToNat, Nat.reduceAdd, Nat.reduceMul, Nat.reduceLeDiff, Nat.reduceLT, Nat.reduceSub, Int.reduceNeg, Int.reduceEq, Int.reduceBEq, Int.reduceBNe, Nat.reduceEqDiff, hS]
end Vg.G3c
