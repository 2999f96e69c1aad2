import Derived.Test.YtpoofafddbcnpaaVDA
import Derived.Test.YtpoofafddbcnpaaVD4
namespace Vg.G3
open Go Lg
set_option linter.unusedSimpArgs false
set_option linter.unusedVariables false
set_option maxRecDepth 10000
set_option maxHeartbeats 2000000
attribute [local congr] bind_congr1
attribute [local go_sem] ite_self cloneA cloneC Nat.zero_le mm_max mm_min codeVL_loop keepV_from keepFrom List.contains_cons List.contains_nil codeVL_skip codeVL_exit codeVL_ret codeVL_ops codeVL_dops codeVL_seq codeVL_cond codeVL_block opsV_nil opsV_d opsV_n opsV_g vs_c vs_t nrm nrmL eqE eqL List.replicate List.cons_append List.nil_append List.append_nil List.getD_cons_zero List.getD_cons_succ List.getD_nil List.set_cons_zero List.set_cons_succ Option.bind_some Option.bind_none Option.bind_assoc thenV_norm thenV_exit thenV_ret blockV_norm blockV_exit blockV_ret endV_norm endV_ret backV fz_list fz_int fz_bool fz_str fz_tup fz_agg mapM_cons' mapM_nil' fzN_tup fzN_agg fzN_list fzN_int fzN_bool fzN_str fzN_cptr fzN_nilptr ressV resV oneV ite_bind if_true if_false decide_eq_true_eq Bool.false_eq_true Bool.not_true Bool.not_false Bool.and_true Bool.and_false Bool.true_and Bool.false_and List.all_cons List.all_nil List.length_cons List.length_nil List.map_cons List.map_nil fillV vsplice List.take_succ_cons List.take_zero List.drop_succ_cons List.drop_zero List.drop_nil List.take_nil beq_self_eq_true vbnds Int.toNat_zero Int.toNat_one Nat.zero_add Nat.add_zero Nat.mul_one Nat.one_mul Nat.mul_zero Nat.zero_mul List.getElem?_cons_zero List.getElem?_cons_succ List.getElem?_nil List.getElem?_map Option.map_some Option.map_none List.length_map decide_true decide_false Bool.or_true Bool.or_false Bool.true_or Bool.false_or not_true_eq_false not_false_eq_true true_and and_true false_and and_false true_or or_true false_or or_false ne_eq beq_true Bool.true_beq Bool.false_beq int_beq int_bne nat_beq bool_beq_true bool_beq_false ite_boolV cast_zero cast_one Bool.not_eq_true' Bool.not_eq_false' decide_eq_false_iff_not gt_iff_lt ge_iff_le Nat.le_refl Nat.lt_irrefl Nat.add_sub_cancel Nat.sub_zero Int.toNat_natCast Int.natCast_nonneg Int.cast_ofNat_Int lowL VV.low trim chunk appendV rowsOf Sat_some take_map_len take_len take_set_len succ_ne_zero succ_pos' List.length_set opV_mvF opV_mvT opV_mvs opV_pick opV_alloc opV_box opV_build opV_bslice opV_load opV_store opV_nilchk opV_bin opV_eqv opV_un opV_conv opV_b2s opV_s2b opV_slc opV_fieldAddr opV_field opV_indexAddr opV_indexAddrA opV_index opV_indexA opV_extract opV_lenS opV_lenL opV_lenM opV_lenC opV_min2 opV_max2 opV_append opV_copy opV_make opV_mkmap opV_lookup opV_update opV_mkfunc opV_call opV_callv opV_ext opV_rewr opV_concat opV_capL extE_index1 extE_count1 extE_join argV_str argV_int argV_bool argV_list Option.isNone_none Option.isNone_some opV_stuck strip_mvF strip_mvT strip_mvC strip_mvs strip_pick strip_alloc strip_box strip_build strip_bslice strip_load strip_storeT strip_storeC strip_nilchk strip_bin strip_eqv strip_un strip_conv strip_b2s strip_s2b strip_slc strip_fieldAddr strip_field strip_indexAddr strip_indexAddrA strip_index strip_indexA strip_extract strip_lenS strip_lenL strip_lenM strip_lenC strip_min2 strip_max2 strip_appendT strip_appendC strip_copy strip_make strip_mkmap strip_lookup strip_update strip_mkfunc strip_call strip_callv strip_ext strip_rewr strip_concat strip_capL strip_stuck vr_t vr_c cmpX_t cmpX_c putV_s putV_n ofLV_int ofLV_bool ofLV_str ofLV_nilslice ofLV_nilptr ofLV_nilfunc ofLV_nilmap ofLV_nilif ofLV_agg ofLV_tup ofLV_func ofLVs_nil ofLVs_cons binE_add binE_sub binE_mul binE_eql binE_neq binE_lss binE_leq binE_gtr binE_geq binE_quo binE_rem binE_seql binE_sneq unE_not unE_neg sh_undef ow_undef cells_undef single_undef stV_undef sh_bool ow_bool cells_bool single_bool sc_bool stV_bool cmpV_bool sh_int ow_int cells_int single_int sc_int stV_int cmpV_int sh_str ow_str cells_str single_str sc_str stV_str cmpV_str sh_ptr ow_ptr cells_ptr single_ptr stV_ptr cmpV_ptr sh_cptr ow_cptr cells_cptr single_cptr stV_cptr cmpV_cptr sh_nilptr ow_nilptr cells_nilptr single_nilptr stV_nilptr cmpV_nilptr sh_lists ow_lists cells_lists single_lists stV_lists sh_listf ow_listf cells_listf single_listf stV_listf sh_listo ow_listo cells_listo single_listo stV_listo sh_hs ow_hs cells_hs single_hs stV_hs sh_map ow_map cells_map single_map stV_map cmpV_map sh_nilmap ow_nilmap cells_nilmap single_nilmap stV_nilmap cmpV_nilmap sh_func ow_func cells_func single_func stV_func cmpV_func sh_nilfunc ow_nilfunc cells_nilfunc single_nilfunc stV_nilfunc cmpV_nilfunc sh_iface ow_iface cells_iface single_iface stV_iface cmpV_iface sh_nilif ow_nilif cells_nilif single_nilif stV_nilif cmpV_nilif sh_agg ow_agg cells_agg single_agg stV_agg cmpV_agg sh_tup ow_tup cells_tup single_tup stV_tup cmpV_cons guardV_bool guardV_tup nat_int slices_Concat_gantryfactFact_f slices_Concat_gantryfactFact_v fact_Join_r0 fact_Join_r1 fact_Join_f fact_Join_v fact_Meet_r0 fact_Meet_r1 fact_Meet_r2 fact_Meet_r3 fact_Meet_r4 fact_Meet_r5 fact_Meet_r6 fact_Meet_r7 fact_Meet_r8 fact_Meet_f fact_Meet_v fact_Minus_r0 fact_Minus_r1 fact_Minus_r2 fact_Minus_r3 fact_Minus_r4 fact_Minus_r5 fact_Minus_r6 fact_Minus_r7 fact_Minus_r8 fact_Minus_f fact_Minus_v gantkeep4_facted_r0 gantkeep4_facted_r1 gantkeep4_facted_f gantkeep4_facted_v

theorem Join_spec (a b : List Fa) (hl : a.length + b.length ≤ 1000) (lo : Nat) (h : VHeap) : callVL vp lo n_fact_Join [.list .s (a.map fF), .list .s (b.map fF)] h = some (.list .s ((ofF (a ++ b)).map fF), h) := by
  refine call_valE (fn := fact_Join_v) rfl rfl rfl rfl rfl ?_ lo h
  have hO := Of_spec (a ++ b) (by rw [List.length_append]; exact hl) 0
  have hr : (a.length + b.length + 512) * 24 ≤ 140737488355328 := Nat.le_trans (Nat.mul_le_mul_right 24 (show a.length + b.length + 512 ≤ 2000 by omega)) (by decide)
  have ha := all_len fF_len a
  have hb := all_len fF_len b
  have hC : ∀ h, callVL vp 0 n_slices_Concat_gantryfactFact [.list .s [[.list .s (a.map fF)], [.list .s (b.map fF)]]] h = some (.list .s ((a ++ b).map fF), h) := by
    intro h
    refine call_valE (fn := slices_Concat_gantryfactFact_v) rfl rfl rfl rfl rfl ?_ 0 h
    simp -implicitDefEqProofs only [go_sem, ↓reduceIte, reduceCtorEq, Int.reduceLT, Int.reduceLE, Int.reduceToNat, Nat.reduceAdd, Nat.reduceMul, Nat.reduceLeDiff, Nat.reduceLT, Nat.reduceSub, Int.reduceNeg, Int.reduceEq, Int.reduceBEq, Int.reduceBNe, Nat.reduceEqDiff, G3d.concatF, ha, hb, hr, List.map_append]
  simp -implicitDefEqProofs only [go_sem, ↓reduceIte, reduceCtorEq, Int.reduceLT, Int.reduceLE, Int.reduceToNat, Nat.reduceAdd, Nat.reduceMul, Nat.reduceLeDiff, Nat.reduceLT, Nat.reduceSub, Int.reduceNeg, Int.reduceEq, Int.reduceBEq, Int.reduceBNe, Nat.reduceEqDiff, hC, hO]

theorem filter_snoc' {p : Fa → Bool} {l : List Fa} {i : Nat} {x : Fa} (h : l[i]? = some x) : (l.take (i + 1)).filter p = (l.take i).filter p ++ (if p x = true then [x] else []) := by
  rw [take_succ_map h, List.filter_append]
  congr 1
  by_cases hv : p x = true <;> simp [hv]
theorem Meet_spec (a b : List Fa) (ha : a.length ≤ 1000) (hb : b.length ≤ 1000) (lo : Nat) (h : VHeap) : callVL vp lo n_fact_Meet [.list .s (a.map fF), .list .s (b.map fF)] h = some (.list .s ((ofF (a.filter fun f => decide (f ∈ b))).map fF), h) := by
  refine call_valE (fn := fact_Meet_v) rfl rfl rfl rfl rfl ?_ lo h
  generalize hT : (ofF (a.filter fun f => decide (f ∈ b))).map fF = T
  obtain ⟨P, hP⟩ : ∃ P : VV → Prop, P = fun w : VV => w = .list .s T := ⟨_, rfl⟩
  have hP1 : P (.list .s T) := by subst hP; rfl
  have hP2 : (fun r : VV × VHeap => r.1 = .list .s T) = fun r => P r.1 := by subst hP; rfl
  rw [hP2]
  clear hP hP2
  simp -implicitDefEqProofs only [go_sem, ↓reduceIte, reduceCtorEq, Int.reduceLT, Int.reduceLE, Int.reduceToNat, Nat.reduceAdd, Nat.reduceMul, Nat.reduceLeDiff, Nat.reduceLT, Nat.reduceSub, Int.reduceNeg, Int.reduceEq, Int.reduceBEq, Int.reduceBNe, Nat.reduceEqDiff]
  rw [Sat_bind]
  refine loop_up (I := fun i env h => h = [] ∧ env = [.undef, .list .s (b.map fF), .undef, .undef, .undef, .list .o (((a.take i).filter fun f => decide (f ∈ b)).map fF), .undef, .undef, .list .s (a.map fF), .int .i64 ((a.length : Nat) : Int), .int .i64 ((i : Nat) : Int), .undef, .undef, .undef, .undef, .undef, .undef, .undef, .undef, .undef, .undef, .undef, .undef, .undef]) a.length ?_ ?_ (Nat.zero_le _) ⟨rfl, by simp -implicitDefEqProofs only [go_sem, ↓reduceIte, reduceCtorEq, Int.reduceLT, Int.reduceLE, Int.reduceToNat, Nat.reduceAdd, Nat.reduceMul, Nat.reduceLeDiff, Nat.reduceLT, Nat.reduceSub, Int.reduceNeg, Int.reduceEq, Int.reduceBEq, Int.reduceBNe, Nat.reduceEqDiff, List.filter_nil]⟩
  · rintro i env h hi ⟨rfl, rfl⟩
    obtain ⟨x, hx⟩ := get_some hi
    have hg := get_map (F := fF) hx
    have hi' : (i : Int) < (a.length : Int) := by omega
    have hw := wrap_succ (i := i) (by omega)
    have hH := Has_spec b x (by omega)
    have hfs := filter_snoc' (p := fun f => decide (f ∈ b)) hx
    have hlen : ((a.take i).filter fun f => decide (f ∈ b)).length ≤ 1000 := by
      refine Nat.le_trans (List.length_filter_le _ _) ?_
      rw [List.length_take]; omega
    have hal := all_len fF_len ((a.take i).filter fun f => decide (f ∈ b))
    have hr := small_room (n := ((a.take i).filter fun f => decide (f ∈ b)).length) (m := 1) (b := 24) (by omega) (by omega) (by omega)
    simp only [fF] at hg hH
    rw [hfs]
    generalize ((a.take i).filter fun f => decide (f ∈ b)) = acc at *
    by_cases hv : x ∈ b
    · simp -implicitDefEqProofs only [fact_Meet_b0, go_sem, ↓reduceIte, reduceCtorEq, Int.reduceLT, Int.reduceLE, Int.reduceToNat, Nat.reduceAdd, Nat.reduceMul, Nat.reduceLeDiff, Nat.reduceLT, Nat.reduceSub, Int.reduceNeg, Int.reduceEq, Int.reduceBEq, Int.reduceBNe, Nat.reduceEqDiff, hi', hg, hH, hv, hw, hal, hr, List.map_append, fF]
    · simp -implicitDefEqProofs only [fact_Meet_b0, go_sem, ↓reduceIte, reduceCtorEq, Int.reduceLT, Int.reduceLE, Int.reduceToNat, Nat.reduceAdd, Nat.reduceMul, Nat.reduceLeDiff, Nat.reduceLT, Nat.reduceSub, Int.reduceNeg, Int.reduceEq, Int.reduceBEq, Int.reduceBNe, Nat.reduceEqDiff, hi', hg, hH, hv, hw, hal, hr, List.map_append, fF]
  · rintro env h ⟨rfl, rfl⟩
    have hO := Of_spec (a.filter fun f => decide (f ∈ b)) (Nat.le_trans (List.length_filter_le _ _) ha) 0
    rw [hT] at hO
    rw [List.take_length]
    simp -implicitDefEqProofs only [fact_Meet_b0, go_sem, ↓reduceIte, reduceCtorEq, Int.reduceLT, Int.reduceLE, Int.reduceToNat, Nat.reduceAdd, Nat.reduceMul, Nat.reduceLeDiff, Nat.reduceLT, Nat.reduceSub, Int.reduceNeg, Int.reduceEq, Int.reduceBEq, Int.reduceBNe, Nat.reduceEqDiff, Int.lt_irrefl, hO]
    exact hP1
theorem Minus_spec (a b : List Fa) (ha : a.length ≤ 1000) (hb : b.length ≤ 1000) (lo : Nat) (h : VHeap) : callVL vp lo n_fact_Minus [.list .s (a.map fF), .list .s (b.map fF)] h = some (.list .s ((ofF (a.filter fun f => !decide (f ∈ b))).map fF), h) := by
  refine call_valE (fn := fact_Minus_v) rfl rfl rfl rfl rfl ?_ lo h
  generalize hT : (ofF (a.filter fun f => !decide (f ∈ b))).map fF = T
  obtain ⟨P, hP⟩ : ∃ P : VV → Prop, P = fun w : VV => w = .list .s T := ⟨_, rfl⟩
  have hP1 : P (.list .s T) := by subst hP; rfl
  have hP2 : (fun r : VV × VHeap => r.1 = .list .s T) = fun r => P r.1 := by subst hP; rfl
  rw [hP2]
  clear hP hP2
  simp -implicitDefEqProofs only [go_sem, ↓reduceIte, reduceCtorEq, Int.reduceLT, Int.reduceLE, Int.reduceToNat, Nat.reduceAdd, Nat.reduceMul, Nat.reduceLeDiff, Nat.reduceLT, Nat.reduceSub, Int.reduceNeg, Int.reduceEq, Int.reduceBEq, Int.reduceBNe, Nat.reduceEqDiff]
  rw [Sat_bind]
  refine loop_up (I := fun i env h => h = [] ∧ env = [.undef, .list .s (b.map fF), .undef, .undef, .undef, .list .o (((a.take i).filter fun f => !decide (f ∈ b)).map fF), .undef, .undef, .list .s (a.map fF), .int .i64 ((a.length : Nat) : Int), .int .i64 ((i : Nat) : Int), .undef, .undef, .undef, .undef, .undef, .undef, .undef, .undef, .undef, .undef, .undef, .undef, .undef, .undef]) a.length ?_ ?_ (Nat.zero_le _) ⟨rfl, by simp -implicitDefEqProofs only [go_sem, ↓reduceIte, reduceCtorEq, Int.reduceLT, Int.reduceLE, Int.reduceToNat, Nat.reduceAdd, Nat.reduceMul, Nat.reduceLeDiff, Nat.reduceLT, Nat.reduceSub, Int.reduceNeg, Int.reduceEq, Int.reduceBEq, Int.reduceBNe, Nat.reduceEqDiff, List.filter_nil]⟩
  · rintro i env h hi ⟨rfl, rfl⟩
    obtain ⟨x, hx⟩ := get_some hi
    have hg := get_map (F := fF) hx
    have hi' : (i : Int) < (a.length : Int) := by omega
    have hw := wrap_succ (i := i) (by omega)
    have hH := Has_spec b x (by omega)
    have hfs := filter_snoc' (p := fun f => !decide (f ∈ b)) hx
    have hlen : ((a.take i).filter fun f => !decide (f ∈ b)).length ≤ 1000 := by
      refine Nat.le_trans (List.length_filter_le _ _) ?_
      rw [List.length_take]; omega
    have hal := all_len fF_len ((a.take i).filter fun f => !decide (f ∈ b))
    have hr := small_room (n := ((a.take i).filter fun f => !decide (f ∈ b)).length) (m := 1) (b := 24) (by omega) (by omega) (by omega)
    simp only [fF] at hg hH
    rw [hfs]
    generalize ((a.take i).filter fun f => !decide (f ∈ b)) = acc at *
    by_cases hv : x ∈ b
    · simp -implicitDefEqProofs only [fact_Minus_b0, go_sem, ↓reduceIte, reduceCtorEq, Int.reduceLT, Int.reduceLE, Int.reduceToNat, Nat.reduceAdd, Nat.reduceMul, Nat.reduceLeDiff, Nat.reduceLT, Nat.reduceSub, Int.reduceNeg, Int.reduceEq, Int.reduceBEq, Int.reduceBNe, Nat.reduceEqDiff, hi', hg, hH, hv, hw, hal, hr, List.map_append, fF]
    · simp -implicitDefEqProofs only [fact_Minus_b0, go_sem, ↓reduceIte, reduceCtorEq, Int.reduceLT, Int.reduceLE, Int.reduceToNat, Nat.reduceAdd, Nat.reduceMul, Nat.reduceLeDiff, Nat.reduceLT, Nat.reduceSub, Int.reduceNeg, Int.reduceEq, Int.reduceBEq, Int.reduceBNe, Nat.reduceEqDiff, hi', hg, hH, hv, hw, hal, hr, List.map_append, fF]
  · rintro env h ⟨rfl, rfl⟩
    have hO := Of_spec (a.filter fun f => !decide (f ∈ b)) (Nat.le_trans (List.length_filter_le _ _) ha) 0
    rw [hT] at hO
    rw [List.take_length]
    simp -implicitDefEqProofs only [fact_Minus_b0, go_sem, ↓reduceIte, reduceCtorEq, Int.reduceLT, Int.reduceLE, Int.reduceToNat, Nat.reduceAdd, Nat.reduceMul, Nat.reduceLeDiff, Nat.reduceLT, Nat.reduceSub, Int.reduceNeg, Int.reduceEq, Int.reduceBEq, Int.reduceBNe, Nat.reduceEqDiff, Int.lt_irrefl, hO]
    exact hP1
theorem facted_spec (lo : Nat) (h : VHeap) : callVL vp lo n_gantkeep4_facted [] h = some (.bool true, h) := by
  refine call_valE (fn := gantkeep4_facted_v) rfl rfl rfl rfl rfl ?_ lo h
  have h1 := Clash_spec ⟨3, 0, 0⟩ ⟨2, 0, 1⟩
  have h2 := Has_spec [⟨5, 0, 0⟩] ⟨5, 0, 0⟩ (by decide)
  have e1 : clashF ⟨3, 0, 0⟩ ⟨2, 0, 1⟩ = true := by kernel_rfl
  rw [e1] at h1
  have e2 : decide ((⟨5, 0, 0⟩ : Fa) ∈ [(⟨5, 0, 0⟩ : Fa)]) = true := by simp
  rw [e2] at h2
  simp only [fF, List.map_cons, List.map_nil] at h1 h2
  simp -implicitDefEqProofs only [go_sem, ↓reduceIte, reduceCtorEq, Int.reduceLT, Int.reduceLE, Int.reduceToNat, Nat.reduceAdd, Nat.reduceMul, Nat.reduceLeDiff, Nat.reduceLT, Nat.reduceSub, Int.reduceNeg, Int.reduceEq, Int.reduceBEq, Int.reduceBNe, Nat.reduceEqDiff, h1, h2]
end Vg.G3
