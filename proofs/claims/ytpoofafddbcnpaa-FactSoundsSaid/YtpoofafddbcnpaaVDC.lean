import Derived.Test.YtpoofafddbcnpaaVDB
namespace Vg.G3
open Go Lg
set_option linter.unusedSimpArgs false
set_option linter.unusedVariables false
set_option maxRecDepth 10000
set_option maxHeartbeats 2000000
attribute [local congr] bind_congr1
attribute [local go_sem] ite_self cloneA cloneC Nat.zero_le mm_max mm_min codeVL_loop keepV_from keepFrom List.contains_cons List.contains_nil codeVL_skip codeVL_exit codeVL_ret codeVL_ops codeVL_dops codeVL_seq codeVL_cond codeVL_block opsV_nil opsV_d opsV_n opsV_g vs_c vs_t nrm nrmL eqE eqL List.replicate List.cons_append List.nil_append List.append_nil List.getD_cons_zero List.getD_cons_succ List.getD_nil List.set_cons_zero List.set_cons_succ Option.bind_some Option.bind_none Option.bind_assoc thenV_norm thenV_exit thenV_ret blockV_norm blockV_exit blockV_ret endV_norm endV_ret backV fz_list fz_int fz_bool fz_str fz_tup fz_agg mapM_cons' mapM_nil' fzN_tup fzN_agg fzN_list fzN_int fzN_bool fzN_str fzN_cptr fzN_nilptr ressV resV oneV ite_bind if_true if_false decide_eq_true_eq Bool.false_eq_true Bool.not_true Bool.not_false Bool.and_true Bool.and_false Bool.true_and Bool.false_and List.all_cons List.all_nil List.length_cons List.length_nil List.map_cons List.map_nil fillV vsplice List.take_succ_cons List.take_zero List.drop_succ_cons List.drop_zero List.drop_nil List.take_nil beq_self_eq_true vbnds Int.toNat_zero Int.toNat_one Nat.zero_add Nat.add_zero Nat.mul_one Nat.one_mul Nat.mul_zero Nat.zero_mul List.getElem?_cons_zero List.getElem?_cons_succ List.getElem?_nil List.getElem?_map Option.map_some Option.map_none List.length_map decide_true decide_false Bool.or_true Bool.or_false Bool.true_or Bool.false_or not_true_eq_false not_false_eq_true true_and and_true false_and and_false true_or or_true false_or or_false ne_eq beq_true Bool.true_beq Bool.false_beq int_beq int_bne nat_beq bool_beq_true bool_beq_false ite_boolV cast_zero cast_one Bool.not_eq_true' Bool.not_eq_false' decide_eq_false_iff_not gt_iff_lt ge_iff_le Nat.le_refl Nat.lt_irrefl Nat.add_sub_cancel Nat.sub_zero Int.toNat_natCast Int.natCast_nonneg Int.cast_ofNat_Int lowL VV.low trim chunk appendV rowsOf Sat_some take_map_len take_len take_set_len succ_ne_zero succ_pos' List.length_set opV_mvF opV_mvT opV_mvs opV_pick opV_alloc opV_box opV_build opV_bslice opV_load opV_store opV_nilchk opV_bin opV_eqv opV_un opV_conv opV_b2s opV_s2b opV_slc opV_fieldAddr opV_field opV_indexAddr opV_indexAddrA opV_index opV_indexA opV_extract opV_lenS opV_lenL opV_lenM opV_lenC opV_min2 opV_max2 opV_append opV_copy opV_make opV_mkmap opV_lookup opV_update opV_mkfunc opV_call opV_callv opV_ext opV_rewr opV_concat opV_capL extE_index1 extE_count1 extE_join argV_str argV_int argV_bool argV_list Option.isNone_none Option.isNone_some opV_stuck strip_mvF strip_mvT strip_mvC strip_mvs strip_pick strip_alloc strip_box strip_build strip_bslice strip_load strip_storeT strip_storeC strip_nilchk strip_bin strip_eqv strip_un strip_conv strip_b2s strip_s2b strip_slc strip_fieldAddr strip_field strip_indexAddr strip_indexAddrA strip_index strip_indexA strip_extract strip_lenS strip_lenL strip_lenM strip_lenC strip_min2 strip_max2 strip_appendT strip_appendC strip_copy strip_make strip_mkmap strip_lookup strip_update strip_mkfunc strip_call strip_callv strip_ext strip_rewr strip_concat strip_capL strip_stuck vr_t vr_c cmpX_t cmpX_c putV_s putV_n ofLV_int ofLV_bool ofLV_str ofLV_nilslice ofLV_nilptr ofLV_nilfunc ofLV_nilmap ofLV_nilif ofLV_agg ofLV_tup ofLV_func ofLVs_nil ofLVs_cons binE_add binE_sub binE_mul binE_eql binE_neq binE_lss binE_leq binE_gtr binE_geq binE_quo binE_rem binE_seql binE_sneq unE_not unE_neg sh_undef ow_undef cells_undef single_undef stV_undef sh_bool ow_bool cells_bool single_bool sc_bool stV_bool cmpV_bool sh_int ow_int cells_int single_int sc_int stV_int cmpV_int sh_str ow_str cells_str single_str sc_str stV_str cmpV_str sh_ptr ow_ptr cells_ptr single_ptr stV_ptr cmpV_ptr sh_cptr ow_cptr cells_cptr single_cptr stV_cptr cmpV_cptr sh_nilptr ow_nilptr cells_nilptr single_nilptr stV_nilptr cmpV_nilptr sh_lists ow_lists cells_lists single_lists stV_lists sh_listf ow_listf cells_listf single_listf stV_listf sh_listo ow_listo cells_listo single_listo stV_listo sh_hs ow_hs cells_hs single_hs stV_hs sh_map ow_map cells_map single_map stV_map cmpV_map sh_nilmap ow_nilmap cells_nilmap single_nilmap stV_nilmap cmpV_nilmap sh_func ow_func cells_func single_func stV_func cmpV_func sh_nilfunc ow_nilfunc cells_nilfunc single_nilfunc stV_nilfunc cmpV_nilfunc sh_iface ow_iface cells_iface single_iface stV_iface cmpV_iface sh_nilif ow_nilif cells_nilif single_nilif stV_nilif cmpV_nilif sh_agg ow_agg cells_agg single_agg stV_agg cmpV_agg sh_tup ow_tup cells_tup single_tup stV_tup cmpV_cons guardV_bool guardV_tup nat_int gantkeep4_FactSounds_r0 gantkeep4_FactSounds_r1 gantkeep4_FactSounds_r2 gantkeep4_FactSounds_r3 gantkeep4_FactSounds_r4 gantkeep4_FactSounds_r5 gantkeep4_FactSounds_r6 gantkeep4_FactSounds_r7 gantkeep4_FactSounds_r8 gantkeep4_FactSounds_r9 gantkeep4_FactSounds_r10 gantkeep4_FactSounds_r10_d gantkeep4_FactSounds_r11 gantkeep4_FactSounds_r12 gantkeep4_FactSounds_r13 gantkeep4_FactSounds_r14 gantkeep4_FactSounds_r15 gantkeep4_FactSounds_r16 gantkeep4_FactSounds_f gantkeep4_FactSounds_v

theorem sound_sub {X Y : List Fa} (h : ∀ x ∈ X, x ∈ Y) (hY : soundF Y = true) : soundF X = true := by
  rw [soundF_iff] at hY ⊢
  exact fun f hf g hg => hY f (h f hf) g (h g hg)
theorem FS_in {i : Nat} {f : Fa} {A B : List Fa} (hl : B.length ≤ 1000) (Q : Out × VEnv × VHeap → Prop)
    (h1 : Q (.exit 2, (VV.undef :: VV.undef :: VV.undef :: VV.undef :: VV.undef :: (.list .s (A.map fF) : VV) :: (.list .s (B.map fF) : VV) :: VV.undef :: (.ptr 0 0 : VV) :: VV.undef :: VV.undef :: VV.undef :: VV.undef :: VV.undef :: VV.undef :: VV.undef :: VV.undef :: (.list .s (A.map fF) : VV) :: (.int .i64 ((A.length : Nat) : Int) : VV) :: (.int .i64 ((i : Nat) : Int) : VV) :: VV.undef :: VV.undef :: VV.undef :: VV.undef :: VV.undef :: VV.undef :: (.list .s (B.map fF) : VV) :: (.int .i64 ((B.length : Nat) : Int) : VV) :: (.int .i64 ((B.length : Nat) : Int) : VV) :: (.bool false : VV) :: VV.undef :: VV.undef :: VV.undef :: VV.undef :: VV.undef :: VV.undef :: VV.undef :: VV.undef :: VV.undef :: VV.undef :: VV.undef :: VV.undef :: VV.undef :: VV.undef :: VV.undef :: VV.undef :: VV.undef :: VV.undef :: VV.undef :: VV.undef :: VV.undef :: VV.undef :: VV.undef :: VV.undef :: VV.undef :: VV.undef :: VV.undef :: VV.undef :: VV.undef :: VV.undef :: VV.undef :: VV.undef :: VV.undef :: VV.undef :: []), [.cells true [.int .i64 f.k, .int .i64 f.a, .int .i64 f.b]])) :
    Sat (loopV (callVL vp) 0 [5, 6, 8, 17, 18, 19, 26, 27, 28] gantkeep4_FactSounds_b1 (VV.undef :: VV.undef :: VV.undef :: VV.undef :: VV.undef :: (.list .s (A.map fF) : VV) :: (.list .s (B.map fF) : VV) :: VV.undef :: (.ptr 0 0 : VV) :: VV.undef :: VV.undef :: VV.undef :: VV.undef :: VV.undef :: VV.undef :: VV.undef :: VV.undef :: (.list .s (A.map fF) : VV) :: (.int .i64 ((A.length : Nat) : Int) : VV) :: (.int .i64 ((i : Nat) : Int) : VV) :: VV.undef :: VV.undef :: VV.undef :: VV.undef :: VV.undef :: VV.undef :: (.list .s (B.map fF) : VV) :: (.int .i64 ((B.length : Nat) : Int) : VV) :: (.int .i64 0 : VV) :: VV.undef :: VV.undef :: VV.undef :: VV.undef :: VV.undef :: VV.undef :: VV.undef :: VV.undef :: VV.undef :: VV.undef :: VV.undef :: VV.undef :: VV.undef :: VV.undef :: VV.undef :: VV.undef :: VV.undef :: VV.undef :: VV.undef :: VV.undef :: VV.undef :: VV.undef :: VV.undef :: VV.undef :: VV.undef :: VV.undef :: VV.undef :: VV.undef :: VV.undef :: VV.undef :: VV.undef :: VV.undef :: VV.undef :: VV.undef :: VV.undef :: []) [.cells true [.int .i64 f.k, .int .i64 f.a, .int .i64 f.b]]) Q := by
  refine loop_up (I := fun j env h => h = [.cells true [.int .i64 f.k, .int .i64 f.a, .int .i64 f.b]] ∧ env = (VV.undef :: VV.undef :: VV.undef :: VV.undef :: VV.undef :: (.list .s (A.map fF) : VV) :: (.list .s (B.map fF) : VV) :: VV.undef :: (.ptr 0 0 : VV) :: VV.undef :: VV.undef :: VV.undef :: VV.undef :: VV.undef :: VV.undef :: VV.undef :: VV.undef :: (.list .s (A.map fF) : VV) :: (.int .i64 ((A.length : Nat) : Int) : VV) :: (.int .i64 ((i : Nat) : Int) : VV) :: VV.undef :: VV.undef :: VV.undef :: VV.undef :: VV.undef :: VV.undef :: (.list .s (B.map fF) : VV) :: (.int .i64 ((B.length : Nat) : Int) : VV) :: (.int .i64 ((j : Nat) : Int) : VV) :: VV.undef :: VV.undef :: VV.undef :: VV.undef :: VV.undef :: VV.undef :: VV.undef :: VV.undef :: VV.undef :: VV.undef :: VV.undef :: VV.undef :: VV.undef :: VV.undef :: VV.undef :: VV.undef :: VV.undef :: VV.undef :: VV.undef :: VV.undef :: VV.undef :: VV.undef :: VV.undef :: VV.undef :: VV.undef :: VV.undef :: VV.undef :: VV.undef :: VV.undef :: VV.undef :: VV.undef :: VV.undef :: VV.undef :: VV.undef :: VV.undef :: [])) B.length ?_ ?_ (Nat.zero_le _) ⟨rfl, by simp -implicitDefEqProofs only [go_sem, ↓reduceIte, reduceCtorEq, Int.reduceLT, Int.reduceLE, Int.reduceToNat, Nat.reduceAdd, Nat.reduceMul, Nat.reduceLeDiff, Nat.reduceLT, Nat.reduceSub, Int.reduceNeg, Int.reduceEq, Int.reduceBEq, Int.reduceBNe, Nat.reduceEqDiff]⟩
  · rintro j env h hj ⟨rfl, rfl⟩
    obtain ⟨g, hg⟩ := get_some hj
    have hgj := get_map (F := fF) hg
    have hj' : (j : Int) < (B.length : Int) := by omega
    have hw := wrap_succ (i := j) (by omega)
    have hC := Clash_spec f g
    have hC' := Clash_spec g f
    have hs := clash_symm f g
    simp only [fF] at hgj hC hC'
    rw [← hs] at hC'
    cases hcl : clashF f g <;> simp -implicitDefEqProofs only [gantkeep4_FactSounds_b1, gantkeep4_FactSounds_b0, go_sem, ↓reduceIte, reduceCtorEq, Int.reduceLT, Int.reduceLE, Int.reduceToNat, Nat.reduceAdd, Nat.reduceMul, Nat.reduceLeDiff, Nat.reduceLT, Nat.reduceSub, Int.reduceNeg, Int.reduceEq, Int.reduceBEq, Int.reduceBNe, Nat.reduceEqDiff, hj', hgj, hC, hC', hcl, hw]
  · rintro env h ⟨rfl, rfl⟩
    simp -implicitDefEqProofs only [gantkeep4_FactSounds_b1, gantkeep4_FactSounds_b0, go_sem, ↓reduceIte, reduceCtorEq, Int.reduceLT, Int.reduceLE, Int.reduceToNat, Nat.reduceAdd, Nat.reduceMul, Nat.reduceLeDiff, Nat.reduceLT, Nat.reduceSub, Int.reduceNeg, Int.reduceEq, Int.reduceBEq, Int.reduceBNe, Nat.reduceEqDiff, Int.lt_irrefl]
    exact h1
theorem FactSounds_law (x y : List Int) : callVL vp 0 n_gantkeep4_FactSounds [.list .s (x.map fun x => [.int .i64 x]), .list .s (y.map fun x => [.int .i64 x])] [] = some (.bool true, []) := by
  refine call_valE (fn := gantkeep4_FactSounds_v) rfl rfl rfl rfl rfl ?_ 0 []
  obtain ⟨la, hla, hFa⟩ := Facts_spec x
  obtain ⟨lb, hlb, hFb⟩ := Facts_spec y
  have hOa := Of_spec la (by omega)
  have hOb := Of_spec lb (by omega)
  have hAl := of_len la
  have hBl := of_len lb
  have hAv : ∀ x ∈ ofF la, validF x = true := fun x hx => ((of_mem x la).1 hx).2
  have hBv : ∀ x ∈ ofF lb, validF x = true := fun x hx => ((of_mem x lb).1 hx).2
  generalize ofF la = A at *
  generalize ofF lb = B at *
  have hJ := Join_spec A B (by omega)
  have hM := Meet_spec A B (by omega) (by omega)
  have hN := Minus_spec B A (by omega) (by omega)
  have len1 := of_len (A ++ B)
  have len2 := Nat.le_trans (of_len (A.filter fun f => decide (f ∈ B))) (List.length_filter_le _ _)
  have len3 := Nat.le_trans (of_len (B.filter fun f => !decide (f ∈ A))) (List.length_filter_le _ _)
  rw [List.length_append] at len1
  have s1 := Sound_spec (ofF (A ++ B)) (by omega)
  have s2 := Sound_spec A (by omega)
  have s3 := Sound_spec (ofF (A.filter fun f => decide (f ∈ B))) (by omega)
  have s4 := Sound_spec (ofF (B.filter fun f => !decide (f ∈ A))) (by omega)
  have hfd := facted_spec
  have fin : soundF (ofF (A ++ B)) = true → soundF A = true ∧ soundF (ofF (A.filter fun f => decide (f ∈ B))) = true ∧ soundF (ofF (B.filter fun f => !decide (f ∈ A))) = true := by
    intro h
    refine ⟨sound_sub (fun x hx => (of_mem x _).2 ⟨List.mem_append_left _ hx, hAv x hx⟩) h, sound_sub (fun x hx => ?_) h, sound_sub (fun x hx => ?_) h⟩
    · have := (of_mem x _).1 hx
      exact (of_mem x _).2 ⟨List.mem_append_left _ (List.mem_filter.1 this.1).1, this.2⟩
    · have := (of_mem x _).1 hx
      exact (of_mem x _).2 ⟨List.mem_append_right _ (List.mem_filter.1 this.1).1, this.2⟩
  obtain ⟨P, hP⟩ : ∃ P : VV → Prop, P = fun w : VV => w = .bool true := ⟨_, rfl⟩
  have hP1 : P (.bool true) := by subst hP; rfl
  have hP2 : (fun r : VV × VHeap => r.1 = .bool true) = fun r => P r.1 := by subst hP; rfl
  rw [hP2]
  clear hP hP2
  simp -implicitDefEqProofs only [go_sem, ↓reduceIte, reduceCtorEq, Int.reduceLT, Int.reduceLE, Int.reduceToNat, Nat.reduceAdd, Nat.reduceMul, Nat.reduceLeDiff, Nat.reduceLT, Nat.reduceSub, Int.reduceNeg, Int.reduceEq, Int.reduceBEq, Int.reduceBNe, Nat.reduceEqDiff, hFa, hFb, hOa, hOb]
  rw [Sat_bind]
  refine loop_up (I := fun i env h => h = [] ∧ env = (VV.undef :: VV.undef :: VV.undef :: VV.undef :: VV.undef :: (.list .s (A.map fF) : VV) :: (.list .s (B.map fF) : VV) :: VV.undef :: VV.undef :: VV.undef :: VV.undef :: VV.undef :: VV.undef :: VV.undef :: VV.undef :: VV.undef :: VV.undef :: (.list .s (A.map fF) : VV) :: (.int .i64 ((A.length : Nat) : Int) : VV) :: (.int .i64 ((i : Nat) : Int) : VV) :: VV.undef :: VV.undef :: VV.undef :: VV.undef :: VV.undef :: VV.undef :: VV.undef :: VV.undef :: VV.undef :: VV.undef :: VV.undef :: VV.undef :: VV.undef :: VV.undef :: VV.undef :: VV.undef :: VV.undef :: VV.undef :: VV.undef :: VV.undef :: VV.undef :: VV.undef :: VV.undef :: VV.undef :: VV.undef :: VV.undef :: VV.undef :: VV.undef :: VV.undef :: VV.undef :: VV.undef :: VV.undef :: VV.undef :: VV.undef :: VV.undef :: VV.undef :: VV.undef :: VV.undef :: VV.undef :: VV.undef :: VV.undef :: VV.undef :: VV.undef :: VV.undef :: [])) A.length ?_ ?_ (Nat.zero_le _) ⟨rfl, by simp -implicitDefEqProofs only [go_sem, ↓reduceIte, reduceCtorEq, Int.reduceLT, Int.reduceLE, Int.reduceToNat, Nat.reduceAdd, Nat.reduceMul, Nat.reduceLeDiff, Nat.reduceLT, Nat.reduceSub, Int.reduceNeg, Int.reduceEq, Int.reduceBEq, Int.reduceBNe, Nat.reduceEqDiff]⟩
  · rintro i env h hi ⟨rfl, rfl⟩
    obtain ⟨f, hf⟩ := get_some hi
    have hg := get_map (F := fF) hf
    have hi' : (i : Int) < (A.length : Int) := by omega
    have hw := wrap_succ (i := i) (by omega)
    have hC := Clash_spec f f
    rw [clash_self] at hC
    simp only [fF] at hg hC
    simp -implicitDefEqProofs only [gantkeep4_FactSounds_b0, go_sem, ↓reduceIte, reduceCtorEq, Int.reduceLT, Int.reduceLE, Int.reduceToNat, Nat.reduceAdd, Nat.reduceMul, Nat.reduceLeDiff, Nat.reduceLT, Nat.reduceSub, Int.reduceNeg, Int.reduceEq, Int.reduceBEq, Int.reduceBNe, Nat.reduceEqDiff, hi', hg, hC]
    rw [Sat_bind]
    refine FS_in (by omega) _ ?_
    simp -implicitDefEqProofs only [gantkeep4_FactSounds_b0, go_sem, ↓reduceIte, reduceCtorEq, Int.reduceLT, Int.reduceLE, Int.reduceToNat, Nat.reduceAdd, Nat.reduceMul, Nat.reduceLeDiff, Nat.reduceLT, Nat.reduceSub, Int.reduceNeg, Int.reduceEq, Int.reduceBEq, Int.reduceBNe, Nat.reduceEqDiff, hw]
  · rintro env h ⟨rfl, rfl⟩
    cases hs : soundF (ofF (A ++ B)) with
    | true =>
      obtain ⟨f1, f2, f3⟩ := fin hs
      simp -implicitDefEqProofs only [gantkeep4_FactSounds_b0, go_sem, ↓reduceIte, reduceCtorEq, Int.reduceLT, Int.reduceLE, Int.reduceToNat, Nat.reduceAdd, Nat.reduceMul, Nat.reduceLeDiff, Nat.reduceLT, Nat.reduceSub, Int.reduceNeg, Int.reduceEq, Int.reduceBEq, Int.reduceBNe, Nat.reduceEqDiff, Int.lt_irrefl, hfd, hJ, hM, hN, s1, s2, s3, s4, hs, f1, f2, f3]
      exact hP1
    | false =>
      simp -implicitDefEqProofs only [gantkeep4_FactSounds_b0, go_sem, ↓reduceIte, reduceCtorEq, Int.reduceLT, Int.reduceLE, Int.reduceToNat, Nat.reduceAdd, Nat.reduceMul, Nat.reduceLeDiff, Nat.reduceLT, Nat.reduceSub, Int.reduceNeg, Int.reduceEq, Int.reduceBEq, Int.reduceBNe, Nat.reduceEqDiff, Int.lt_irrefl, hfd, hJ, hM, hN, s1, s2, s3, s4, hs]
      exact hP1
end Vg.G3
