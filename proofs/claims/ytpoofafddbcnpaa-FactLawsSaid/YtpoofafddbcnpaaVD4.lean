import Derived.Test.YtpoofafddbcnpaaVD3
namespace Vg.G3
open Go Lg
set_option linter.unusedSimpArgs false
set_option linter.unusedVariables false
set_option maxRecDepth 10000
set_option maxHeartbeats 2000000
attribute [local congr] bind_congr1
attribute [local go_sem] ite_self cloneA cloneC Nat.zero_le mm_max mm_min codeVL_loop keepV_from keepFrom List.contains_cons List.contains_nil codeVL_skip codeVL_exit codeVL_ret codeVL_ops codeVL_dops codeVL_seq codeVL_cond codeVL_block opsV_nil opsV_d opsV_n opsV_g vs_c vs_t nrm nrmL eqE eqL List.replicate List.cons_append List.nil_append List.append_nil List.getD_cons_zero List.getD_cons_succ List.getD_nil List.set_cons_zero List.set_cons_succ Option.bind_some Option.bind_none Option.bind_assoc thenV_norm thenV_exit thenV_ret blockV_norm blockV_exit blockV_ret endV_norm endV_ret backV fz_list fz_int fz_bool fz_str fz_tup fz_agg mapM_cons' mapM_nil' fzN_tup fzN_agg fzN_list fzN_int fzN_bool fzN_str fzN_cptr fzN_nilptr ressV resV oneV ite_bind if_true if_false decide_eq_true_eq Bool.false_eq_true Bool.not_true Bool.not_false Bool.and_true Bool.and_false Bool.true_and Bool.false_and List.all_cons List.all_nil List.length_cons List.length_nil List.map_cons List.map_nil fillV vsplice List.take_succ_cons List.take_zero List.drop_succ_cons List.drop_zero List.drop_nil List.take_nil beq_self_eq_true vbnds Int.toNat_zero Int.toNat_one Nat.zero_add Nat.add_zero Nat.mul_one Nat.one_mul Nat.mul_zero Nat.zero_mul List.getElem?_cons_zero List.getElem?_cons_succ List.getElem?_nil List.getElem?_map Option.map_some Option.map_none List.length_map decide_true decide_false Bool.or_true Bool.or_false Bool.true_or Bool.false_or not_true_eq_false not_false_eq_true true_and and_true false_and and_false true_or or_true false_or or_false ne_eq beq_true Bool.true_beq Bool.false_beq int_beq int_bne nat_beq bool_beq_true bool_beq_false ite_boolV cast_zero cast_one Bool.not_eq_true' Bool.not_eq_false' decide_eq_false_iff_not gt_iff_lt ge_iff_le Nat.le_refl Nat.lt_irrefl Nat.add_sub_cancel Nat.sub_zero Int.toNat_natCast Int.natCast_nonneg Int.cast_ofNat_Int lowL VV.low trim chunk appendV rowsOf Sat_some take_map_len take_len take_set_len succ_ne_zero succ_pos' List.length_set opV_mvF opV_mvT opV_mvs opV_pick opV_alloc opV_box opV_build opV_bslice opV_load opV_store opV_nilchk opV_bin opV_eqv opV_un opV_conv opV_b2s opV_s2b opV_slc opV_fieldAddr opV_field opV_indexAddr opV_indexAddrA opV_index opV_indexA opV_extract opV_lenS opV_lenL opV_lenM opV_lenC opV_min2 opV_max2 opV_append opV_copy opV_make opV_mkmap opV_lookup opV_update opV_mkfunc opV_call opV_callv opV_ext opV_rewr opV_concat opV_capL extE_index1 extE_count1 extE_join argV_str argV_int argV_bool argV_list Option.isNone_none Option.isNone_some opV_stuck strip_mvF strip_mvT strip_mvC strip_mvs strip_pick strip_alloc strip_box strip_build strip_bslice strip_load strip_storeT strip_storeC strip_nilchk strip_bin strip_eqv strip_un strip_conv strip_b2s strip_s2b strip_slc strip_fieldAddr strip_field strip_indexAddr strip_indexAddrA strip_index strip_indexA strip_extract strip_lenS strip_lenL strip_lenM strip_lenC strip_min2 strip_max2 strip_appendT strip_appendC strip_copy strip_make strip_mkmap strip_lookup strip_update strip_mkfunc strip_call strip_callv strip_ext strip_rewr strip_concat strip_capL strip_stuck vr_t vr_c cmpX_t cmpX_c putV_s putV_n ofLV_int ofLV_bool ofLV_str ofLV_nilslice ofLV_nilptr ofLV_nilfunc ofLV_nilmap ofLV_nilif ofLV_agg ofLV_tup ofLV_func ofLVs_nil ofLVs_cons binE_add binE_sub binE_mul binE_eql binE_neq binE_lss binE_leq binE_gtr binE_geq binE_quo binE_rem binE_seql binE_sneq unE_not unE_neg sh_undef ow_undef cells_undef single_undef stV_undef sh_bool ow_bool cells_bool single_bool sc_bool stV_bool cmpV_bool sh_int ow_int cells_int single_int sc_int stV_int cmpV_int sh_str ow_str cells_str single_str sc_str stV_str cmpV_str sh_ptr ow_ptr cells_ptr single_ptr stV_ptr cmpV_ptr sh_cptr ow_cptr cells_cptr single_cptr stV_cptr cmpV_cptr sh_nilptr ow_nilptr cells_nilptr single_nilptr stV_nilptr cmpV_nilptr sh_lists ow_lists cells_lists single_lists stV_lists sh_listf ow_listf cells_listf single_listf stV_listf sh_listo ow_listo cells_listo single_listo stV_listo sh_hs ow_hs cells_hs single_hs stV_hs sh_map ow_map cells_map single_map stV_map cmpV_map sh_nilmap ow_nilmap cells_nilmap single_nilmap stV_nilmap cmpV_nilmap sh_func ow_func cells_func single_func stV_func cmpV_func sh_nilfunc ow_nilfunc cells_nilfunc single_nilfunc stV_nilfunc cmpV_nilfunc sh_iface ow_iface cells_iface single_iface stV_iface cmpV_iface sh_nilif ow_nilif cells_nilif single_nilif stV_nilif cmpV_nilif sh_agg ow_agg cells_agg single_agg stV_agg cmpV_agg sh_tup ow_tup cells_tup single_tup stV_tup cmpV_cons guardV_bool guardV_tup nat_int fact_Sound_r0 fact_Sound_r1 fact_Sound_r2 fact_Sound_r3 fact_Sound_r4 fact_Sound_r5 fact_Sound_r6 fact_Sound_r7 fact_Sound_r8 fact_Sound_r9 fact_Sound_r10 fact_Sound_r11 fact_Sound_f fact_Sound_v

def soundF (l : List Fa) : Bool := l.all fun f => l.all fun g => !clashF f g
theorem soundF_iff (l : List Fa) : soundF l = true ↔ ∀ f ∈ l, ∀ g ∈ l, clashF f g = false := by simp [soundF]
theorem Sound_in {i : Nat} {f : Fa} {l : List Fa} (hi : i < l.length) (hf : l[i]? = some f) (hl : l.length ≤ 1000) (Q : Out × VEnv × VHeap → Prop)
    (h1 : (∀ j g, j < i → l[j]? = some g → clashF f g = false) → Q (.exit 2, [.list .s (l.map fF), .undef, .undef, .undef, .ptr 0 0, .undef, .undef, .list .s (l.map fF), .int .i64 ((l.length : Nat) : Int), .int .i64 ((i : Nat) : Int), .undef, .undef, .undef, .undef, .undef, .undef, .list .s ((l.map fF).take i), .int .i64 ((i : Nat) : Int), .int .i64 ((i : Nat) : Int), .bool false, .undef, .undef, .undef, .undef, .undef, .undef, .undef], [.cells true [.int .i64 f.k, .int .i64 f.a, .int .i64 f.b]]))
    (h2 : ∀ g env' h', g ∈ l → clashF f g = true → env'.getD 2 .undef = .bool false → Q (.ret, env', h')) :
    Sat (loopV (callVL vp) 0 [0, 4, 7, 8, 9, 16, 17, 18] fact_Sound_b1 [.list .s (l.map fF), .undef, .undef, .undef, .ptr 0 0, .undef, .undef, .list .s (l.map fF), .int .i64 ((l.length : Nat) : Int), .int .i64 ((i : Nat) : Int), .undef, .undef, .undef, .undef, .undef, .undef, .list .s ((l.map fF).take i), .int .i64 ((i : Nat) : Int), .int .i64 0, .undef, .undef, .undef, .undef, .undef, .undef, .undef, .undef] [.cells true [.int .i64 f.k, .int .i64 f.a, .int .i64 f.b]]) Q := by
  refine loop_up (I := fun j env h => h = [.cells true [.int .i64 f.k, .int .i64 f.a, .int .i64 f.b]] ∧ (∀ m g, m < j → l[m]? = some g → clashF f g = false) ∧ env = [.list .s (l.map fF), .undef, .undef, .undef, .ptr 0 0, .undef, .undef, .list .s (l.map fF), .int .i64 ((l.length : Nat) : Int), .int .i64 ((i : Nat) : Int), .undef, .undef, .undef, .undef, .undef, .undef, .list .s ((l.map fF).take i), .int .i64 ((i : Nat) : Int), .int .i64 ((j : Nat) : Int), .undef, .undef, .undef, .undef, .undef, .undef, .undef, .undef]) i ?_ ?_ (Nat.zero_le i) ⟨rfl, fun m g hm => absurd hm (Nat.not_lt_zero m), by simp -implicitDefEqProofs only [go_sem, ↓reduceIte, reduceCtorEq, Int.reduceLT, Int.reduceLE, Int.reduceToNat, Nat.reduceAdd, Nat.reduceMul, Nat.reduceLeDiff, Nat.reduceLT, Nat.reduceSub, Int.reduceNeg, Int.reduceEq, Int.reduceBEq, Int.reduceBNe, Nat.reduceEqDiff]⟩
  · rintro j env h hj ⟨rfl, hA, rfl⟩
    obtain ⟨g, hg⟩ := get_some (show j < l.length by omega)
    have hgj : ((l.map fF).take i)[j]? = some (fF g) := by rw [List.getElem?_take, if_pos hj]; exact get_map hg
    have hj' : (j : Int) < (i : Int) := by omega
    have hw := wrap_succ (i := j) (by omega)
    have hC := Clash_spec f g
    simp only [fF] at hgj hC
    cases hcl : clashF f g with
    | true =>
      simp -implicitDefEqProofs only [fact_Sound_b1, fact_Sound_b0, go_sem, ↓reduceIte, reduceCtorEq, Int.reduceLT, Int.reduceLE, Int.reduceToNat, Nat.reduceAdd, Nat.reduceMul, Nat.reduceLeDiff, Nat.reduceLT, Nat.reduceSub, Int.reduceNeg, Int.reduceEq, Int.reduceBEq, Int.reduceBNe, Nat.reduceEqDiff, hj', hgj, hC, hcl]
      exact h2 g _ _ (List.mem_of_getElem? hg) hcl rfl
    | false =>
      simp -implicitDefEqProofs only [fact_Sound_b1, fact_Sound_b0, go_sem, ↓reduceIte, reduceCtorEq, Int.reduceLT, Int.reduceLE, Int.reduceToNat, Nat.reduceAdd, Nat.reduceMul, Nat.reduceLeDiff, Nat.reduceLT, Nat.reduceSub, Int.reduceNeg, Int.reduceEq, Int.reduceBEq, Int.reduceBNe, Nat.reduceEqDiff, hj', hgj, hC, hcl, hw]
      intro m g' hm hg'
      rcases Nat.lt_succ_iff_lt_or_eq.1 hm with hm | rfl
      · exact hA m g' hm hg'
      · rw [hg] at hg'; cases hg'; exact hcl
  · rintro env h ⟨rfl, hA, rfl⟩
    simp -implicitDefEqProofs only [fact_Sound_b1, fact_Sound_b0, go_sem, ↓reduceIte, reduceCtorEq, Int.reduceLT, Int.reduceLE, Int.reduceToNat, Nat.reduceAdd, Nat.reduceMul, Nat.reduceLeDiff, Nat.reduceLT, Nat.reduceSub, Int.reduceNeg, Int.reduceEq, Int.reduceBEq, Int.reduceBNe, Nat.reduceEqDiff, Int.lt_irrefl]
    exact h1 hA
theorem Sound_spec (l : List Fa) (hl : l.length ≤ 1000) (lo : Nat) (h : VHeap) : callVL vp lo n_fact_Sound [.list .s (l.map fF)] h = some (.bool (soundF l), h) := by
  refine call_valE (fn := fact_Sound_v) rfl rfl rfl rfl rfl ?_ lo h
  generalize hT : soundF l = T
  obtain ⟨P, hP⟩ : ∃ P : VV → Prop, P = fun w : VV => w = .bool T := ⟨_, rfl⟩
  have hP1 : P (.bool T) := by subst hP; rfl
  have hP2 : (fun r : VV × VHeap => r.1 = .bool T) = fun r => P r.1 := by subst hP; rfl
  rw [hP2]
  clear hP hP2
  simp -implicitDefEqProofs only [go_sem, ↓reduceIte, reduceCtorEq, Int.reduceLT, Int.reduceLE, Int.reduceToNat, Nat.reduceAdd, Nat.reduceMul, Nat.reduceLeDiff, Nat.reduceLT, Nat.reduceSub, Int.reduceNeg, Int.reduceEq, Int.reduceBEq, Int.reduceBNe, Nat.reduceEqDiff]
  rw [Sat_bind]
  refine loop_up (I := fun i env h => h = [] ∧ (∀ m j f g, m < i → j < m → l[m]? = some f → l[j]? = some g → clashF f g = false) ∧ env = [.list .s (l.map fF), .undef, .undef, .undef, .undef, .undef, .undef, .list .s (l.map fF), .int .i64 ((l.length : Nat) : Int), .int .i64 ((i : Nat) : Int), .undef, .undef, .undef, .undef, .undef, .undef, .undef, .undef, .undef, .undef, .undef, .undef, .undef, .undef, .undef, .undef, .undef]) l.length ?_ ?_ (Nat.zero_le _) ⟨rfl, fun m j f g hm => absurd hm (Nat.not_lt_zero m), by simp -implicitDefEqProofs only [go_sem, ↓reduceIte, reduceCtorEq, Int.reduceLT, Int.reduceLE, Int.reduceToNat, Nat.reduceAdd, Nat.reduceMul, Nat.reduceLeDiff, Nat.reduceLT, Nat.reduceSub, Int.reduceNeg, Int.reduceEq, Int.reduceBEq, Int.reduceBNe, Nat.reduceEqDiff]⟩
  · rintro i env h hi ⟨rfl, hA, rfl⟩
    obtain ⟨f, hf⟩ := get_some hi
    have hg := get_map (F := fF) hf
    have hi' : (i : Int) < (l.length : Int) := by omega
    have hw := wrap_succ (i := i) (by omega)
    have hle : i ≤ l.length := by omega
    have hal := all_len fF_len l
    have hlen : ((l.map fF).take i).length = i := by rw [List.length_take, List.length_map]; omega
    simp only [fF] at hg
    simp -implicitDefEqProofs only [fact_Sound_b0, go_sem, ↓reduceIte, reduceCtorEq, Int.reduceLT, Int.reduceLE, Int.reduceToNat, Nat.reduceAdd, Nat.reduceMul, Nat.reduceLeDiff, Nat.reduceLT, Nat.reduceSub, Int.reduceNeg, Int.reduceEq, Int.reduceBEq, Int.reduceBNe, Nat.reduceEqDiff, hi', hg, hle, hal, hlen]
    rw [Sat_bind]
    refine Sound_in hi hf hl _ ?_ ?_
    · intro hB
      simp -implicitDefEqProofs only [fact_Sound_b1, fact_Sound_b0, go_sem, ↓reduceIte, reduceCtorEq, Int.reduceLT, Int.reduceLE, Int.reduceToNat, Nat.reduceAdd, Nat.reduceMul, Nat.reduceLeDiff, Nat.reduceLT, Nat.reduceSub, Int.reduceNeg, Int.reduceEq, Int.reduceBEq, Int.reduceBNe, Nat.reduceEqDiff, hw]
      intro m j f' g hm hj hf' hg'
      rcases Nat.lt_succ_iff_lt_or_eq.1 hm with hm | rfl
      · exact hA m j f' g hm hj hf' hg'
      · rw [hf] at hf'; cases hf'; exact hB j g hj hg'
    · intro g env' h' hgm hcl h2
      simp -implicitDefEqProofs only [go_sem, ↓reduceIte, reduceCtorEq, Int.reduceLT, Int.reduceLE, Int.reduceToNat, Nat.reduceAdd, Nat.reduceMul, Nat.reduceLeDiff, Nat.reduceLT, Nat.reduceSub, Int.reduceNeg, Int.reduceEq, Int.reduceBEq, Int.reduceBNe, Nat.reduceEqDiff, h2]
      obtain rfl : false = T := by
        rw [← hT, eq_comm, ← Bool.not_eq_true, soundF_iff]
        intro hS
        rw [hS f (List.mem_of_getElem? hf) g hgm] at hcl
        cases hcl
      exact hP1
  · rintro env h ⟨rfl, hA, rfl⟩
    simp -implicitDefEqProofs only [fact_Sound_b0, go_sem, ↓reduceIte, reduceCtorEq, Int.reduceLT, Int.reduceLE, Int.reduceToNat, Nat.reduceAdd, Nat.reduceMul, Nat.reduceLeDiff, Nat.reduceLT, Nat.reduceSub, Int.reduceNeg, Int.reduceEq, Int.reduceBEq, Int.reduceBNe, Nat.reduceEqDiff, Int.lt_irrefl]
    obtain rfl : true = T := by
      rw [← hT, eq_comm, soundF_iff]
      intro f hf g hg
      obtain ⟨m, hm⟩ := List.mem_iff_getElem?.1 hf
      obtain ⟨j, hj⟩ := List.mem_iff_getElem?.1 hg
      rcases Nat.lt_trichotomy j m with h | rfl | h
      · exact hA m j f g (lt_of_getElem? hm) h hm hj
      · rw [hm] at hj; cases hj; exact clash_self f
      · rw [clash_symm]; exact hA j m g f (lt_of_getElem? hj) h hj hm
    exact hP1
end Vg.G3
