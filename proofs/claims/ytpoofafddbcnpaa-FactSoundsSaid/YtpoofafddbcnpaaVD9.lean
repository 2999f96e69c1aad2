import Derived.Test.YtpoofafddbcnpaaVD8
namespace Vg.G3
open Go Lg
set_option linter.unusedSimpArgs false
set_option maxRecDepth 10000
set_option maxHeartbeats 2000000
attribute [local congr] bind_congr1
attribute [local go_sem] ite_self cloneA cloneC Nat.zero_le mm_max mm_min codeVL_loop keepV_from keepFrom List.contains_cons List.contains_nil codeVL_skip codeVL_exit codeVL_ret codeVL_ops codeVL_dops codeVL_seq codeVL_cond codeVL_block opsV_nil opsV_d opsV_n opsV_g vs_c vs_t nrm nrmL eqE eqL List.replicate List.cons_append List.nil_append List.append_nil List.getD_cons_zero List.getD_cons_succ List.getD_nil List.set_cons_zero List.set_cons_succ Option.bind_some Option.bind_none Option.bind_assoc thenV_norm thenV_exit thenV_ret blockV_norm blockV_exit blockV_ret endV_norm endV_ret backV fz_list fz_int fz_bool fz_str fz_tup fz_agg mapM_cons' mapM_nil' fzN_tup fzN_agg fzN_list fzN_int fzN_bool fzN_str fzN_cptr fzN_nilptr ressV resV oneV ite_bind if_true if_false decide_eq_true_eq Bool.false_eq_true Bool.not_true Bool.not_false Bool.and_true Bool.and_false Bool.true_and Bool.false_and List.all_cons List.all_nil List.length_cons List.length_nil List.map_cons List.map_nil fillV vsplice List.take_succ_cons List.take_zero List.drop_succ_cons List.drop_zero List.drop_nil List.take_nil beq_self_eq_true vbnds Int.toNat_zero Int.toNat_one Nat.zero_add Nat.add_zero Nat.mul_one Nat.one_mul Nat.mul_zero Nat.zero_mul List.getElem?_cons_zero List.getElem?_cons_succ List.getElem?_nil List.getElem?_map Option.map_some Option.map_none List.length_map decide_true decide_false Bool.or_true Bool.or_false Bool.true_or Bool.false_or not_true_eq_false not_false_eq_true true_and and_true false_and and_false true_or or_true false_or or_false ne_eq beq_true Bool.true_beq Bool.false_beq int_beq int_bne nat_beq bool_beq_true bool_beq_false ite_boolV cast_zero cast_one Bool.not_eq_true' Bool.not_eq_false' decide_eq_false_iff_not gt_iff_lt ge_iff_le Nat.le_refl Nat.lt_irrefl Nat.add_sub_cancel Nat.sub_zero Int.toNat_natCast Int.natCast_nonneg Int.cast_ofNat_Int lowL VV.low trim chunk appendV rowsOf Sat_some take_map_len take_len take_set_len succ_ne_zero succ_pos' List.length_set opV_mvF opV_mvT opV_mvs opV_pick opV_alloc opV_box opV_build opV_bslice opV_load opV_store opV_nilchk opV_bin opV_eqv opV_un opV_conv opV_b2s opV_s2b opV_slc opV_fieldAddr opV_field opV_indexAddr opV_indexAddrA opV_index opV_indexA opV_extract opV_lenS opV_lenL opV_lenM opV_lenC opV_min2 opV_max2 opV_append opV_copy opV_make opV_mkmap opV_lookup opV_update opV_mkfunc opV_call opV_callv opV_ext opV_rewr opV_concat opV_capL extE_index1 extE_count1 extE_join argV_str argV_int argV_bool argV_list Option.isNone_none Option.isNone_some opV_stuck strip_mvF strip_mvT strip_mvC strip_mvs strip_pick strip_alloc strip_box strip_build strip_bslice strip_load strip_storeT strip_storeC strip_nilchk strip_bin strip_eqv strip_un strip_conv strip_b2s strip_s2b strip_slc strip_fieldAddr strip_field strip_indexAddr strip_indexAddrA strip_index strip_indexA strip_extract strip_lenS strip_lenL strip_lenM strip_lenC strip_min2 strip_max2 strip_appendT strip_appendC strip_copy strip_make strip_mkmap strip_lookup strip_update strip_mkfunc strip_call strip_callv strip_ext strip_rewr strip_concat strip_capL strip_stuck vr_t vr_c cmpX_t cmpX_c putV_s putV_n ofLV_int ofLV_bool ofLV_str ofLV_nilslice ofLV_nilptr ofLV_nilfunc ofLV_nilmap ofLV_nilif ofLV_agg ofLV_tup ofLV_func ofLVs_nil ofLVs_cons binE_add binE_sub binE_mul binE_eql binE_neq binE_lss binE_leq binE_gtr binE_geq binE_quo binE_rem binE_seql binE_sneq unE_not unE_neg sh_undef ow_undef cells_undef single_undef stV_undef sh_bool ow_bool cells_bool single_bool sc_bool stV_bool cmpV_bool sh_int ow_int cells_int single_int sc_int stV_int cmpV_int sh_str ow_str cells_str single_str sc_str stV_str cmpV_str sh_ptr ow_ptr cells_ptr single_ptr stV_ptr cmpV_ptr sh_cptr ow_cptr cells_cptr single_cptr stV_cptr cmpV_cptr sh_nilptr ow_nilptr cells_nilptr single_nilptr stV_nilptr cmpV_nilptr sh_lists ow_lists cells_lists single_lists stV_lists sh_listf ow_listf cells_listf single_listf stV_listf sh_listo ow_listo cells_listo single_listo stV_listo sh_hs ow_hs cells_hs single_hs stV_hs sh_map ow_map cells_map single_map stV_map cmpV_map sh_nilmap ow_nilmap cells_nilmap single_nilmap stV_nilmap cmpV_nilmap sh_func ow_func cells_func single_func stV_func cmpV_func sh_nilfunc ow_nilfunc cells_nilfunc single_nilfunc stV_nilfunc cmpV_nilfunc sh_iface ow_iface cells_iface single_iface stV_iface cmpV_iface sh_nilif ow_nilif cells_nilif single_nilif stV_nilif cmpV_nilif sh_agg ow_agg cells_agg single_agg stV_agg cmpV_agg sh_tup ow_tup cells_tup single_tup stV_tup cmpV_cons guardV_bool guardV_tup nat_int fact_Of_r0 fact_Of_r1 fact_Of_r2 fact_Of_r3 fact_Of_r4 fact_Of_r5 fact_Of_r6 fact_Of_r7 fact_Of_r8 fact_Of_r9 fact_Of_f fact_Of_v

def ofF (l : List Fa) : List Fa := compactF (sortFa (l.filter validF))
theorem of_mem (x : Fa) (l : List Fa) : x ∈ ofF l ↔ x ∈ l ∧ validF x = true := by
  rw [ofF, compact_mem, sort_mem, List.mem_filter]
theorem of_len (l : List Fa) : (ofF l).length ≤ l.length := by
  have h1 := compact_len (sortFa (l.filter validF))
  rw [sort_len] at h1
  exact Nat.le_trans h1 (List.length_filter_le _ _)
theorem filter_snoc {l : List Fa} {i : Nat} {x : Fa} (h : l[i]? = some x) : (l.take (i + 1)).filter validF = (l.take i).filter validF ++ (if validF x = true then [x] else []) := by
  rw [take_succ_map h, List.filter_append]
  congr 1
  by_cases hv : validF x = true <;> simp [hv]
/-- A list that is being built, to be written. -/
def Bld (acc : List Fa) (v : VV) (h : VHeap) : Prop := (acc = [] ∧ v = .list .f []) ∨ ∃ m, 1 ≤ acc.length ∧ v = .hs m 0 acc.length 3 ∧ h[m]? = some (.cells true (acc.map fF).flatten)
theorem fF_scal {l : List Fa} : ∀ r ∈ l.map fF, r.all scal = true := fun r hr => by obtain ⟨w, _, rfl⟩ := List.mem_map.1 hr; rfl
theorem show_of (l : List Fa) : ((l.map fF).flatten.map fun c => c.sh.ow) = (l.map fF).flatten := scals_show (all_flat fF_scal)
theorem Of_spec (l : List Fa) (hl : l.length ≤ 1000) (lo : Nat) (h : VHeap) : callVL vp lo n_fact_Of [.list .s (l.map fF)] h = some (.list .s ((ofF l).map fF), h) := by
  refine call_valE (fn := fact_Of_v) rfl rfl rfl rfl rfl ?_ lo h
  generalize hT : (ofF l).map fF = T
  obtain ⟨P, hP⟩ : ∃ P : VV → Prop, P = fun w : VV => w = .list .s T := ⟨_, rfl⟩
  have hP1 : P (.list .s T) := by subst hP; rfl
  have hP2 : (fun r : VV × VHeap => r.1 = .list .s T) = fun r => P r.1 := by subst hP; rfl
  rw [hP2]
  clear hP hP2
  simp -implicitDefEqProofs only [go_sem, ↓reduceIte, reduceCtorEq, Int.reduceLT, Int.reduceLE, Int.reduceToNat, Nat.reduceAdd, Nat.reduceMul, Nat.reduceLeDiff, Nat.reduceLT, Nat.reduceSub, Int.reduceNeg, Int.reduceEq, Int.reduceBEq, Int.reduceBNe, Nat.reduceEqDiff]
  rw [Sat_bind]
  refine loop_up (I := fun i env h' => ∃ v, Bld ((l.take i).filter validF) v h' ∧ env = [.undef, .undef, .undef, v, .undef, .undef, .list .s (l.map fF), .int .i64 ((l.length : Nat) : Int), .int .i64 ((i : Nat) : Int), .undef, .undef, .undef, .undef, .undef, .undef, .undef, .undef, .undef, .undef, .undef, .undef, .undef, .undef]) l.length ?_ ?_ (Nat.zero_le _) ⟨.list .f [], .inl ⟨rfl, rfl⟩, by simp -implicitDefEqProofs only [go_sem, ↓reduceIte, reduceCtorEq, Int.reduceLT, Int.reduceLE, Int.reduceToNat, Nat.reduceAdd, Nat.reduceMul, Nat.reduceLeDiff, Nat.reduceLT, Nat.reduceSub, Int.reduceNeg, Int.reduceEq, Int.reduceBEq, Int.reduceBNe, Nat.reduceEqDiff]⟩
  · rintro i env h' hi ⟨v, hv, rfl⟩
    obtain ⟨x, hx⟩ := get_some hi
    have hg := get_map (F := fF) hx
    have hi' : (i : Int) < (l.length : Int) := by omega
    have hw := wrap_succ (i := i) (by omega)
    have hV := Valid_spec x
    have hfs := filter_snoc hx
    simp only [fF] at hg hV
    have hb1 : ∀ (h' : VHeap) (a : VBlk), (h' ++ [a])[h'.length]? = some a := fun h' a => List.getElem?_concat_length
    have hb2 : ∀ (h' : VHeap) (a b : VBlk), (h' ++ [a]).set h'.length b = h' ++ [b] := fun h' a b => by rw [List.set_append_right _ _ (Nat.le_refl _), Nat.sub_self]; rfl
    have hb3 : ∀ (h' : VHeap) (a : VBlk), (h' ++ [a]).length = h'.length + 1 := fun h' a => by simp
    have hb4 : ∀ (h' : VHeap) (a : VBlk), (h' ++ [a]).take h'.length = h' := fun h' a => List.take_left ..
    by_cases hvx : validF x = true
    · rw [if_pos hvx] at hfs
      have hacc : ((l.take i).filter validF).length ≤ 1000 := by
        have := List.length_filter_le validF (l.take i)
        rw [List.length_take] at this; omega
      generalize (l.take i).filter validF = acc at *
      rcases hv with ⟨rfl, rfl⟩ | ⟨m, ha, rfl, hm⟩
      · simp -implicitDefEqProofs only [fact_Of_b0, go_sem, ↓reduceIte, reduceCtorEq, Int.reduceLT, Int.reduceLE, Int.reduceToNat, Nat.reduceAdd, Nat.reduceMul, Nat.reduceLeDiff, Nat.reduceLT, Nat.reduceSub, Int.reduceNeg, Int.reduceEq, Int.reduceBEq, Int.reduceBNe, Nat.reduceEqDiff, hi', hg, hV, hvx, hw, hb1, hb2, hb3]
        refine ⟨_, .inr ⟨h'.length + 1, by rw [hfs]; simp, ?_, ?_⟩, rfl⟩
        · rw [hfs]; rfl
        · rw [if_neg (by omega)]
          have hs := show_of [x]
          have e : List.length h' + 1 = (h' ++ [VBlk.cells true (fF x)]).length := by rw [List.length_append]; rfl
          rw [hfs, List.nil_append, ← hs]
          rw [e]
          exact List.getElem?_concat_length
      · have hm' : ∀ a : VBlk, (h' ++ [a])[m]? = some (.cells true (acc.map fF).flatten) := fun a => by rw [List.getElem?_append_left (lt_of_getElem? hm)]; exact hm
        have hr : (acc.length + 1 + 512) * 24 ≤ 140737488355328 := Nat.le_trans (Nat.mul_le_mul_right 24 (show acc.length + 1 + 512 ≤ 2000 by omega)) (by decide)
        have hc := cells_len acc
        have hle : acc.length * 3 ≤ (acc.map fF).flatten.length := by omega
        have ht : (acc.map fF).flatten.take (acc.length * 3) = (acc.map fF).flatten := List.take_of_length_le (by omega)
        simp -implicitDefEqProofs only [fact_Of_b0, go_sem, ↓reduceIte, reduceCtorEq, Int.reduceLT, Int.reduceLE, Int.reduceToNat, Nat.reduceAdd, Nat.reduceMul, Nat.reduceLeDiff, Nat.reduceLT, Nat.reduceSub, Int.reduceNeg, Int.reduceEq, Int.reduceBEq, Int.reduceBNe, Nat.reduceEqDiff, hi', hg, hV, hvx, hw, hb1, hb2, hb3, hm', hr, hle, ht]
        refine ⟨_, .inr ⟨h'.length + 1, by rw [hfs]; simp, ?_, ?_⟩, rfl⟩
        · rw [hfs, List.length_append]; rfl
        · rw [if_neg (by omega)]
          have hs : ((acc.map fF).flatten ++ [fF x].flatten).map (fun c => c.sh.ow) = ((acc ++ [x]).map fF).flatten := by
            rw [List.map_append, List.map_append, List.flatten_append, show_of acc]
            exact congrArg _ (show_of [x])
          have e : List.length h' + 1 = ((h' ++ [VBlk.cells true (fF x)]).set m .dead).length := by rw [List.length_set, List.length_append]; rfl
          rw [hfs, ← hs]
          rw [e]
          exact List.getElem?_concat_length
    · rw [if_neg hvx, List.append_nil] at hfs
      simp -implicitDefEqProofs only [fact_Of_b0, go_sem, ↓reduceIte, reduceCtorEq, Int.reduceLT, Int.reduceLE, Int.reduceToNat, Nat.reduceAdd, Nat.reduceMul, Nat.reduceLeDiff, Nat.reduceLT, Nat.reduceSub, Int.reduceNeg, Int.reduceEq, Int.reduceBEq, Int.reduceBNe, Nat.reduceEqDiff, hi', hg, hV, hvx, hw, hb1, hb2, hb3, hb4]
      refine ⟨v, ?_, rfl⟩
      rw [hfs]
      rcases hv with ⟨ha, rfl⟩ | ⟨m, ha, rfl, hm⟩
      · exact .inl ⟨ha, rfl⟩
      · refine .inr ⟨m, ha, rfl, ?_⟩
        split
        · exact hm
        · rw [List.getElem?_append_left (lt_of_getElem? hm)]; exact hm
  · rintro env h' ⟨v, hv, rfl⟩
    rcases hv with ⟨ha, rfl⟩ | ⟨m, ha, rfl, hm⟩
    · have h1 := @Sort_spec0
      have h2 := @Compact_spec0
      simp -implicitDefEqProofs only [fact_Of_b0, go_sem, ↓reduceIte, reduceCtorEq, Int.reduceLT, Int.reduceLE, Int.reduceToNat, Nat.reduceAdd, Nat.reduceMul, Nat.reduceLeDiff, Nat.reduceLT, Nat.reduceSub, Int.reduceNeg, Int.reduceEq, Int.reduceBEq, Int.reduceBNe, Nat.reduceEqDiff, Int.lt_irrefl, h1, h2]
      rw [List.take_length] at ha
      have : T = [] := by rw [← hT, ofF, ha]; simp [sortFa, sortI, compactF]
      rw [← this]; exact hP1
    · rw [List.take_length] at ha hm
      have hacc : (l.filter validF).length ≤ 1000 := Nat.le_trans (List.length_filter_le _ _) hl
      have h1 := Sort_spec (lo := 0) hacc ha (Nat.zero_le m) hm
      have hlen := sort_len (l.filter validF)
      rw [List.take_length]
      generalize hL : l.filter validF = L at *
      obtain ⟨cs, h2, h3, h4⟩ := Compact_spec (l := sortFa L) (lo := 0) (h := h'.set m (.cells true ((sortFa L).map fF).flatten)) (n := m) (by omega) (by omega) (Nat.zero_le m) (by rw [List.getElem?_set_self (lt_of_getElem? hm)])
      rw [hlen] at h2
      have h5 : fz ((h'.set m (.cells true ((sortFa L).map fF).flatten)).set m (.cells true cs)) 0 (.hs m 0 (compactF (sortFa L)).length 3) = some (.list .s T) := by
        rw [fz_hs2 (rows := (compactF (sortFa L)).map fF) (cs := cs) (Nat.zero_le m) (by rw [List.getElem?_set_self (by rw [List.length_set]; exact lt_of_getElem? hm)]) (List.length_map ..).symm h3 h4 (fun r hr => by obtain ⟨w, _, rfl⟩ := List.mem_map.1 hr; rfl) fF_scal]
        rw [← hT, ofF, hL]
      simp -implicitDefEqProofs only [fact_Of_b0, go_sem, ↓reduceIte, reduceCtorEq, Int.reduceLT, Int.reduceLE, Int.reduceToNat, Nat.reduceAdd, Nat.reduceMul, Nat.reduceLeDiff, Nat.reduceLT, Nat.reduceSub, Int.reduceNeg, Int.reduceEq, Int.reduceBEq, Int.reduceBNe, Nat.reduceEqDiff, Int.lt_irrefl, h1, h2, h5]
      exact hP1
end Vg.G3
