import Derived.Test.YtiidghpdgkfncaaVB5
namespace Vg.G2
open Go Lg
set_option linter.unusedSimpArgs false
set_option maxRecDepth 10000
set_option maxHeartbeats 1000000
attribute [local congr] bind_congr1
attribute [local go_sem] ite_self cloneA cloneC Nat.zero_le mm_max mm_min codeVL_loop keepV_from keepFrom List.contains_cons List.contains_nil codeVL_skip codeVL_exit codeVL_ret codeVL_ops codeVL_dops codeVL_seq codeVL_cond codeVL_block opsV_nil opsV_d opsV_n opsV_g vs_c vs_t nrm nrmL eqE eqL List.replicate List.cons_append List.nil_append List.append_nil List.getD_cons_zero List.getD_cons_succ List.getD_nil List.set_cons_zero List.set_cons_succ Option.bind_some Option.bind_none Option.bind_assoc thenV_norm thenV_exit thenV_ret blockV_norm blockV_exit blockV_ret endV_norm endV_ret backV fz_list fz_int fz_bool fz_str fz_tup fz_agg mapM_cons' mapM_nil' fzN_tup fzN_agg fzN_list fzN_int fzN_bool fzN_str fzN_cptr fzN_nilptr ressV resV oneV ite_bind if_true if_false decide_eq_true_eq Bool.false_eq_true Bool.not_true Bool.not_false Bool.and_true Bool.and_false Bool.true_and Bool.false_and List.all_cons List.all_nil List.length_cons List.length_nil List.map_cons List.map_nil fillV vsplice List.take_succ_cons List.take_zero List.drop_succ_cons List.drop_zero List.drop_nil List.take_nil beq_self_eq_true vbnds Int.toNat_zero Int.toNat_one Nat.zero_add Nat.add_zero Nat.mul_one Nat.one_mul Nat.mul_zero Nat.zero_mul List.getElem?_cons_zero List.getElem?_cons_succ List.getElem?_nil List.getElem?_map Option.map_some Option.map_none List.length_map decide_true decide_false Bool.or_true Bool.or_false Bool.true_or Bool.false_or not_true_eq_false not_false_eq_true true_and and_true false_and and_false true_or or_true false_or or_false ne_eq beq_true Bool.true_beq Bool.false_beq int_beq int_bne nat_beq bool_beq_true bool_beq_false ite_boolV cast_zero cast_one Bool.not_eq_true' Bool.not_eq_false' decide_eq_false_iff_not gt_iff_lt ge_iff_le Nat.le_refl Nat.lt_irrefl Nat.add_sub_cancel Nat.sub_zero Int.toNat_natCast Int.natCast_nonneg Int.cast_ofNat_Int lowL VV.low trim chunk appendV rowsOf Sat_some take_map_len take_len take_set_len succ_ne_zero succ_pos' List.length_set opV_mvF opV_mvT opV_mvs opV_pick opV_alloc opV_box opV_build opV_bslice opV_load opV_store opV_nilchk opV_bin opV_eqv opV_un opV_conv opV_b2s opV_s2b opV_slc opV_fieldAddr opV_field opV_indexAddr opV_indexAddrA opV_index opV_indexA opV_extract opV_lenS opV_lenL opV_lenM opV_lenC opV_min2 opV_max2 opV_append opV_copy opV_make opV_mkmap opV_lookup opV_update opV_mkfunc opV_call opV_callv opV_ext extE_index1 extE_count1 extE_join argV_str argV_int argV_bool argV_list Option.isNone_none Option.isNone_some opV_stuck strip_mvF strip_mvT strip_mvC strip_mvs strip_pick strip_alloc strip_box strip_build strip_bslice strip_load strip_storeT strip_storeC strip_nilchk strip_bin strip_eqv strip_un strip_conv strip_b2s strip_s2b strip_slc strip_fieldAddr strip_field strip_indexAddr strip_indexAddrA strip_index strip_indexA strip_extract strip_lenS strip_lenL strip_lenM strip_lenC strip_min2 strip_max2 strip_appendT strip_appendC strip_copy strip_make strip_mkmap strip_lookup strip_update strip_mkfunc strip_call strip_callv strip_ext strip_stuck vr_t vr_c cmpX_t cmpX_c putV_s putV_n ofLV_int ofLV_bool ofLV_str ofLV_nilslice ofLV_nilptr ofLV_nilfunc ofLV_nilmap ofLV_nilif ofLV_agg ofLV_tup ofLV_func ofLVs_nil ofLVs_cons binE_add binE_sub binE_mul binE_eql binE_neq binE_lss binE_leq binE_gtr binE_geq binE_quo binE_rem binE_seql binE_sneq unE_not unE_neg sh_undef ow_undef cells_undef single_undef stV_undef sh_bool ow_bool cells_bool single_bool sc_bool stV_bool cmpV_bool sh_int ow_int cells_int single_int sc_int stV_int cmpV_int sh_str ow_str cells_str single_str sc_str stV_str cmpV_str sh_ptr ow_ptr cells_ptr single_ptr stV_ptr cmpV_ptr sh_cptr ow_cptr cells_cptr single_cptr stV_cptr cmpV_cptr sh_nilptr ow_nilptr cells_nilptr single_nilptr stV_nilptr cmpV_nilptr sh_lists ow_lists cells_lists single_lists stV_lists sh_listf ow_listf cells_listf single_listf stV_listf sh_listo ow_listo cells_listo single_listo stV_listo sh_hs ow_hs cells_hs single_hs stV_hs sh_map ow_map cells_map single_map stV_map cmpV_map sh_nilmap ow_nilmap cells_nilmap single_nilmap stV_nilmap cmpV_nilmap sh_func ow_func cells_func single_func stV_func cmpV_func sh_nilfunc ow_nilfunc cells_nilfunc single_nilfunc stV_nilfunc cmpV_nilfunc sh_iface ow_iface cells_iface single_iface stV_iface cmpV_iface sh_nilif ow_nilif cells_nilif single_nilif stV_nilif cmpV_nilif sh_agg ow_agg cells_agg single_agg stV_agg cmpV_agg sh_tup ow_tup cells_tup single_tup stV_tup cmpV_cons guardV_bool guardV_tup nat_int gantkeep4_texts_r0 gantkeep4_texts_r1 gantkeep4_texts_r2 gantkeep4_texts_r3 gantkeep4_texts_r4 gantkeep4_texts_r5 gantkeep4_texts_r6 gantkeep4_texts_r7 gantkeep4_texts_f gantkeep4_texts_v

theorem drop_row' {α : Type} {xs : List α} {i : Nat} {x : α} (h : xs[i]? = some x) : xs.drop i = x :: xs.drop (i + 1) := by
  obtain ⟨h1, h2⟩ := List.getElem?_eq_some_iff.1 h
  rw [List.drop_eq_getElem_cons h1, h2]
def zt (w : Wd) : Wd := ⟨w.kind, 0, w.text⟩
theorem fW_rows {ws : List Wd} : ∀ r ∈ ws.map fW, r.length = 3 := fun r hr => by obtain ⟨w, _, rfl⟩ := List.mem_map.1 hr; rfl
theorem fW_scal {ws : List Wd} : ∀ r ∈ ws.map fW, r.all scal = true := fun r hr => by obtain ⟨w, _, rfl⟩ := List.mem_map.1 hr; rfl
theorem flen {α : Type} {es : Nat} {F : α → List VV} (hF : ∀ x, (F x).length = es) (xs : List α) : ∀ r ∈ xs.map F, r.length = es := fun r hr => by obtain ⟨w, _, rfl⟩ := List.mem_map.1 hr; exact hF w

theorem texts_spec (ws : List Wd) (hl : ws.length ≤ 4096) (lo : Nat) (h : VHeap) : callVL vp lo n_gantkeep4_texts [.list .s (ws.map fW)] h = some (.list .s ((ws.map zt).map fW), h) := by
  refine call_valE (fn := gantkeep4_texts_v) rfl rfl rfl rfl rfl ?_ lo h
  obtain ⟨P, hP⟩ : ∃ P : VV → Prop, P = fun w : VV => w = .list .s ((ws.map zt).map fW) := ⟨_, rfl⟩
  have hP1 : P (.list .s ((ws.map zt).map fW)) := by subst hP; rfl
  have hP2 : (fun r : VV × VHeap => r.1 = .list .s ((ws.map zt).map fW)) = fun r => P r.1 := by subst hP; rfl
  rw [hP2]
  clear hP hP2
  have hC := fun lo h (hlo : lo ≤ List.length h) => cloneM_call (p := vp) (f := n_slices_Clone_gantrywordWord) (pu := false) (es := 3) (bytes := 32) (lo := lo) (rows := ws.map fW) (h := h) rfl (all_len fW_len ws) (all_flat fW_scal) (by rw [List.length_map]; omega) hlo
  have hC0 := hC 0 [] (Nat.le_refl _)
  cases hw : ws with
  | nil =>
    subst hw
    simp only [List.map_nil, if_true] at hC0
    simp -implicitDefEqProofs only [go_sem, ↓reduceIte, reduceCtorEq, Int.reduceLT, Int.reduceLE, Int.reduceToNat, Nat.reduceAdd, Nat.reduceMul, Nat.reduceLeDiff, Nat.reduceLT, Nat.reduceSub, Int.reduceNeg, Int.reduceEq, Int.reduceBEq, Int.reduceBNe, Nat.reduceEqDiff, hC0]
    rw [Sat_bind, loopV_eq]
    simp -implicitDefEqProofs only [gantkeep4_texts_b0, go_sem, ↓reduceIte, reduceCtorEq, Int.reduceLT, Int.reduceLE, Int.reduceToNat, Nat.reduceAdd, Nat.reduceMul, Nat.reduceLeDiff, Nat.reduceLT, Nat.reduceSub, Int.reduceNeg, Int.reduceEq, Int.reduceBEq, Int.reduceBNe, Nat.reduceEqDiff, Int.lt_irrefl]
    exact hP1
  | cons w0 ws0 =>
    have hne : ws.map fW ≠ [] := by rw [hw]; simp
    rw [if_neg hne] at hC0
    simp only [List.length_nil, Nat.zero_add, List.nil_append, List.length_map] at hC0
    rw [← hw]
    simp -implicitDefEqProofs only [go_sem, ↓reduceIte, reduceCtorEq, Int.reduceLT, Int.reduceLE, Int.reduceToNat, Nat.reduceAdd, Nat.reduceMul, Nat.reduceLeDiff, Nat.reduceLT, Nat.reduceSub, Int.reduceNeg, Int.reduceEq, Int.reduceBEq, Int.reduceBNe, Nat.reduceEqDiff, hC0]
    rw [Sat_bind]
    refine loop_up (I := fun i env h' => env = [.undef, .undef, .undef, .hs 1 0 ws.length 3, .undef, .undef, .undef, .undef, .int .i64 ((ws.length : Nat) : Int), .int .i64 ((i : Nat) : Int), .undef, .undef, .undef, .undef, .undef, .undef, .undef, .undef] ∧ h' = [.dead, .cells true ((((ws.take i).map zt) ++ ws.drop i).map fW).flatten]) ws.length ?_ ?_ (Nat.zero_le _) ⟨by simp -implicitDefEqProofs only [go_sem, ↓reduceIte, reduceCtorEq, Int.reduceLT, Int.reduceLE, Int.reduceToNat, Nat.reduceAdd, Nat.reduceMul, Nat.reduceLeDiff, Nat.reduceLT, Nat.reduceSub, Int.reduceNeg, Int.reduceEq, Int.reduceBEq, Int.reduceBNe, Nat.reduceEqDiff], by simp only [List.take_zero, List.map_nil, List.nil_append, List.drop_zero]⟩
    · rintro i env h' hi ⟨rfl, rfl⟩
      obtain ⟨w, hw⟩ := get_some hi
      have hi' : (i : Int) < (ws.length : Int) := by omega
      have hw1 := wrap_succ (i := i) (by omega)
      have hget : ((((ws.take i).map zt) ++ ws.drop i).map fW)[i]? = some (fW w) := by
        rw [List.getElem?_map, List.getElem?_append_right (by rw [List.length_map, List.length_take]; omega), drop_row' hw]
        simp [Nat.min_eq_left (Nat.le_of_lt hi)]
      have hlen := flen fW_len (((ws.take i).map zt) ++ ws.drop i)
      have hset := flat_set (d := 1) (vs := [VV.int .i64 0]) hlen hget (by decide)
      have hfl := flat_len hlen
      rw [List.length_map, List.length_append, List.length_map, List.length_take, List.length_drop] at hfl
      have hfl' : i * 3 + 1 + 1 ≤ ((((ws.take i).map zt) ++ ws.drop i).map fW).flatten.length := by rw [hfl]; omega
      have hnx : ((((ws.take i).map zt) ++ ws.drop i).map fW).set i (vsplice (fW w) 1 [VV.int .i64 0]) = (((ws.take (i + 1)).map zt) ++ ws.drop (i + 1)).map fW := by
        rw [drop_row' hw, take_succ_map hw, List.map_append, List.map_append, List.map_append, List.map_append, List.map_cons, List.set_append_right _ _ (by rw [List.length_map, List.length_map, List.length_take]; omega)]
        simp [Nat.min_eq_left (Nat.le_of_lt hi), fW, zt, vsplice]
      rw [hnx] at hset
      simp only [vsplice, List.length_cons, List.length_nil, Nat.zero_add] at hset
      generalize (((ws.take i).map zt) ++ ws.drop i).map fW = rows at *
      simp -implicitDefEqProofs only [gantkeep4_texts_b0, go_sem, ↓reduceIte, reduceCtorEq, Int.reduceLT, Int.reduceLE, Int.reduceToNat, Nat.reduceAdd, Nat.reduceMul, Nat.reduceLeDiff, Nat.reduceLT, Nat.reduceSub, Int.reduceNeg, Int.reduceEq, Int.reduceBEq, Int.reduceBNe, Nat.reduceEqDiff, hi, hi', hw1, hfl', hset]
    · rintro env h' ⟨rfl, rfl⟩
      have hf := fz_hs (es := 3) (h := [VBlk.dead, .cells true ((((ws.take ws.length).map zt) ++ ws.drop ws.length).map fW).flatten]) (base := 0) (n := 1) (len := ws.length) (rows := (((ws.take ws.length).map zt) ++ ws.drop ws.length).map fW) (Nat.zero_le _) rfl (by simp) (flen fW_len _) fW_scal
      have he : ((ws.take ws.length).map zt) ++ ws.drop ws.length = ws.map zt := by simp
      rw [he] at hf ⊢
      simp -implicitDefEqProofs only [gantkeep4_texts_b0, go_sem, ↓reduceIte, reduceCtorEq, Int.reduceLT, Int.reduceLE, Int.reduceToNat, Nat.reduceAdd, Nat.reduceMul, Nat.reduceLeDiff, Nat.reduceLT, Nat.reduceSub, Int.reduceNeg, Int.reduceEq, Int.reduceBEq, Int.reduceBNe, Nat.reduceEqDiff, Int.lt_irrefl, hf]
      exact hP1
end Vg.G2
