import Derived.Test.YtpoofafddbcnpaaVDB
import Derived.Test.YtpoofafddbcnpaaVDP
namespace Vg.G3
open Go Lg
set_option linter.unusedSimpArgs false
set_option linter.unusedVariables false
set_option maxRecDepth 10000
set_option maxHeartbeats 1000000
attribute [local congr] bind_congr1
attribute [local go_sem] ite_self cloneA cloneC Nat.zero_le mm_max mm_min codeVL_loop keepV_from keepFrom List.contains_cons List.contains_nil codeVL_skip codeVL_exit codeVL_ret codeVL_ops codeVL_dops codeVL_seq codeVL_cond codeVL_block opsV_nil opsV_d opsV_n opsV_g vs_c vs_t nrm nrmL eqE eqL List.replicate List.cons_append List.nil_append List.append_nil List.getD_cons_zero List.getD_cons_succ List.getD_nil List.set_cons_zero List.set_cons_succ Option.bind_some Option.bind_none Option.bind_assoc thenV_norm thenV_exit thenV_ret blockV_norm blockV_exit blockV_ret endV_norm endV_ret backV fz_list fz_int fz_bool fz_str fz_tup fz_agg mapM_cons' mapM_nil' fzN_tup fzN_agg fzN_list fzN_int fzN_bool fzN_str fzN_cptr fzN_nilptr ressV resV oneV ite_bind if_true if_false decide_eq_true_eq Bool.false_eq_true Bool.not_true Bool.not_false Bool.and_true Bool.and_false Bool.true_and Bool.false_and List.all_cons List.all_nil List.length_cons List.length_nil List.map_cons List.map_nil fillV vsplice List.take_succ_cons List.take_zero List.drop_succ_cons List.drop_zero List.drop_nil List.take_nil beq_self_eq_true vbnds Int.toNat_zero Int.toNat_one Nat.zero_add Nat.add_zero Nat.mul_one Nat.one_mul Nat.mul_zero Nat.zero_mul List.getElem?_cons_zero List.getElem?_cons_succ List.getElem?_nil List.getElem?_map Option.map_some Option.map_none List.length_map decide_true decide_false Bool.or_true Bool.or_false Bool.true_or Bool.false_or not_true_eq_false not_false_eq_true true_and and_true false_and and_false true_or or_true false_or or_false ne_eq beq_true Bool.true_beq Bool.false_beq int_beq int_bne nat_beq bool_beq_true bool_beq_false ite_boolV cast_zero cast_one Bool.not_eq_true' Bool.not_eq_false' decide_eq_false_iff_not gt_iff_lt ge_iff_le Nat.le_refl Nat.lt_irrefl Nat.add_sub_cancel Nat.sub_zero Int.toNat_natCast Int.natCast_nonneg Int.cast_ofNat_Int lowL VV.low trim chunk appendV rowsOf Sat_some take_map_len take_len take_set_len succ_ne_zero succ_pos' List.length_set opV_mvF opV_mvT opV_mvs opV_pick opV_alloc opV_box opV_build opV_bslice opV_load opV_store opV_nilchk opV_bin opV_eqv opV_un opV_conv opV_b2s opV_s2b opV_slc opV_fieldAddr opV_field opV_indexAddr opV_indexAddrA opV_index opV_indexA opV_extract opV_lenS opV_lenL opV_lenM opV_lenC opV_min2 opV_max2 opV_append opV_copy opV_make opV_mkmap opV_lookup opV_update opV_mkfunc opV_call opV_callv opV_ext opV_rewr opV_concat opV_capL extE_index1 extE_count1 extE_join argV_str argV_int argV_bool argV_list Option.isNone_none Option.isNone_some opV_stuck strip_mvF strip_mvT strip_mvC strip_mvs strip_pick strip_alloc strip_box strip_build strip_bslice strip_load strip_storeT strip_storeC strip_nilchk strip_bin strip_eqv strip_un strip_conv strip_b2s strip_s2b strip_slc strip_fieldAddr strip_field strip_indexAddr strip_indexAddrA strip_index strip_indexA strip_extract strip_lenS strip_lenL strip_lenM strip_lenC strip_min2 strip_max2 strip_appendT strip_appendC strip_copy strip_make strip_mkmap strip_lookup strip_update strip_mkfunc strip_call strip_callv strip_ext strip_rewr strip_concat strip_capL strip_stuck vr_t vr_c cmpX_t cmpX_c putV_s putV_n ofLV_int ofLV_bool ofLV_str ofLV_nilslice ofLV_nilptr ofLV_nilfunc ofLV_nilmap ofLV_nilif ofLV_agg ofLV_tup ofLV_func ofLVs_nil ofLVs_cons binE_add binE_sub binE_mul binE_eql binE_neq binE_lss binE_leq binE_gtr binE_geq binE_quo binE_rem binE_seql binE_sneq unE_not unE_neg sh_undef ow_undef cells_undef single_undef stV_undef sh_bool ow_bool cells_bool single_bool sc_bool stV_bool cmpV_bool sh_int ow_int cells_int single_int sc_int stV_int cmpV_int sh_str ow_str cells_str single_str sc_str stV_str cmpV_str sh_ptr ow_ptr cells_ptr single_ptr stV_ptr cmpV_ptr sh_cptr ow_cptr cells_cptr single_cptr stV_cptr cmpV_cptr sh_nilptr ow_nilptr cells_nilptr single_nilptr stV_nilptr cmpV_nilptr sh_lists ow_lists cells_lists single_lists stV_lists sh_listf ow_listf cells_listf single_listf stV_listf sh_listo ow_listo cells_listo single_listo stV_listo sh_hs ow_hs cells_hs single_hs stV_hs sh_map ow_map cells_map single_map stV_map cmpV_map sh_nilmap ow_nilmap cells_nilmap single_nilmap stV_nilmap cmpV_nilmap sh_func ow_func cells_func single_func stV_func cmpV_func sh_nilfunc ow_nilfunc cells_nilfunc single_nilfunc stV_nilfunc cmpV_nilfunc sh_iface ow_iface cells_iface single_iface stV_iface cmpV_iface sh_nilif ow_nilif cells_nilif single_nilif stV_nilif cmpV_nilif sh_agg ow_agg cells_agg single_agg stV_agg cmpV_agg sh_tup ow_tup cells_tup single_tup stV_tup cmpV_cons guardV_bool guardV_tup nat_int cmp_isNaN_int_r0 cmp_isNaN_int_r1 cmp_isNaN_int_f cmp_isNaN_int_v cmp_Compare_int_r0 cmp_Compare_int_r1 cmp_Compare_int_r2 cmp_Compare_int_r3 cmp_Compare_int_r4 cmp_Compare_int_r5 cmp_Compare_int_r6 cmp_Compare_int_r7 cmp_Compare_int_r8 cmp_Compare_int_r9 cmp_Compare_int_r10 cmp_Compare_int_r11 cmp_Compare_int_r12 cmp_Compare_int_r13 cmp_Compare_int_f cmp_Compare_int_v slices_Compare_intint_r0 slices_Compare_intint_r1 slices_Compare_intint_r2 slices_Compare_intint_r3 slices_Compare_intint_r4 slices_Compare_intint_r5 slices_Compare_intint_r6 slices_Compare_intint_r7 slices_Compare_intint_r8 slices_Compare_intint_r9 slices_Compare_intint_r10 slices_Compare_intint_r11 slices_Compare_intint_r12 slices_Compare_intint_r13 slices_Compare_intint_f slices_Compare_intint_v fact_Compare_r0 fact_Compare_r1 fact_Compare_f fact_Compare_v slices_Equal_gantryfactFact_r0 slices_Equal_gantryfactFact_r1 slices_Equal_gantryfactFact_r2 slices_Equal_gantryfactFact_r3 slices_Equal_gantryfactFact_r4 slices_Equal_gantryfactFact_r5 slices_Equal_gantryfactFact_r6 slices_Equal_gantryfactFact_r6_d slices_Equal_gantryfactFact_r7 slices_Equal_gantryfactFact_r8 slices_Equal_gantryfactFact_r9 slices_Equal_gantryfactFact_f slices_Equal_gantryfactFact_v

theorem isNaN_spec (n : Int) (lo : Nat) (h : VHeap) : callVL vp lo n_cmp_isNaN_int [.int .i64 n] h = some (.bool false, h) := by
  refine call_valE (fn := cmp_isNaN_int_v) rfl rfl rfl rfl rfl ?_ lo h
  simp -implicitDefEqProofs only [go_sem, ↓reduceIte, reduceCtorEq, Int.reduceLT, Int.reduceLE, Int.reduceToNat, Nat.reduceAdd, Nat.reduceMul, Nat.reduceLeDiff, Nat.reduceLT, Nat.reduceSub, Int.reduceNeg, Int.reduceEq, Int.reduceBEq, Int.reduceBNe, Nat.reduceEqDiff]
theorem cmp_spec (a b : Int) (lo : Nat) (h : VHeap) : callVL vp lo n_cmp_Compare_int [.int .i64 a, .int .i64 b] h = some (.int .i64 (if a < b then -1 else if b < a then 1 else 0), h) := by
  refine call_valE (fn := cmp_Compare_int_v) rfl rfl rfl rfl rfl ?_ lo h
  have hA := isNaN_spec a
  have hB := isNaN_spec b
  by_cases h1 : a < b
  · simp -implicitDefEqProofs only [go_sem, ↓reduceIte, reduceCtorEq, Int.reduceLT, Int.reduceLE, Int.reduceToNat, Nat.reduceAdd, Nat.reduceMul, Nat.reduceLeDiff, Nat.reduceLT, Nat.reduceSub, Int.reduceNeg, Int.reduceEq, Int.reduceBEq, Int.reduceBNe, Nat.reduceEqDiff, hA, hB, h1]
  · by_cases h2 : b < a <;> simp -implicitDefEqProofs only [go_sem, ↓reduceIte, reduceCtorEq, Int.reduceLT, Int.reduceLE, Int.reduceToNat, Nat.reduceAdd, Nat.reduceMul, Nat.reduceLeDiff, Nat.reduceLT, Nat.reduceSub, Int.reduceNeg, Int.reduceEq, Int.reduceBEq, Int.reduceBNe, Nat.reduceEqDiff, hA, hB, h1, h2]
def fJ (n : Int) : List VV := [.int .i64 n]
theorem dropJ {xs : List Int} {i : Nat} {x : Int} (h : xs[i]? = some x) : xs.drop i = x :: xs.drop (i + 1) := by
  obtain ⟨h1, h2⟩ := List.getElem?_eq_some_iff.1 h
  rw [List.drop_eq_getElem_cons h1, h2]
theorem sCompare_spec (A B : List Int) (hA : A.length ≤ 1000) (lo : Nat) (h : VHeap) : callVL vp lo n_slices_Compare_intint [.list .s (A.map fJ), .list .s (B.map fJ)] h = some (.int .i64 (cmpI A B), h) := by
  refine call_valE (fn := slices_Compare_intint_v) rfl rfl rfl rfl rfl ?_ lo h
  generalize hT : cmpI A B = T
  obtain ⟨P, hP⟩ : ∃ P : VV → Prop, P = fun w : VV => w = .int .i64 T := ⟨_, rfl⟩
  have hP1 : P (.int .i64 T) := by subst hP; rfl
  have hP2 : (fun r : VV × VHeap => r.1 = .int .i64 T) = fun r => P r.1 := by subst hP; rfl
  rw [hP2]
  clear hP hP2
  simp -implicitDefEqProofs only [go_sem, ↓reduceIte, reduceCtorEq, Int.reduceLT, Int.reduceLE, Int.reduceToNat, Nat.reduceAdd, Nat.reduceMul, Nat.reduceLeDiff, Nat.reduceLT, Nat.reduceSub, Int.reduceNeg, Int.reduceEq, Int.reduceBEq, Int.reduceBNe, Nat.reduceEqDiff]
  rw [Sat_bind]
  refine loop_up (I := fun i env h' => h' = [] ∧ cmpI (A.drop i) (B.drop i) = T ∧ env = [.list .s (A.map fJ), .list .s (B.map fJ), .undef, .undef, .undef, .undef, .undef, .undef, .undef, .list .s (A.map fJ), .int .i64 ((A.length : Nat) : Int), .int .i64 ((i : Nat) : Int), .undef, .undef, .undef, .undef, .undef, .undef, .undef, .undef, .undef, .undef, .undef, .undef, .undef, .undef, .undef, .undef, .undef, .undef, .undef, .undef, .undef, .undef, .undef, .undef]) A.length ?_ ?_ (Nat.zero_le _) ⟨rfl, hT, by simp -implicitDefEqProofs only [go_sem, ↓reduceIte, reduceCtorEq, Int.reduceLT, Int.reduceLE, Int.reduceToNat, Nat.reduceAdd, Nat.reduceMul, Nat.reduceLeDiff, Nat.reduceLT, Nat.reduceSub, Int.reduceNeg, Int.reduceEq, Int.reduceBEq, Int.reduceBNe, Nat.reduceEqDiff]⟩
  · rintro i env h' hi ⟨rfl, hI, rfl⟩
    obtain ⟨a, ha⟩ := get_some hi
    have hga := get_map (F := fJ) ha
    simp only [fJ] at hga
    have hi' : (i : Int) < (A.length : Int) := by omega
    have hw := wrap_succ (i := i) (by omega)
    rw [dropJ ha] at hI
    rcases Nat.lt_or_ge i B.length with hb | hb
    · obtain ⟨b, hb'⟩ := get_some hb
      have hgb := get_map (F := fJ) hb'
      simp only [fJ] at hgb
      have hc := cmp_spec a b
      have hge : ¬ (B.length : Int) ≤ (i : Int) := by omega
      rw [dropJ hb'] at hI
      simp only [cmpI] at hI
      by_cases h1 : a < b
      · simp only [h1, if_true] at hI hc
        subst hI
        simp -implicitDefEqProofs only [slices_Compare_intint_b0, go_sem, ↓reduceIte, reduceCtorEq, Int.reduceLT, Int.reduceLE, Int.reduceToNat, Nat.reduceAdd, Nat.reduceMul, Nat.reduceLeDiff, Nat.reduceLT, Nat.reduceSub, Int.reduceNeg, Int.reduceEq, Int.reduceBEq, Int.reduceBNe, Nat.reduceEqDiff, hi', hga, hgb, hge, hc]
        exact hP1
      · by_cases h2 : b < a
        · simp only [h1, h2, if_true, if_false] at hI hc
          subst hI
          simp -implicitDefEqProofs only [slices_Compare_intint_b0, go_sem, ↓reduceIte, reduceCtorEq, Int.reduceLT, Int.reduceLE, Int.reduceToNat, Nat.reduceAdd, Nat.reduceMul, Nat.reduceLeDiff, Nat.reduceLT, Nat.reduceSub, Int.reduceNeg, Int.reduceEq, Int.reduceBEq, Int.reduceBNe, Nat.reduceEqDiff, hi', hga, hgb, hge, hc]
          exact hP1
        · simp only [h1, h2, if_false] at hI hc
          simp -implicitDefEqProofs only [slices_Compare_intint_b0, go_sem, ↓reduceIte, reduceCtorEq, Int.reduceLT, Int.reduceLE, Int.reduceToNat, Nat.reduceAdd, Nat.reduceMul, Nat.reduceLeDiff, Nat.reduceLT, Nat.reduceSub, Int.reduceNeg, Int.reduceEq, Int.reduceBEq, Int.reduceBNe, Nat.reduceEqDiff, hi', hga, hgb, hge, hc, hw]
          exact hI
    · have hge : (B.length : Int) ≤ (i : Int) := by omega
      rw [List.drop_eq_nil_of_le hb] at hI
      simp only [cmpI] at hI
      subst hI
      simp -implicitDefEqProofs only [slices_Compare_intint_b0, go_sem, ↓reduceIte, reduceCtorEq, Int.reduceLT, Int.reduceLE, Int.reduceToNat, Nat.reduceAdd, Nat.reduceMul, Nat.reduceLeDiff, Nat.reduceLT, Nat.reduceSub, Int.reduceNeg, Int.reduceEq, Int.reduceBEq, Int.reduceBNe, Nat.reduceEqDiff, hi', hga, hge]
      exact hP1
  · rintro env h' ⟨rfl, hI, rfl⟩
    rw [List.drop_eq_nil_of_le (Nat.le_refl _)] at hI
    by_cases h1 : (A.length : Int) < (B.length : Int)
    · have : ∃ b t, B.drop A.length = b :: t := by
        obtain ⟨b, hb⟩ := get_some (show A.length < B.length by omega)
        exact ⟨_, _, dropJ hb⟩
      obtain ⟨b, t, hbt⟩ := this
      rw [hbt] at hI
      simp only [cmpI] at hI
      subst hI
      simp -implicitDefEqProofs only [slices_Compare_intint_b0, go_sem, ↓reduceIte, reduceCtorEq, Int.reduceLT, Int.reduceLE, Int.reduceToNat, Nat.reduceAdd, Nat.reduceMul, Nat.reduceLeDiff, Nat.reduceLT, Nat.reduceSub, Int.reduceNeg, Int.reduceEq, Int.reduceBEq, Int.reduceBNe, Nat.reduceEqDiff, Int.lt_irrefl, h1]
      exact hP1
    · rw [List.drop_eq_nil_of_le (by omega)] at hI
      simp only [cmpI] at hI
      subst hI
      simp -implicitDefEqProofs only [slices_Compare_intint_b0, go_sem, ↓reduceIte, reduceCtorEq, Int.reduceLT, Int.reduceLE, Int.reduceToNat, Nat.reduceAdd, Nat.reduceMul, Nat.reduceLeDiff, Nat.reduceLT, Nat.reduceSub, Int.reduceNeg, Int.reduceEq, Int.reduceBEq, Int.reduceBNe, Nat.reduceEqDiff, Int.lt_irrefl, h1]
      exact hP1
theorem factCompare_spec (a b c a' b' c' : Int) (lo : Nat) (h : VHeap) : callVL vp lo n_fact_Compare [.agg [.int .i64 a, .int .i64 b, .int .i64 c], .agg [.int .i64 a', .int .i64 b', .int .i64 c']] h = some (.int .i64 (cmpI [a, b, c] [a', b', c']), h) := by
  refine call_valE (fn := fact_Compare_v) rfl rfl rfl rfl rfl ?_ lo h
  have hS := sCompare_spec [a, b, c] [a', b', c'] (by simp)
  simp only [List.map_cons, List.map_nil, fJ] at hS
  simp -implicitDefEqProofs only [go_sem, ↓reduceIte, reduceCtorEq, Int.reduceLT, Int.reduceLE, Int.reduceToNat, Nat.reduceAdd, Nat.reduceMul, Nat.reduceLeDiff, Nat.reduceLT, Nat.reduceSub, Int.reduceNeg, Int.reduceEq, Int.reduceBEq, Int.reduceBNe, Nat.reduceEqDiff, hS]

theorem Compare_spec (f g : Fa) (lo : Nat) (h : VHeap) : callVL vp lo n_fact_Compare [.agg (fF f), .agg (fF g)] h = some (.int .i64 (cmpI (toI f) (toI g)), h) := factCompare_spec f.k f.a f.b g.k g.a g.b lo h
theorem Equal_spec (A B : List Fa) (hA : A.length ≤ 1000) (hB : B.length ≤ 1000) (lo : Nat) (h : VHeap) : callVL vp lo n_slices_Equal_gantryfactFact [.list .s (A.map fF), .list .s (B.map fF)] h = some (.bool (decide (A = B)), h) := by
  refine call_valE (fn := slices_Equal_gantryfactFact_v) rfl rfl rfl rfl rfl ?_ lo h
  generalize hT : decide (A = B) = T
  obtain ⟨P, hP⟩ : ∃ P : VV → Prop, P = fun w : VV => w = .bool T := ⟨_, rfl⟩
  have hP1 : P (.bool T) := by subst hP; rfl
  have hP2 : (fun r : VV × VHeap => r.1 = .bool T) = fun r => P r.1 := by subst hP; rfl
  rw [hP2]
  clear hP hP2
  by_cases hl : A.length = B.length
  case neg =>
    obtain rfl : false = T := by rw [← hT, eq_comm, decide_eq_false_iff_not]; exact fun h => hl (by rw [h])
    have hl' : ¬ (A.length : Int) = (B.length : Int) := by omega
    simp -implicitDefEqProofs only [slices_Equal_gantryfactFact_b0, go_sem, ↓reduceIte, reduceCtorEq, Int.reduceLT, Int.reduceLE, Int.reduceToNat, Nat.reduceAdd, Nat.reduceMul, Nat.reduceLeDiff, Nat.reduceLT, Nat.reduceSub, Int.reduceNeg, Int.reduceEq, Int.reduceBEq, Int.reduceBNe, Nat.reduceEqDiff, hl']
    exact hP1
  simp -implicitDefEqProofs only [go_sem, ↓reduceIte, reduceCtorEq, Int.reduceLT, Int.reduceLE, Int.reduceToNat, Nat.reduceAdd, Nat.reduceMul, Nat.reduceLeDiff, Nat.reduceLT, Nat.reduceSub, Int.reduceNeg, Int.reduceEq, Int.reduceBEq, Int.reduceBNe, Nat.reduceEqDiff, hl]
  rw [Sat_bind]
  refine loop_up (I := fun i env h' => h' = [] ∧ (∀ j, j < i → A[j]? = B[j]?) ∧ env = [.list .s (A.map fF), .list .s (B.map fF), .undef, .undef, .undef, .undef, .undef, .undef, .undef, .undef, .undef, .undef, .int .i64 ((B.length : Nat) : Int), .int .i64 ((i : Nat) : Int), .undef, .undef, .undef, .undef, .undef, .undef, .undef, .undef, .undef, .undef, .undef, .undef]) B.length ?_ ?_ (Nat.zero_le _) ⟨rfl, fun j hj => absurd hj (Nat.not_lt_zero j), by simp -implicitDefEqProofs only [go_sem, ↓reduceIte, reduceCtorEq, Int.reduceLT, Int.reduceLE, Int.reduceToNat, Nat.reduceAdd, Nat.reduceMul, Nat.reduceLeDiff, Nat.reduceLT, Nat.reduceSub, Int.reduceNeg, Int.reduceEq, Int.reduceBEq, Int.reduceBNe, Nat.reduceEqDiff]⟩
  · rintro i env h' hi ⟨rfl, hI, rfl⟩
    obtain ⟨f, hf⟩ := get_some (xs := A) (i := i) (by omega)
    obtain ⟨g, hg⟩ := get_some hi
    have hfg := get_map (F := fF) hf
    have hgg := get_map (F := fF) hg
    simp only [fF] at hfg hgg
    have hi' : (i : Int) < (B.length : Int) := by omega
    have hw := wrap_succ (i := i) (by omega)
    have bad : f ≠ g → false = T := by
      intro hne
      rw [← hT, eq_comm, decide_eq_false_iff_not]
      intro e
      rw [e, hg] at hf
      cases hf; exact hne rfl
    by_cases e1 : f.k = g.k
    · by_cases e2 : f.a = g.a
      · by_cases e3 : f.b = g.b
        · simp -implicitDefEqProofs only [slices_Equal_gantryfactFact_b0, go_sem, ↓reduceIte, reduceCtorEq, Int.reduceLT, Int.reduceLE, Int.reduceToNat, Nat.reduceAdd, Nat.reduceMul, Nat.reduceLeDiff, Nat.reduceLT, Nat.reduceSub, Int.reduceNeg, Int.reduceEq, Int.reduceBEq, Int.reduceBNe, Nat.reduceEqDiff, hi', hfg, hgg, hw, e1, e2, e3]
          intro j hj
          rcases Nat.lt_succ_iff_lt_or_eq.1 hj with hj | rfl
          · exact hI j hj
          · rw [hf, hg]; cases f; cases g; simp only at e1 e2 e3; rw [e1, e2, e3]
        · obtain rfl := bad fun h => e3 (by rw [h])
          simp -implicitDefEqProofs only [slices_Equal_gantryfactFact_b0, go_sem, ↓reduceIte, reduceCtorEq, Int.reduceLT, Int.reduceLE, Int.reduceToNat, Nat.reduceAdd, Nat.reduceMul, Nat.reduceLeDiff, Nat.reduceLT, Nat.reduceSub, Int.reduceNeg, Int.reduceEq, Int.reduceBEq, Int.reduceBNe, Nat.reduceEqDiff, hi', hfg, hgg, hw, e1, e2, e3]
          exact hP1
      · obtain rfl := bad fun h => e2 (by rw [h])
        simp -implicitDefEqProofs only [slices_Equal_gantryfactFact_b0, go_sem, ↓reduceIte, reduceCtorEq, Int.reduceLT, Int.reduceLE, Int.reduceToNat, Nat.reduceAdd, Nat.reduceMul, Nat.reduceLeDiff, Nat.reduceLT, Nat.reduceSub, Int.reduceNeg, Int.reduceEq, Int.reduceBEq, Int.reduceBNe, Nat.reduceEqDiff, hi', hfg, hgg, hw, e1, e2]
        exact hP1
    · obtain rfl := bad fun h => e1 (by rw [h])
      simp -implicitDefEqProofs only [slices_Equal_gantryfactFact_b0, go_sem, ↓reduceIte, reduceCtorEq, Int.reduceLT, Int.reduceLE, Int.reduceToNat, Nat.reduceAdd, Nat.reduceMul, Nat.reduceLeDiff, Nat.reduceLT, Nat.reduceSub, Int.reduceNeg, Int.reduceEq, Int.reduceBEq, Int.reduceBNe, Nat.reduceEqDiff, hi', hfg, hgg, hw, e1]
      exact hP1
  · rintro env h' ⟨rfl, hI, rfl⟩
    obtain rfl : true = T := by
      rw [← hT, eq_comm, decide_eq_true_iff]
      refine List.ext_getElem? fun j => ?_
      rcases Nat.lt_or_ge j B.length with hj | hj
      · exact hI j hj
      · rw [List.getElem?_eq_none hj, List.getElem?_eq_none (by omega)]
    simp -implicitDefEqProofs only [slices_Equal_gantryfactFact_b0, go_sem, ↓reduceIte, reduceCtorEq, Int.reduceLT, Int.reduceLE, Int.reduceToNat, Nat.reduceAdd, Nat.reduceMul, Nat.reduceLeDiff, Nat.reduceLT, Nat.reduceSub, Int.reduceNeg, Int.reduceEq, Int.reduceBEq, Int.reduceBNe, Nat.reduceEqDiff, Int.lt_irrefl]
    exact hP1
end Vg.G3
namespace Vg.G3
open Go Lg
set_option linter.unusedSimpArgs false
set_option linter.unusedVariables false
set_option maxRecDepth 10000
set_option maxHeartbeats 1000000
attribute [local congr] bind_congr1
attribute [local go_sem] ite_self cloneA cloneC Nat.zero_le mm_max mm_min codeVL_loop keepV_from keepFrom List.contains_cons List.contains_nil codeVL_skip codeVL_exit codeVL_ret codeVL_ops codeVL_dops codeVL_seq codeVL_cond codeVL_block opsV_nil opsV_d opsV_n opsV_g vs_c vs_t nrm nrmL eqE eqL List.replicate List.cons_append List.nil_append List.append_nil List.getD_cons_zero List.getD_cons_succ List.getD_nil List.set_cons_zero List.set_cons_succ Option.bind_some Option.bind_none Option.bind_assoc thenV_norm thenV_exit thenV_ret blockV_norm blockV_exit blockV_ret endV_norm endV_ret backV fz_list fz_int fz_bool fz_str fz_tup fz_agg mapM_cons' mapM_nil' fzN_tup fzN_agg fzN_list fzN_int fzN_bool fzN_str fzN_cptr fzN_nilptr ressV resV oneV ite_bind if_true if_false decide_eq_true_eq Bool.false_eq_true Bool.not_true Bool.not_false Bool.and_true Bool.and_false Bool.true_and Bool.false_and List.all_cons List.all_nil List.length_cons List.length_nil List.map_cons List.map_nil fillV vsplice List.take_succ_cons List.take_zero List.drop_succ_cons List.drop_zero List.drop_nil List.take_nil beq_self_eq_true vbnds Int.toNat_zero Int.toNat_one Nat.zero_add Nat.add_zero Nat.mul_one Nat.one_mul Nat.mul_zero Nat.zero_mul List.getElem?_cons_zero List.getElem?_cons_succ List.getElem?_nil List.getElem?_map Option.map_some Option.map_none List.length_map decide_true decide_false Bool.or_true Bool.or_false Bool.true_or Bool.false_or not_true_eq_false not_false_eq_true true_and and_true false_and and_false true_or or_true false_or or_false ne_eq beq_true Bool.true_beq Bool.false_beq int_beq int_bne nat_beq bool_beq_true bool_beq_false ite_boolV cast_zero cast_one Bool.not_eq_true' Bool.not_eq_false' decide_eq_false_iff_not gt_iff_lt ge_iff_le Nat.le_refl Nat.lt_irrefl Nat.add_sub_cancel Nat.sub_zero Int.toNat_natCast Int.natCast_nonneg Int.cast_ofNat_Int lowL VV.low trim chunk appendV rowsOf Sat_some take_map_len take_len take_set_len succ_ne_zero succ_pos' List.length_set opV_mvF opV_mvT opV_mvs opV_pick opV_alloc opV_box opV_build opV_bslice opV_load opV_store opV_nilchk opV_bin opV_eqv opV_un opV_conv opV_b2s opV_s2b opV_slc opV_fieldAddr opV_field opV_indexAddr opV_indexAddrA opV_index opV_indexA opV_extract opV_lenS opV_lenL opV_lenM opV_lenC opV_min2 opV_max2 opV_append opV_copy opV_make opV_mkmap opV_lookup opV_update opV_mkfunc opV_call opV_callv opV_ext opV_rewr opV_concat opV_capL extE_index1 extE_count1 extE_join argV_str argV_int argV_bool argV_list Option.isNone_none Option.isNone_some opV_stuck strip_mvF strip_mvT strip_mvC strip_mvs strip_pick strip_alloc strip_box strip_build strip_bslice strip_load strip_storeT strip_storeC strip_nilchk strip_bin strip_eqv strip_un strip_conv strip_b2s strip_s2b strip_slc strip_fieldAddr strip_field strip_indexAddr strip_indexAddrA strip_index strip_indexA strip_extract strip_lenS strip_lenL strip_lenM strip_lenC strip_min2 strip_max2 strip_appendT strip_appendC strip_copy strip_make strip_mkmap strip_lookup strip_update strip_mkfunc strip_call strip_callv strip_ext strip_rewr strip_concat strip_capL strip_stuck vr_t vr_c cmpX_t cmpX_c putV_s putV_n ofLV_int ofLV_bool ofLV_str ofLV_nilslice ofLV_nilptr ofLV_nilfunc ofLV_nilmap ofLV_nilif ofLV_agg ofLV_tup ofLV_func ofLVs_nil ofLVs_cons binE_add binE_sub binE_mul binE_eql binE_neq binE_lss binE_leq binE_gtr binE_geq binE_quo binE_rem binE_seql binE_sneq unE_not unE_neg sh_undef ow_undef cells_undef single_undef stV_undef sh_bool ow_bool cells_bool single_bool sc_bool stV_bool cmpV_bool sh_int ow_int cells_int single_int sc_int stV_int cmpV_int sh_str ow_str cells_str single_str sc_str stV_str cmpV_str sh_ptr ow_ptr cells_ptr single_ptr stV_ptr cmpV_ptr sh_cptr ow_cptr cells_cptr single_cptr stV_cptr cmpV_cptr sh_nilptr ow_nilptr cells_nilptr single_nilptr stV_nilptr cmpV_nilptr sh_lists ow_lists cells_lists single_lists stV_lists sh_listf ow_listf cells_listf single_listf stV_listf sh_listo ow_listo cells_listo single_listo stV_listo sh_hs ow_hs cells_hs single_hs stV_hs sh_map ow_map cells_map single_map stV_map cmpV_map sh_nilmap ow_nilmap cells_nilmap single_nilmap stV_nilmap cmpV_nilmap sh_func ow_func cells_func single_func stV_func cmpV_func sh_nilfunc ow_nilfunc cells_nilfunc single_nilfunc stV_nilfunc cmpV_nilfunc sh_iface ow_iface cells_iface single_iface stV_iface cmpV_iface sh_nilif ow_nilif cells_nilif single_nilif stV_nilif cmpV_nilif sh_agg ow_agg cells_agg single_agg stV_agg cmpV_agg sh_tup ow_tup cells_tup single_tup stV_tup cmpV_cons guardV_bool guardV_tup nat_int fact_IsSet_r0 fact_IsSet_r1 fact_IsSet_r2 fact_IsSet_r3 fact_IsSet_r4 fact_IsSet_r4_d fact_IsSet_r5 fact_IsSet_r6 fact_IsSet_r7 fact_IsSet_f fact_IsSet_v fact_Within_1_r0 fact_Within_1_r1 fact_Within_1_f fact_Within_1_v slices_IndexFunc_gantryfactFact_r0 slices_IndexFunc_gantryfactFact_r1 slices_IndexFunc_gantryfactFact_r2 slices_IndexFunc_gantryfactFact_r3 slices_IndexFunc_gantryfactFact_r4 slices_IndexFunc_gantryfactFact_r5 slices_IndexFunc_gantryfactFact_r6 slices_IndexFunc_gantryfactFact_r7 slices_IndexFunc_gantryfactFact_f slices_IndexFunc_gantryfactFact_v slices_ContainsFunc_gantryfactFact_r0 slices_ContainsFunc_gantryfactFact_r1 slices_ContainsFunc_gantryfactFact_f slices_ContainsFunc_gantryfactFact_v fact_Within_r0 fact_Within_r1 fact_Within_f fact_Within_v fact_Apply_r0 fact_Apply_r1 fact_Apply_f fact_Apply_v gantkeep4_FactLaws_1_r0 gantkeep4_FactLaws_1_r1 gantkeep4_FactLaws_1_f gantkeep4_FactLaws_1_v

/-- A set: valid facts, in order, each once. -/
def setF (A : List Fa) : Prop := (∀ f ∈ A, validF f = true) ∧ ∀ (i : Nat) (f g : Fa), A[i]? = some f → A[i + 1]? = some g → cmpI (toI f) (toI g) < 0
theorem IsSet_spec {A : List Fa} (hA : A.length ≤ 1000) (hS : setF A) (lo : Nat) (h : VHeap) : callVL vp lo n_fact_IsSet [.list .s (A.map fF)] h = some (.bool true, h) := by
  refine call_valE (fn := fact_IsSet_v) rfl rfl rfl rfl rfl ?_ lo h
  obtain ⟨P, hP⟩ : ∃ P : VV → Prop, P = fun w : VV => w = .bool true := ⟨_, rfl⟩
  have hP1 : P (.bool true) := by subst hP; rfl
  have hP2 : (fun r : VV × VHeap => r.1 = .bool true) = fun r => P r.1 := by subst hP; rfl
  rw [hP2]
  clear hP hP2
  simp -implicitDefEqProofs only [go_sem, ↓reduceIte, reduceCtorEq, Int.reduceLT, Int.reduceLE, Int.reduceToNat, Nat.reduceAdd, Nat.reduceMul, Nat.reduceLeDiff, Nat.reduceLT, Nat.reduceSub, Int.reduceNeg, Int.reduceEq, Int.reduceBEq, Int.reduceBNe, Nat.reduceEqDiff]
  rw [Sat_bind]
  refine loop_up (I := fun i env h' => h' = [] ∧ env = [.list .s (A.map fF), .undef, .undef, .undef, .undef, .list .s (A.map fF), .int .i64 ((A.length : Nat) : Int), .int .i64 ((i : Nat) : Int), .undef, .undef, .undef, .undef, .undef, .undef, .undef, .undef, .undef, .undef, .undef, .undef, .undef, .undef, .undef, .undef, .undef, .undef, .undef, .undef, .undef, .undef]) A.length ?_ ?_ (Nat.zero_le _) ⟨rfl, by simp -implicitDefEqProofs only [go_sem, ↓reduceIte, reduceCtorEq, Int.reduceLT, Int.reduceLE, Int.reduceToNat, Nat.reduceAdd, Nat.reduceMul, Nat.reduceLeDiff, Nat.reduceLT, Nat.reduceSub, Int.reduceNeg, Int.reduceEq, Int.reduceBEq, Int.reduceBNe, Nat.reduceEqDiff]⟩
  · rintro i env h' hi ⟨rfl, rfl⟩
    obtain ⟨f, hf⟩ := get_some hi
    have hfg := get_map (F := fF) hf
    have hV := Valid_spec f
    rw [hS.1 f (List.mem_of_getElem? hf)] at hV
    simp only [fF] at hfg hV
    have hi' : (i : Int) < (A.length : Int) := by omega
    have hw := wrap_succ (i := i) (by omega)
    cases i with
    | zero =>
      have hi0 : (0 : Int) < (A.length : Int) := hi'
      have hw0 : IntKind.i64.wrap (0 + 1) = 1 := by decide
      simp -implicitDefEqProofs only [fact_IsSet_b0, go_sem, ↓reduceIte, reduceCtorEq, Int.reduceLT, Int.reduceLE, Int.reduceToNat, Nat.reduceAdd, Nat.reduceMul, Nat.reduceLeDiff, Nat.reduceLT, Nat.reduceSub, Int.reduceNeg, Int.reduceEq, Int.reduceBEq, Int.reduceBNe, Nat.reduceEqDiff, hi0, hfg, hV, hw0, Int.lt_irrefl]
    | succ i =>
      obtain ⟨g, hg⟩ := get_some (xs := A) (i := i) (by omega)
      have hgg := get_map (F := fF) hg
      have hC := Compare_spec g f
      have hlt := hS.2 i g f hg hf
      have h0 : (0 : Int) < ((i + 1 : Nat) : Int) := by omega
      have hge : ¬ (0 : Int) ≤ cmpI (toI g) (toI f) := by omega
      have hwm : IntKind.i64.wrap (((i + 1 : Nat) : Int) - 1) = ((i : Nat) : Int) := by rw [wrap_id (by omega) (by omega)]; omega
      simp only [fF] at hgg hC
      simp -implicitDefEqProofs only [fact_IsSet_b0, go_sem, ↓reduceIte, reduceCtorEq, Int.reduceLT, Int.reduceLE, Int.reduceToNat, Nat.reduceAdd, Nat.reduceMul, Nat.reduceLeDiff, Nat.reduceLT, Nat.reduceSub, Int.reduceNeg, Int.reduceEq, Int.reduceBEq, Int.reduceBNe, Nat.reduceEqDiff, hi', hfg, hgg, hV, hw, h0, hwm, hC, hge]
  · rintro env h' ⟨rfl, rfl⟩
    simp -implicitDefEqProofs only [fact_IsSet_b0, go_sem, ↓reduceIte, reduceCtorEq, Int.reduceLT, Int.reduceLE, Int.reduceToNat, Nat.reduceAdd, Nat.reduceMul, Nat.reduceLeDiff, Nat.reduceLT, Nat.reduceSub, Int.reduceNeg, Int.reduceEq, Int.reduceBEq, Int.reduceBNe, Nat.reduceEqDiff, Int.lt_irrefl]
    exact hP1
theorem Within1_spec {b : List Fa} {f : Fa} {n : Nat} {h : VHeap} (hb : b.length ≤ 1000) (hn : h[n]? = some (.cells true [.list .s (b.map fF)])) (lo : Nat) : callVL vp lo n_fact_Within_1 [.agg (fF f), .ptr n 0] h = some (.bool (!decide (f ∈ b)), h) := by
  refine call_read (fn := fact_Within_1_v) («as» := [.agg (fF f), .ptr n 0]) rfl rfl rfl rfl rfl rfl (.inl rfl) ?_
  have hH := Has_spec b f (by omega)
  have hn' : ∀ a : VBlk, (h ++ [a])[n]? = some (.cells true [.list .s (b.map fF)]) := fun a => by rw [List.getElem?_append_left (lt_of_getElem? hn)]; exact hn
  have hb1 : ∀ (h' : VHeap) (a : VBlk), (h' ++ [a])[h'.length]? = some a := fun h' a => List.getElem?_concat_length
  simp only [fF] at hH
  simp -implicitDefEqProofs only [go_sem, ↓reduceIte, reduceCtorEq, Int.reduceLT, Int.reduceLE, Int.reduceToNat, Nat.reduceAdd, Nat.reduceMul, Nat.reduceLeDiff, Nat.reduceLT, Nat.reduceSub, Int.reduceNeg, Int.reduceEq, Int.reduceBEq, Int.reduceBNe, Nat.reduceEqDiff, fF, hn', hb1, hH]
theorem IndexF_spec {a b : List Fa} {n : Nat} {h : VHeap} (ha : a.length ≤ 1000) (hb : b.length ≤ 1000) (hn : h[n]? = some (.cells true [.list .s (b.map fF)])) (lo : Nat) :
    ∃ m : Int, (0 ≤ m ↔ ∃ f ∈ a, f ∉ b) ∧ callVL vp lo n_slices_IndexFunc_gantryfactFact [.list .s (a.map fF), .func 58 [.ptr n 0]] h = some (.int .i64 m, h) := by
  have key : ∃ v, (∃ m : Int, (0 ≤ m ↔ ∃ f ∈ a, f ∉ b) ∧ v = VV.int .i64 m) ∧ callVL vp lo n_slices_IndexFunc_gantryfactFact [.list .s (a.map fF), .func 58 [.ptr n 0]] h = some (v, h) := by
    obtain ⟨P, hP⟩ : ∃ P : VV → Prop, P = fun w : VV => ∃ n : Int, (0 ≤ n ↔ ∃ f ∈ a, f ∉ b) ∧ w = .int .i64 n := ⟨_, rfl⟩
    have hP1 : ∀ m : Int, (0 ≤ m ↔ ∃ f ∈ a, f ∉ b) → P (.int .i64 m) := fun m hm => by subst hP; exact ⟨m, hm, rfl⟩
    suffices hs : ∃ v, P v ∧ callVL vp lo n_slices_IndexFunc_gantryfactFact [.list .s (a.map fF), .func 58 [.ptr n 0]] h = some (v, h) by subst hP; exact hs
    clear hP
    have hE : Sat ((codeVL (callVL vp) h.length slices_IndexFunc_gantryfactFact_v.fn.body ([.list .s (a.map fF), .func 58 [.ptr n 0]] ++ List.replicate (slices_IndexFunc_gantryfactFact_v.fn.ntmps - slices_IndexFunc_gantryfactFact_v.fn.nargs) (.tup [])) h).bind (endV slices_IndexFunc_gantryfactFact_v h.length)) fun r => P r.1 := by
      simp -implicitDefEqProofs only [go_sem, ↓reduceIte, reduceCtorEq, Int.reduceLT, Int.reduceLE, Int.reduceToNat, Nat.reduceAdd, Nat.reduceMul, Nat.reduceLeDiff, Nat.reduceLT, Nat.reduceSub, Int.reduceNeg, Int.reduceEq, Int.reduceBEq, Int.reduceBNe, Nat.reduceEqDiff]
      rw [Sat_bind]
      refine loop_up (I := fun i env h' => h' = h ∧ (∀ j g, j < i → a[j]? = some g → g ∈ b) ∧ env = [.list .s (a.map fF), .func 58 [.ptr n 0], .undef, .undef, .undef, .undef, .undef, .int .i64 ((a.length : Nat) : Int), .int .i64 ((i : Nat) : Int), .undef, .undef, .undef, .undef, .undef, .undef, .undef, .undef, .undef, .undef]) a.length ?_ ?_ (Nat.zero_le _) ⟨rfl, fun j g hj => absurd hj (Nat.not_lt_zero j), by simp -implicitDefEqProofs only [go_sem, ↓reduceIte, reduceCtorEq, Int.reduceLT, Int.reduceLE, Int.reduceToNat, Nat.reduceAdd, Nat.reduceMul, Nat.reduceLeDiff, Nat.reduceLT, Nat.reduceSub, Int.reduceNeg, Int.reduceEq, Int.reduceBEq, Int.reduceBNe, Nat.reduceEqDiff]⟩
      · rintro i env h' hi ⟨rfl, hA, rfl⟩
        obtain ⟨x, hx⟩ := get_some hi
        have hi' : (i : Int) < (a.length : Int) := by omega
        have hw := wrap_succ (i := i) (by omega)
        have hg := get_map (F := fF) hx
        have hW := Within1_spec (f := x) hb hn
        simp only [fF] at hg hW
        by_cases hm : x ∈ b
        · simp -implicitDefEqProofs only [slices_IndexFunc_gantryfactFact_b0, go_sem, ↓reduceIte, reduceCtorEq, Int.reduceLT, Int.reduceLE, Int.reduceToNat, Nat.reduceAdd, Nat.reduceMul, Nat.reduceLeDiff, Nat.reduceLT, Nat.reduceSub, Int.reduceNeg, Int.reduceEq, Int.reduceBEq, Int.reduceBNe, Nat.reduceEqDiff, hi', hg, hw, hW, hm]
          intro j g hj hjg
          rcases Nat.lt_succ_iff_lt_or_eq.1 hj with hj | rfl
          · exact hA j g hj hjg
          · rw [hx] at hjg; cases hjg; exact hm
        · simp -implicitDefEqProofs only [slices_IndexFunc_gantryfactFact_b0, go_sem, ↓reduceIte, reduceCtorEq, Int.reduceLT, Int.reduceLE, Int.reduceToNat, Nat.reduceAdd, Nat.reduceMul, Nat.reduceLeDiff, Nat.reduceLT, Nat.reduceSub, Int.reduceNeg, Int.reduceEq, Int.reduceBEq, Int.reduceBNe, Nat.reduceEqDiff, hi', hg, hw, hW, hm]
          exact hP1 i ⟨fun _ => ⟨x, List.mem_of_getElem? hx, hm⟩, fun _ => by omega⟩
      · rintro env h' ⟨rfl, hA, rfl⟩
        simp -implicitDefEqProofs only [slices_IndexFunc_gantryfactFact_b0, go_sem, ↓reduceIte, reduceCtorEq, Int.reduceLT, Int.reduceLE, Int.reduceToNat, Nat.reduceAdd, Nat.reduceMul, Nat.reduceLeDiff, Nat.reduceLT, Nat.reduceSub, Int.reduceNeg, Int.reduceEq, Int.reduceBEq, Int.reduceBNe, Nat.reduceEqDiff, Int.lt_irrefl]
        refine hP1 (-1) ⟨fun h => absurd h (by decide), fun ⟨f, hf, hnb⟩ => ?_⟩
        obtain ⟨j, hj⟩ := List.mem_iff_getElem?.1 hf
        exact absurd (hA j f (lt_of_getElem? hj) hj) hnb
    obtain ⟨r, hr, hPr⟩ := hE
    exact ⟨r.1, hPr, call_read (fn := slices_IndexFunc_gantryfactFact_v) («as» := [.list .s (a.map fF), .func 58 [.ptr n 0]]) rfl rfl rfl rfl rfl rfl (.inl rfl) ⟨r, hr, rfl⟩⟩
  obtain ⟨v, ⟨m, hm, rfl⟩, hc⟩ := key
  exact ⟨m, hm, hc⟩
theorem ContainsF_spec {a b : List Fa} {n : Nat} {h : VHeap} (ha : a.length ≤ 1000) (hb : b.length ≤ 1000) (hn : h[n]? = some (.cells true [.list .s (b.map fF)])) (lo : Nat) :
    callVL vp lo n_slices_ContainsFunc_gantryfactFact [.list .s (a.map fF), .func 58 [.ptr n 0]] h = some (.bool (decide (∃ f ∈ a, f ∉ b)), h) := by
  refine call_read (fn := slices_ContainsFunc_gantryfactFact_v) («as» := [.list .s (a.map fF), .func 58 [.ptr n 0]]) rfl rfl rfl rfl rfl rfl (.inl rfl) ?_
  obtain ⟨m, hm, hI⟩ := IndexF_spec ha hb hn h.length
  by_cases h0 : 0 ≤ m
  · have := hm.1 h0
    simp -implicitDefEqProofs only [go_sem, ↓reduceIte, reduceCtorEq, Int.reduceLT, Int.reduceLE, Int.reduceToNat, Nat.reduceAdd, Nat.reduceMul, Nat.reduceLeDiff, Nat.reduceLT, Nat.reduceSub, Int.reduceNeg, Int.reduceEq, Int.reduceBEq, Int.reduceBNe, Nat.reduceEqDiff, hI, h0, this]
  · have : ¬ ∃ f ∈ a, f ∉ b := fun h => h0 (hm.2 h)
    simp -implicitDefEqProofs only [go_sem, ↓reduceIte, reduceCtorEq, Int.reduceLT, Int.reduceLE, Int.reduceToNat, Nat.reduceAdd, Nat.reduceMul, Nat.reduceLeDiff, Nat.reduceLT, Nat.reduceSub, Int.reduceNeg, Int.reduceEq, Int.reduceBEq, Int.reduceBNe, Nat.reduceEqDiff, hI, h0, this]
theorem Within_spec (a b : List Fa) (ha : a.length ≤ 1000) (hb : b.length ≤ 1000) (lo : Nat) (h : VHeap) : callVL vp lo n_fact_Within [.list .s (a.map fF), .list .s (b.map fF)] h = some (.bool (!decide (∃ f ∈ a, f ∉ b)), h) := by
  refine call_valE (fn := fact_Within_v) rfl rfl rfl rfl rfl ?_ lo h
  have hC := ContainsF_spec (a := a) (b := b) (n := 0) (h := [.cells true [.list .s (b.map fF)]]) ha hb rfl
  simp -implicitDefEqProofs only [go_sem, ↓reduceIte, reduceCtorEq, Int.reduceLT, Int.reduceLE, Int.reduceToNat, Nat.reduceAdd, Nat.reduceMul, Nat.reduceLeDiff, Nat.reduceLT, Nat.reduceSub, Int.reduceNeg, Int.reduceEq, Int.reduceBEq, Int.reduceBNe, Nat.reduceEqDiff, hC]
theorem Apply_spec (l less more : List Fa) (h1 : l.length ≤ 500) (h2 : less.length ≤ 1000) (h3 : more.length ≤ 500) (lo : Nat) (h : VHeap) : callVL vp lo n_fact_Apply [.list .s (l.map fF), .list .s (less.map fF), .list .s (more.map fF)] h = some (.list .s ((ofF (ofF (l.filter fun f => !decide (f ∈ less)) ++ more)).map fF), h) := by
  refine call_valE (fn := fact_Apply_v) rfl rfl rfl rfl rfl ?_ lo h
  have hM := Minus_spec l less (by omega) h2
  have hJ := Join_spec (ofF (l.filter fun f => !decide (f ∈ less))) more (by
    have := Nat.le_trans (of_len (l.filter fun f => !decide (f ∈ less))) (List.length_filter_le _ _)
    omega)
  simp -implicitDefEqProofs only [go_sem, ↓reduceIte, reduceCtorEq, Int.reduceLT, Int.reduceLE, Int.reduceToNat, Nat.reduceAdd, Nat.reduceMul, Nat.reduceLeDiff, Nat.reduceLT, Nat.reduceSub, Int.reduceNeg, Int.reduceEq, Int.reduceBEq, Int.reduceBNe, Nat.reduceEqDiff, hM, hJ]
theorem eq_spec (A B : List Fa) (hA : A.length ≤ 1000) (hB : B.length ≤ 1000) (lo : Nat) (h : VHeap) : callVL vp lo n_gantkeep4_FactLaws_1 [.list .s (A.map fF), .list .s (B.map fF)] h = some (.bool (decide (A = B)), h) := by
  refine call_valE (fn := gantkeep4_FactLaws_1_v) rfl rfl rfl rfl rfl ?_ lo h
  have hE := Equal_spec A B hA hB
  simp -implicitDefEqProofs only [go_sem, ↓reduceIte, reduceCtorEq, Int.reduceLT, Int.reduceLE, Int.reduceToNat, Nat.reduceAdd, Nat.reduceMul, Nat.reduceLeDiff, Nat.reduceLT, Nat.reduceSub, Int.reduceNeg, Int.reduceEq, Int.reduceBEq, Int.reduceBNe, Nat.reduceEqDiff, hE]
end Vg.G3
namespace Vg.G3
open Go Lg
set_option linter.unusedVariables false

def ltF (f g : Fa) : Prop := cmpI (toI f) (toI g) < 0
def leF (f g : Fa) : Bool := !decide (cmpI (toI g) (toI f) < 0)
theorem ltF_iff (f g : Fa) : ltF f g ↔ f.k < g.k ∨ f.k = g.k ∧ (f.a < g.a ∨ f.a = g.a ∧ f.b < g.b) := by
  unfold ltF toI
  simp only [cmpI]
  by_cases h1 : f.k < g.k
  · rw [if_pos h1]; omega
  · rw [if_neg h1]
    by_cases h2 : g.k < f.k
    · rw [if_pos h2]; omega
    · rw [if_neg h2]
      by_cases h3 : f.a < g.a
      · rw [if_pos h3]; omega
      · rw [if_neg h3]
        by_cases h4 : g.a < f.a
        · rw [if_pos h4]; omega
        · rw [if_neg h4]
          by_cases h5 : f.b < g.b
          · rw [if_pos h5]; omega
          · rw [if_neg h5]
            by_cases h6 : g.b < f.b
            · rw [if_pos h6]; omega
            · rw [if_neg h6]; omega
theorem leF_iff (f g : Fa) : leF f g = true ↔ ¬ ltF g f := by simp [leF, ltF]
theorem ltF_trans {f g k : Fa} (h1 : ltF f g) (h2 : ltF g k) : ltF f k := by rw [ltF_iff] at *; omega
theorem ltF_asymm {f g : Fa} (h1 : ltF f g) (h2 : ltF g f) : False := by rw [ltF_iff] at *; omega
theorem ltF_of {f g : Fa} (h : leF f g = true) (hne : f ≠ g) : ltF f g := by
  rw [leF_iff, ltF_iff] at h
  rw [ltF_iff]
  have : ¬ (f.k = g.k ∧ f.a = g.a ∧ f.b = g.b) := fun ⟨a, b, c⟩ => hne (by cases f; cases g; simp only at a b c; rw [a, b, c])
  omega
theorem sortFa_eq (l : List Fa) : sortFa l = l.mergeSort leF := by
  have h1 := List.map_mergeSort (r := leF) (s := fun x y => !decide (cmpI y x < 0)) (f := toI) (l := l) (fun a _ b _ => rfl)
  unfold sortFa sortI
  rw [← h1, List.map_map]
  conv => rhs; rw [← List.map_id (l.mergeSort leF)]
  exact List.map_congr_left fun f _ => rfl
theorem sort_pw (l : List Fa) : (sortFa l).Pairwise fun f g => leF f g = true := by
  rw [sortFa_eq]
  refine List.pairwise_mergeSort (fun a b c h1 h2 => ?_) (fun a b => ?_) l
  · rw [leF_iff, ltF_iff] at *; omega
  · rw [Bool.or_eq_true, leF_iff, leF_iff, ltF_iff, ltF_iff]; omega
theorem cmpt_pw : ∀ (l : List Fa) (p : Fa), (p :: l).Pairwise (fun f g => leF f g = true) → (p :: cmpt p l).Pairwise ltF
  | [], p, _ => by simp [cmpt]
  | y :: r, p, h => by
    have h2 := cmpt_pw r y (List.pairwise_cons.1 h).2
    simp only [cmpt]
    by_cases e : y = p
    · rw [if_pos e]; rw [e] at h2 ⊢; exact h2
    · rw [if_neg e]
      have h3 : ltF p y := ltF_of ((List.pairwise_cons.1 h).1 y (by simp)) (fun h => e h.symm)
      refine List.pairwise_cons.2 ⟨fun z hz => ?_, h2⟩
      rcases List.mem_cons.1 hz with rfl | hz
      · exact h3
      · exact ltF_trans h3 ((List.pairwise_cons.1 h2).1 z hz)
theorem of_pw (l : List Fa) : (ofF l).Pairwise ltF := by
  have h := sort_pw (l.filter validF)
  unfold ofF
  cases hs : sortFa (l.filter validF) with
  | nil => simp [compactF]
  | cons x r => rw [hs] at h; exact cmpt_pw r x h
theorem pw_uniq : ∀ {A B : List Fa}, A.Pairwise ltF → B.Pairwise ltF → (∀ x, x ∈ A ↔ x ∈ B) → A = B
  | [], [], _, _, _ => rfl
  | [], b :: B, _, _, h => by have := (h b).2 (by simp); simp at this
  | a :: A, [], _, _, h => by have := (h a).1 (by simp); simp at this
  | a :: A, b :: B, hA, hB, h => by
    have hA' := List.pairwise_cons.1 hA
    have hB' := List.pairwise_cons.1 hB
    have e : a = b := by
      rcases List.mem_cons.1 ((h a).1 (by simp)) with e | e
      · exact e
      · rcases List.mem_cons.1 ((h b).2 (by simp)) with e' | e'
        · exact e'.symm
        · exact absurd (hA'.1 b e') fun h => ltF_asymm h (hB'.1 a e)
    subst e
    congr 1
    refine pw_uniq hA'.2 hB'.2 fun x => ⟨fun hx => ?_, fun hx => ?_⟩
    · rcases List.mem_cons.1 ((h x).1 (List.mem_cons_of_mem _ hx)) with rfl | h2
      · exact absurd (hA'.1 x hx) fun h => ltF_asymm h h
      · exact h2
    · rcases List.mem_cons.1 ((h x).2 (List.mem_cons_of_mem _ hx)) with rfl | h2
      · exact absurd (hB'.1 x hx) fun h => ltF_asymm h h
      · exact h2
/-- The set of a list: facts in order, valid ones. -/
def Canon (A : List Fa) : Prop := A.Pairwise ltF ∧ ∀ x ∈ A, validF x = true
theorem of_canon (l : List Fa) : Canon (ofF l) := ⟨of_pw l, fun x hx => ((of_mem x l).1 hx).2⟩
theorem Canon.set {A : List Fa} (h : Canon A) : setF A := by
  refine ⟨h.2, fun i f g hf hg => ?_⟩
  have h1 := lt_of_getElem? hg
  have := List.pairwise_iff_getElem.1 h.1 i (i + 1) (by omega) h1 (Nat.lt_succ_self i)
  rw [(List.getElem?_eq_some_iff.1 hf).2, (List.getElem?_eq_some_iff.1 hg).2] at this
  exact this
theorem of_eq {l : List Fa} {A : List Fa} (hA : Canon A) (h : ∀ x, validF x = true → (x ∈ l ↔ x ∈ A)) : ofF l = A := by
  refine pw_uniq (of_pw l) hA.1 fun x => ?_
  rw [of_mem]
  constructor
  · rintro ⟨h1, h2⟩; exact (h x h2).1 h1
  · intro h1; exact ⟨(h x (hA.2 x h1)).2 h1, hA.2 x h1⟩
theorem of_congr {l l' : List Fa} (h : ∀ x, validF x = true → (x ∈ l ↔ x ∈ l')) : ofF l = ofF l' :=
  of_eq (of_canon l') fun x hx => by rw [of_mem, h x hx]; simp [hx]
theorem e1 {A : List Fa} (hA : Canon A) : ofF A = A := of_eq hA fun _ _ => Iff.rfl
theorem e2 (A B : List Fa) : ofF (A ++ B) = ofF (B ++ A) := of_congr fun x _ => by simp [or_comm]
theorem e3 (A B : List Fa) : ofF (A.filter fun f => decide (f ∈ B)) = ofF (B.filter fun f => decide (f ∈ A)) := of_congr fun x _ => by simp [and_comm]
theorem e4 (A B C : List Fa) : ofF (A.filter fun f => decide (f ∈ ofF (B ++ C))) = ofF (ofF (A.filter fun f => decide (f ∈ B)) ++ ofF (A.filter fun f => decide (f ∈ C))) := of_congr fun x hx => by
  simp only [List.mem_filter, List.mem_append, of_mem, decide_eq_true_eq, hx, and_true]
  constructor
  · rintro ⟨h1, h2 | h2⟩
    · exact .inl ⟨h1, h2⟩
    · exact .inr ⟨h1, h2⟩
  · rintro (⟨h1, h2⟩ | ⟨h1, h2⟩)
    · exact ⟨h1, .inl h2⟩
    · exact ⟨h1, .inr h2⟩
theorem e5 (A B C : List Fa) : ofF (A.filter fun f => !decide (f ∈ ofF (B ++ C))) = ofF ((ofF (A.filter fun f => !decide (f ∈ B))).filter fun f => decide (f ∈ ofF (A.filter fun f => !decide (f ∈ C)))) := of_congr fun x hx => by
  simp only [List.mem_filter, List.mem_append, of_mem, decide_eq_true_eq, hx, and_true, Bool.not_eq_true', decide_eq_false_iff_not, not_or]
  constructor
  · rintro ⟨h1, h2, h3⟩; exact ⟨⟨h1, h2⟩, h1, h3⟩
  · rintro ⟨⟨h1, h2⟩, _, h3⟩; exact ⟨h1, h2, h3⟩
theorem e6 {A : List Fa} (hA : Canon A) (B : List Fa) : ofF (ofF (A.filter fun f => !decide (f ∈ B)) ++ ofF (A.filter fun f => decide (f ∈ B))) = A := of_eq hA fun x hx => by
  simp only [List.mem_filter, List.mem_append, of_mem, decide_eq_true_eq, hx, and_true, Bool.not_eq_true', decide_eq_false_iff_not]
  constructor
  · rintro (⟨h1, _⟩ | ⟨h1, _⟩) <;> exact h1
  · intro h; by_cases hb : x ∈ B
    · exact .inr ⟨h, hb⟩
    · exact .inl ⟨h, hb⟩
theorem e7 {A B : List Fa} (hA : Canon A) (hB : Canon B) : (!decide (∃ f ∈ A, f ∉ B)) = decide (ofF (A ++ B) = B) := by
  have : (ofF (A ++ B) = B) ↔ ¬ ∃ f ∈ A, f ∉ B := by
    constructor
    · rintro h ⟨f, hf, hn⟩
      exact hn (h ▸ (of_mem f _).2 ⟨List.mem_append_left _ hf, hA.2 f hf⟩)
    · intro h
      refine of_eq hB fun x hx => ?_
      rw [List.mem_append]
      constructor
      · rintro (h1 | h1)
        · exact Decidable.byContradiction fun hn => h ⟨x, h1, hn⟩
        · exact h1
      · exact .inr
  by_cases h : ∃ f ∈ A, f ∉ B
  · rw [decide_eq_true h, decide_eq_false (fun e => this.1 e h)]; rfl
  · rw [decide_eq_false h, decide_eq_true (this.2 h)]; rfl
theorem e8 {A : List Fa} (hA : Canon A) : ofF (ofF (A.filter fun f => !decide (f ∈ ([] : List Fa))) ++ []) = A := of_eq hA fun x hx => by
  simp [of_mem, hx]
end Vg.G3
namespace Vg.G3
open Go Lg
set_option linter.unusedSimpArgs false
set_option linter.unusedVariables false
set_option maxRecDepth 10000
set_option maxHeartbeats 4000000
attribute [local congr] bind_congr1
attribute [local go_sem] ite_self cloneA cloneC Nat.zero_le mm_max mm_min codeVL_loop keepV_from keepFrom List.contains_cons List.contains_nil codeVL_skip codeVL_exit codeVL_ret codeVL_ops codeVL_dops codeVL_seq codeVL_cond codeVL_block opsV_nil opsV_d opsV_n opsV_g vs_c vs_t nrm nrmL eqE eqL List.replicate List.cons_append List.nil_append List.append_nil List.getD_cons_zero List.getD_cons_succ List.getD_nil List.set_cons_zero List.set_cons_succ Option.bind_some Option.bind_none Option.bind_assoc thenV_norm thenV_exit thenV_ret blockV_norm blockV_exit blockV_ret endV_norm endV_ret backV fz_list fz_int fz_bool fz_str fz_tup fz_agg mapM_cons' mapM_nil' fzN_tup fzN_agg fzN_list fzN_int fzN_bool fzN_str fzN_cptr fzN_nilptr ressV resV oneV ite_bind if_true if_false decide_eq_true_eq Bool.false_eq_true Bool.not_true Bool.not_false Bool.and_true Bool.and_false Bool.true_and Bool.false_and List.all_cons List.all_nil List.length_cons List.length_nil List.map_cons List.map_nil fillV vsplice List.take_succ_cons List.take_zero List.drop_succ_cons List.drop_zero List.drop_nil List.take_nil beq_self_eq_true vbnds Int.toNat_zero Int.toNat_one Nat.zero_add Nat.add_zero Nat.mul_one Nat.one_mul Nat.mul_zero Nat.zero_mul List.getElem?_cons_zero List.getElem?_cons_succ List.getElem?_nil List.getElem?_map Option.map_some Option.map_none List.length_map decide_true decide_false Bool.or_true Bool.or_false Bool.true_or Bool.false_or not_true_eq_false not_false_eq_true true_and and_true false_and and_false true_or or_true false_or or_false ne_eq beq_true Bool.true_beq Bool.false_beq int_beq int_bne nat_beq bool_beq_true bool_beq_false ite_boolV cast_zero cast_one Bool.not_eq_true' Bool.not_eq_false' decide_eq_false_iff_not gt_iff_lt ge_iff_le Nat.le_refl Nat.lt_irrefl Nat.add_sub_cancel Nat.sub_zero Int.toNat_natCast Int.natCast_nonneg Int.cast_ofNat_Int lowL VV.low trim chunk appendV rowsOf Sat_some take_map_len take_len take_set_len succ_ne_zero succ_pos' List.length_set opV_mvF opV_mvT opV_mvs opV_pick opV_alloc opV_box opV_build opV_bslice opV_load opV_store opV_nilchk opV_bin opV_eqv opV_un opV_conv opV_b2s opV_s2b opV_slc opV_fieldAddr opV_field opV_indexAddr opV_indexAddrA opV_index opV_indexA opV_extract opV_lenS opV_lenL opV_lenM opV_lenC opV_min2 opV_max2 opV_append opV_copy opV_make opV_mkmap opV_lookup opV_update opV_mkfunc opV_call opV_callv opV_ext opV_rewr opV_concat opV_capL extE_index1 extE_count1 extE_join argV_str argV_int argV_bool argV_list Option.isNone_none Option.isNone_some opV_stuck strip_mvF strip_mvT strip_mvC strip_mvs strip_pick strip_alloc strip_box strip_build strip_bslice strip_load strip_storeT strip_storeC strip_nilchk strip_bin strip_eqv strip_un strip_conv strip_b2s strip_s2b strip_slc strip_fieldAddr strip_field strip_indexAddr strip_indexAddrA strip_index strip_indexA strip_extract strip_lenS strip_lenL strip_lenM strip_lenC strip_min2 strip_max2 strip_appendT strip_appendC strip_copy strip_make strip_mkmap strip_lookup strip_update strip_mkfunc strip_call strip_callv strip_ext strip_rewr strip_concat strip_capL strip_stuck vr_t vr_c cmpX_t cmpX_c putV_s putV_n ofLV_int ofLV_bool ofLV_str ofLV_nilslice ofLV_nilptr ofLV_nilfunc ofLV_nilmap ofLV_nilif ofLV_agg ofLV_tup ofLV_func ofLVs_nil ofLVs_cons binE_add binE_sub binE_mul binE_eql binE_neq binE_lss binE_leq binE_gtr binE_geq binE_quo binE_rem binE_seql binE_sneq unE_not unE_neg sh_undef ow_undef cells_undef single_undef stV_undef sh_bool ow_bool cells_bool single_bool sc_bool stV_bool cmpV_bool sh_int ow_int cells_int single_int sc_int stV_int cmpV_int sh_str ow_str cells_str single_str sc_str stV_str cmpV_str sh_ptr ow_ptr cells_ptr single_ptr stV_ptr cmpV_ptr sh_cptr ow_cptr cells_cptr single_cptr stV_cptr cmpV_cptr sh_nilptr ow_nilptr cells_nilptr single_nilptr stV_nilptr cmpV_nilptr sh_lists ow_lists cells_lists single_lists stV_lists sh_listf ow_listf cells_listf single_listf stV_listf sh_listo ow_listo cells_listo single_listo stV_listo sh_hs ow_hs cells_hs single_hs stV_hs sh_map ow_map cells_map single_map stV_map cmpV_map sh_nilmap ow_nilmap cells_nilmap single_nilmap stV_nilmap cmpV_nilmap sh_func ow_func cells_func single_func stV_func cmpV_func sh_nilfunc ow_nilfunc cells_nilfunc single_nilfunc stV_nilfunc cmpV_nilfunc sh_iface ow_iface cells_iface single_iface stV_iface cmpV_iface sh_nilif ow_nilif cells_nilif single_nilif stV_nilif cmpV_nilif sh_agg ow_agg cells_agg single_agg stV_agg cmpV_agg sh_tup ow_tup cells_tup single_tup stV_tup cmpV_cons guardV_bool guardV_tup nat_int gantkeep4_FactLaws_r0 gantkeep4_FactLaws_r1 gantkeep4_FactLaws_r2 gantkeep4_FactLaws_r3 gantkeep4_FactLaws_f gantkeep4_FactLaws_v

theorem eq_self_spec (X : List Fa) (hX : X.length ≤ 1000) (lo : Nat) (h : VHeap) : callVL vp lo n_gantkeep4_FactLaws_1 [.list .s (X.map fF), .list .s (X.map fF)] h = some (.bool true, h) := by
  have := eq_spec X X hX hX lo h
  rw [decide_eq_true rfl] at this
  exact this
theorem FactLaws_law (x y z : List Int) : callVL vp 0 n_gantkeep4_FactLaws [.list .s (x.map fun x => [.int .i64 x]), .list .s (y.map fun x => [.int .i64 x]), .list .s (z.map fun x => [.int .i64 x])] [] = some (.bool true, []) := by
  refine call_valE (fn := gantkeep4_FactLaws_v) rfl rfl rfl rfl rfl ?_ 0 []
  obtain ⟨la, hla, hFa⟩ := Facts_spec x
  obtain ⟨lb, hlb, hFb⟩ := Facts_spec y
  obtain ⟨lc, hlc, hFc⟩ := Facts_spec z
  have hOa := Of_spec la (by omega)
  have hOb := Of_spec lb (by omega)
  have hOc := Of_spec lc (by omega)
  have hAl := of_len la
  have hBl := of_len lb
  have hCl := of_len lc
  have cA := of_canon la
  have cB := of_canon lb
  have cC := of_canon lc
  generalize ofF la = A at *
  generalize ofF lb = B at *
  generalize ofF lc = C at *
  have hI := IsSet_spec (by omega) cA.set
  have hO := Of_spec A (by omega)
  rw [e1 cA] at hO
  have hJ1 := Join_spec A B (by omega)
  have hJ2 := Join_spec B A (by omega)
  rw [← e2 A B] at hJ2
  have hM1 := Meet_spec A B (by omega) (by omega)
  have hM2 := Meet_spec B A (by omega) (by omega)
  rw [← e3 A B] at hM2
  have hU := Join_spec B C (by omega)
  have lU := of_len (B ++ C)
  rw [List.length_append] at lU
  have hMU := Meet_spec A (ofF (B ++ C)) (by omega) (by omega)
  have hMC := Meet_spec A C (by omega) (by omega)
  have lM1 := Nat.le_trans (of_len (A.filter fun f => decide (f ∈ B))) (List.length_filter_le _ _)
  have lMC := Nat.le_trans (of_len (A.filter fun f => decide (f ∈ C))) (List.length_filter_le _ _)
  have hJM := Join_spec (ofF (A.filter fun f => decide (f ∈ B))) (ofF (A.filter fun f => decide (f ∈ C))) (by omega)
  rw [← e4 A B C] at hJM
  have hNU := Minus_spec A (ofF (B ++ C)) (by omega) (by omega)
  have hNB := Minus_spec A B (by omega) (by omega)
  have hNC := Minus_spec A C (by omega) (by omega)
  have lNB := Nat.le_trans (of_len (A.filter fun f => !decide (f ∈ B))) (List.length_filter_le _ _)
  have lNC := Nat.le_trans (of_len (A.filter fun f => !decide (f ∈ C))) (List.length_filter_le _ _)
  have hMN := Meet_spec (ofF (A.filter fun f => !decide (f ∈ B))) (ofF (A.filter fun f => !decide (f ∈ C))) (by omega) (by omega)
  rw [← e5 A B C] at hMN
  have hJ3 := Join_spec (ofF (A.filter fun f => !decide (f ∈ B))) (ofF (A.filter fun f => decide (f ∈ B))) (by omega)
  rw [e6 cA B] at hJ3
  have hW := Within_spec A B (by omega) (by omega)
  rw [e7 cA cB] at hW
  have hAp := Apply_spec A [] [] (by omega) (by simp) (by simp)
  rw [e8 cA] at hAp
  simp only [List.map_nil] at hAp
  have lJ1 := of_len (A ++ B)
  rw [List.length_append] at lJ1
  have lMU := Nat.le_trans (of_len (A.filter fun f => decide (f ∈ ofF (B ++ C)))) (List.length_filter_le _ _)
  have lNU := Nat.le_trans (of_len (A.filter fun f => !decide (f ∈ ofF (B ++ C)))) (List.length_filter_le _ _)
  have q1 := eq_self_spec A (by omega)
  have q2 := eq_self_spec (ofF (A ++ B)) (by omega)
  have q3 := eq_self_spec (ofF (A.filter fun f => decide (f ∈ B))) (by omega)
  have q4 := eq_self_spec (ofF (A.filter fun f => decide (f ∈ ofF (B ++ C)))) (by omega)
  have q5 := eq_self_spec (ofF (A.filter fun f => !decide (f ∈ ofF (B ++ C)))) (by omega)
  have q6 := eq_spec (ofF (A ++ B)) B (by omega) (by omega)
  have hfd := facted_spec
  generalize decide (ofF (A ++ B) = B) = D at *
  generalize ofF (A.filter fun f => decide (f ∈ ofF (B ++ C))) = X1 at *
  generalize ofF (A.filter fun f => !decide (f ∈ ofF (B ++ C))) = X2 at *
  generalize ofF (A.filter fun f => decide (f ∈ B)) = X3 at *
  generalize ofF (A.filter fun f => decide (f ∈ C)) = X4 at *
  generalize ofF (A.filter fun f => !decide (f ∈ B)) = X5 at *
  generalize ofF (A.filter fun f => !decide (f ∈ C)) = X6 at *
  generalize ofF (A ++ B) = X7 at *
  generalize ofF (B ++ C) = X8 at *
  obtain ⟨P, hP⟩ : ∃ P : VV → Prop, P = fun w : VV => w = .bool true := ⟨_, rfl⟩
  have hP1 : P (.bool true) := by subst hP; rfl
  have hP2 : (fun r : VV × VHeap => r.1 = .bool true) = fun r => P r.1 := by subst hP; rfl
  rw [hP2]
  clear hP hP2
  simp -implicitDefEqProofs (maxSteps := 4000000) only [go_sem, ↓reduceIte, reduceCtorEq, Int.reduceLT, Int.reduceLE, Int.reduceToNat, Nat.reduceAdd, Nat.reduceMul, Nat.reduceLeDiff, Nat.reduceLT, Nat.reduceSub, Int.reduceNeg, Int.reduceEq, Int.reduceBEq, Int.reduceBNe, Nat.reduceEqDiff, hFa, hFb, hFc, hOa, hOb, hOc, hI, hO, hJ1, hJ2, hM1, hM2, hU, hMU, hMC, hJM, hNU, hNB, hNC, hMN, hJ3, hW, hAp, q1, q2, q3, q4, q5, q6, hfd]
  exact hP1
end Vg.G3
