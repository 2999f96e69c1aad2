import Derived.Test.YtpoofafddbcnpaaVD1
namespace Vg.G3
open Go Lg
set_option linter.unusedSimpArgs false
set_option maxRecDepth 10000
set_option maxHeartbeats 2000000
attribute [local congr] bind_congr1
attribute [local go_sem] ite_self cloneA cloneC Nat.zero_le mm_max mm_min codeVL_loop keepV_from keepFrom List.contains_cons List.contains_nil codeVL_skip codeVL_exit codeVL_ret codeVL_ops codeVL_dops codeVL_seq codeVL_cond codeVL_block opsV_nil opsV_d opsV_n opsV_g vs_c vs_t nrm nrmL eqE eqL List.replicate List.cons_append List.nil_append List.append_nil List.getD_cons_zero List.getD_cons_succ List.getD_nil List.set_cons_zero List.set_cons_succ Option.bind_some Option.bind_none Option.bind_assoc thenV_norm thenV_exit thenV_ret blockV_norm blockV_exit blockV_ret endV_norm endV_ret backV fz_list fz_int fz_bool fz_str fz_tup fz_agg mapM_cons' mapM_nil' fzN_tup fzN_agg fzN_list fzN_int fzN_bool fzN_str fzN_cptr fzN_nilptr ressV resV oneV ite_bind if_true if_false decide_eq_true_eq Bool.false_eq_true Bool.not_true Bool.not_false Bool.and_true Bool.and_false Bool.true_and Bool.false_and List.all_cons List.all_nil List.length_cons List.length_nil List.map_cons List.map_nil fillV vsplice List.take_succ_cons List.take_zero List.drop_succ_cons List.drop_zero List.drop_nil List.take_nil beq_self_eq_true vbnds Int.toNat_zero Int.toNat_one Nat.zero_add Nat.add_zero Nat.mul_one Nat.one_mul Nat.mul_zero Nat.zero_mul List.getElem?_cons_zero List.getElem?_cons_succ List.getElem?_nil List.getElem?_map Option.map_some Option.map_none List.length_map decide_true decide_false Bool.or_true Bool.or_false Bool.true_or Bool.false_or not_true_eq_false not_false_eq_true true_and and_true false_and and_false true_or or_true false_or or_false ne_eq beq_true Bool.true_beq Bool.false_beq int_beq int_bne nat_beq bool_beq_true bool_beq_false ite_boolV cast_zero cast_one Bool.not_eq_true' Bool.not_eq_false' decide_eq_false_iff_not gt_iff_lt ge_iff_le Nat.le_refl Nat.lt_irrefl Nat.add_sub_cancel Nat.sub_zero Int.toNat_natCast Int.natCast_nonneg Int.cast_ofNat_Int lowL VV.low trim chunk appendV rowsOf Sat_some take_map_len take_len take_set_len succ_ne_zero succ_pos' List.length_set opV_mvF opV_mvT opV_mvs opV_pick opV_alloc opV_box opV_build opV_bslice opV_load opV_store opV_nilchk opV_bin opV_eqv opV_un opV_conv opV_b2s opV_s2b opV_slc opV_fieldAddr opV_field opV_indexAddr opV_indexAddrA opV_index opV_indexA opV_extract opV_lenS opV_lenL opV_lenM opV_lenC opV_min2 opV_max2 opV_append opV_copy opV_make opV_mkmap opV_lookup opV_update opV_mkfunc opV_call opV_callv opV_ext opV_rewr opV_concat opV_capL extE_index1 extE_count1 extE_join argV_str argV_int argV_bool argV_list Option.isNone_none Option.isNone_some opV_stuck strip_mvF strip_mvT strip_mvC strip_mvs strip_pick strip_alloc strip_box strip_build strip_bslice strip_load strip_storeT strip_storeC strip_nilchk strip_bin strip_eqv strip_un strip_conv strip_b2s strip_s2b strip_slc strip_fieldAddr strip_field strip_indexAddr strip_indexAddrA strip_index strip_indexA strip_extract strip_lenS strip_lenL strip_lenM strip_lenC strip_min2 strip_max2 strip_appendT strip_appendC strip_copy strip_make strip_mkmap strip_lookup strip_update strip_mkfunc strip_call strip_callv strip_ext strip_rewr strip_concat strip_capL strip_stuck vr_t vr_c cmpX_t cmpX_c putV_s putV_n ofLV_int ofLV_bool ofLV_str ofLV_nilslice ofLV_nilptr ofLV_nilfunc ofLV_nilmap ofLV_nilif ofLV_agg ofLV_tup ofLV_func ofLVs_nil ofLVs_cons binE_add binE_sub binE_mul binE_eql binE_neq binE_lss binE_leq binE_gtr binE_geq binE_quo binE_rem binE_seql binE_sneq unE_not unE_neg sh_undef ow_undef cells_undef single_undef stV_undef sh_bool ow_bool cells_bool single_bool sc_bool stV_bool cmpV_bool sh_int ow_int cells_int single_int sc_int stV_int cmpV_int sh_str ow_str cells_str single_str sc_str stV_str cmpV_str sh_ptr ow_ptr cells_ptr single_ptr stV_ptr cmpV_ptr sh_cptr ow_cptr cells_cptr single_cptr stV_cptr cmpV_cptr sh_nilptr ow_nilptr cells_nilptr single_nilptr stV_nilptr cmpV_nilptr sh_lists ow_lists cells_lists single_lists stV_lists sh_listf ow_listf cells_listf single_listf stV_listf sh_listo ow_listo cells_listo single_listo stV_listo sh_hs ow_hs cells_hs single_hs stV_hs sh_map ow_map cells_map single_map stV_map cmpV_map sh_nilmap ow_nilmap cells_nilmap single_nilmap stV_nilmap cmpV_nilmap sh_func ow_func cells_func single_func stV_func cmpV_func sh_nilfunc ow_nilfunc cells_nilfunc single_nilfunc stV_nilfunc cmpV_nilfunc sh_iface ow_iface cells_iface single_iface stV_iface cmpV_iface sh_nilif ow_nilif cells_nilif single_nilif stV_nilif cmpV_nilif sh_agg ow_agg cells_agg single_agg stV_agg cmpV_agg sh_tup ow_tup cells_tup single_tup stV_tup cmpV_cons guardV_bool guardV_tup nat_int slices_Index_gantryfactFact_r0 slices_Index_gantryfactFact_r1 slices_Index_gantryfactFact_r2 slices_Index_gantryfactFact_r3 slices_Index_gantryfactFact_r4 slices_Index_gantryfactFact_r4_d slices_Index_gantryfactFact_r5 slices_Index_gantryfactFact_r6 slices_Index_gantryfactFact_r7 slices_Index_gantryfactFact_f slices_Index_gantryfactFact_v slices_Contains_gantryfactFact_r0 slices_Contains_gantryfactFact_r1 slices_Contains_gantryfactFact_f slices_Contains_gantryfactFact_v fact_Has_r0 fact_Has_r1 fact_Has_f fact_Has_v

theorem Index_spec (l : List Fa) (f : Fa) (hl : l.length ≤ 100000) (lo : Nat) (h : VHeap) : ∃ n : Int, (0 ≤ n ↔ f ∈ l) ∧ callVL vp lo n_slices_Index_gantryfactFact [.list .s (l.map fF), .agg (fF f)] h = some (.int .i64 n, h) := by
  obtain ⟨P, hP⟩ : ∃ P : VV → Prop, P = fun w : VV => ∃ n : Int, (0 ≤ n ↔ f ∈ l) ∧ w = .int .i64 n := ⟨_, rfl⟩
  have key := call_val (p := vp) (f := n_slices_Index_gantryfactFact) (fn := slices_Index_gantryfactFact_v) (args := [.list .s (l.map fF), .agg (fF f)]) (P := P) rfl rfl rfl rfl rfl ?_
  · obtain ⟨v, hv, hc⟩ := key; subst hP; obtain ⟨n, hn, rfl⟩ := hv; exact ⟨n, hn, hc lo h⟩
  have hP1 : ∀ n : Int, (0 ≤ n ↔ f ∈ l) → P (.int .i64 n) := fun n hn => by subst hP; exact ⟨n, hn, rfl⟩
  clear hP
  simp -implicitDefEqProofs only [go_sem, ↓reduceIte, reduceCtorEq, Int.reduceLT, Int.reduceLE, Int.reduceToNat, Nat.reduceAdd, Nat.reduceMul, Nat.reduceLeDiff, Nat.reduceLT, Nat.reduceSub, Int.reduceNeg, Int.reduceEq, Int.reduceBEq, Int.reduceBNe, Nat.reduceEqDiff, fF]
  rw [Sat_bind]
  refine loop_up (I := fun i env h' => h' = [.cells true [.int .i64 f.k, .int .i64 f.a, .int .i64 f.b]] ∧ (∀ j g, j < i → l[j]? = some g → g ≠ f) ∧ env = [.list .s (l.map fF), .undef, .undef, .ptr 0 0, .undef, .undef, .undef, .int .i64 ((l.length : Nat) : Int), .int .i64 ((i : Nat) : Int), .undef, .undef, .undef, .undef, .undef, .undef, .undef, .undef, .undef, .undef]) l.length ?_ ?_ (Nat.zero_le _) ⟨rfl, fun j g hj => absurd hj (Nat.not_lt_zero j), by simp -implicitDefEqProofs only [go_sem, ↓reduceIte, reduceCtorEq, Int.reduceLT, Int.reduceLE, Int.reduceToNat, Nat.reduceAdd, Nat.reduceMul, Nat.reduceLeDiff, Nat.reduceLT, Nat.reduceSub, Int.reduceNeg, Int.reduceEq, Int.reduceBEq, Int.reduceBNe, Nat.reduceEqDiff]⟩
  · rintro i env h' hi ⟨rfl, hA, rfl⟩
    obtain ⟨x, hx⟩ := get_some hi
    have hi' : (i : Int) < (l.length : Int) := by omega
    have hw := wrap_succ (i := i) (by omega)
    have hg := get_map (F := fF) hx
    simp only [fF] at hg
    have next : x ≠ f → ∀ j g, j < i + 1 → l[j]? = some g → g ≠ f := fun hne j g hj hjg => by
      rcases Nat.lt_succ_iff_lt_or_eq.1 hj with hj | rfl
      · exact hA j g hj hjg
      · rw [hx] at hjg; cases hjg; exact hne
    by_cases e1 : f.k = x.k
    · by_cases e2 : f.a = x.a
      · by_cases e3 : f.b = x.b
        · simp -implicitDefEqProofs only [slices_Index_gantryfactFact_b0, go_sem, ↓reduceIte, reduceCtorEq, Int.reduceLT, Int.reduceLE, Int.reduceToNat, Nat.reduceAdd, Nat.reduceMul, Nat.reduceLeDiff, Nat.reduceLT, Nat.reduceSub, Int.reduceNeg, Int.reduceEq, Int.reduceBEq, Int.reduceBNe, Nat.reduceEqDiff, hi', hg, hw, e1, e2, e3]
          have hfx : x = f := by cases x; cases f; simp at e1 e2 e3; simp [e1, e2, e3]
          exact hP1 i ⟨fun _ => hfx ▸ List.mem_of_getElem? hx, fun _ => by omega⟩
        · simp -implicitDefEqProofs only [slices_Index_gantryfactFact_b0, go_sem, ↓reduceIte, reduceCtorEq, Int.reduceLT, Int.reduceLE, Int.reduceToNat, Nat.reduceAdd, Nat.reduceMul, Nat.reduceLeDiff, Nat.reduceLT, Nat.reduceSub, Int.reduceNeg, Int.reduceEq, Int.reduceBEq, Int.reduceBNe, Nat.reduceEqDiff, hi', hg, hw, e1, e2, e3]
          exact next fun h => e3 (by rw [h])
      · simp -implicitDefEqProofs only [slices_Index_gantryfactFact_b0, go_sem, ↓reduceIte, reduceCtorEq, Int.reduceLT, Int.reduceLE, Int.reduceToNat, Nat.reduceAdd, Nat.reduceMul, Nat.reduceLeDiff, Nat.reduceLT, Nat.reduceSub, Int.reduceNeg, Int.reduceEq, Int.reduceBEq, Int.reduceBNe, Nat.reduceEqDiff, hi', hg, hw, e1, e2]
        exact next fun h => e2 (by rw [h])
    · simp -implicitDefEqProofs only [slices_Index_gantryfactFact_b0, go_sem, ↓reduceIte, reduceCtorEq, Int.reduceLT, Int.reduceLE, Int.reduceToNat, Nat.reduceAdd, Nat.reduceMul, Nat.reduceLeDiff, Nat.reduceLT, Nat.reduceSub, Int.reduceNeg, Int.reduceEq, Int.reduceBEq, Int.reduceBNe, Nat.reduceEqDiff, hi', hg, hw, e1]
      exact next fun h => e1 (by rw [h])
  · rintro env h' ⟨rfl, hA, rfl⟩
    simp -implicitDefEqProofs only [slices_Index_gantryfactFact_b0, go_sem, ↓reduceIte, reduceCtorEq, Int.reduceLT, Int.reduceLE, Int.reduceToNat, Nat.reduceAdd, Nat.reduceMul, Nat.reduceLeDiff, Nat.reduceLT, Nat.reduceSub, Int.reduceNeg, Int.reduceEq, Int.reduceBEq, Int.reduceBNe, Nat.reduceEqDiff, Int.lt_irrefl]
    refine hP1 (-1) ⟨fun h => absurd h (by decide), fun h => ?_⟩
    obtain ⟨j, hj⟩ := List.mem_iff_getElem?.1 h
    exact absurd rfl (hA j f (lt_of_getElem? hj) hj)
theorem Contains_spec (l : List Fa) (f : Fa) (hl : l.length ≤ 100000) (lo : Nat) (h : VHeap) : callVL vp lo n_slices_Contains_gantryfactFact [.list .s (l.map fF), .agg (fF f)] h = some (.bool (decide (f ∈ l)), h) := by
  refine call_valE (fn := slices_Contains_gantryfactFact_v) rfl rfl rfl rfl rfl ?_ lo h
  obtain ⟨n, hn, hI⟩ := Index_spec l f hl 0 [.cells true (fF f)]
  simp only [fF] at hI
  by_cases h0 : 0 ≤ n
  · simp -implicitDefEqProofs only [go_sem, ↓reduceIte, reduceCtorEq, Int.reduceLT, Int.reduceLE, Int.reduceToNat, Nat.reduceAdd, Nat.reduceMul, Nat.reduceLeDiff, Nat.reduceLT, Nat.reduceSub, Int.reduceNeg, Int.reduceEq, Int.reduceBEq, Int.reduceBNe, Nat.reduceEqDiff, fF, hI, h0, hn.1 h0]
  · have : ¬ f ∈ l := fun h => h0 (hn.2 h)
    simp -implicitDefEqProofs only [go_sem, ↓reduceIte, reduceCtorEq, Int.reduceLT, Int.reduceLE, Int.reduceToNat, Nat.reduceAdd, Nat.reduceMul, Nat.reduceLeDiff, Nat.reduceLT, Nat.reduceSub, Int.reduceNeg, Int.reduceEq, Int.reduceBEq, Int.reduceBNe, Nat.reduceEqDiff, fF, hI, h0, this]
theorem Has_spec (l : List Fa) (f : Fa) (hl : l.length ≤ 100000) (lo : Nat) (h : VHeap) : callVL vp lo n_fact_Has [.list .s (l.map fF), .agg (fF f)] h = some (.bool (decide (f ∈ l)), h) := by
  refine call_valE (fn := fact_Has_v) rfl rfl rfl rfl rfl ?_ lo h
  have hI := Contains_spec l f hl
  simp only [fF] at hI
  simp -implicitDefEqProofs only [go_sem, ↓reduceIte, reduceCtorEq, Int.reduceLT, Int.reduceLE, Int.reduceToNat, Nat.reduceAdd, Nat.reduceMul, Nat.reduceLeDiff, Nat.reduceLT, Nat.reduceSub, Int.reduceNeg, Int.reduceEq, Int.reduceBEq, Int.reduceBNe, Nat.reduceEqDiff, fF, hI]

/-- Two facts clash; the first kind is not the greater one. -/
def core (f g : Fa) : Bool :=
  if (f.k = 1 ∧ g.k = 1) ∨ (f.k = 2 ∧ g.k = 2) ∨ (f.k = 6 ∧ g.k = 6) then decide (f.a = g.a) || decide (f.b = g.b)
  else if f.k = 1 ∧ g.k = 2 then decide (f.a = g.b)
  else if f.k = 1 ∧ g.k = 4 then decide (f.b = g.a)
  else if f.k = 2 ∧ g.k = 3 then decide (f.a = g.a)
  else false
def clashF (f g : Fa) : Bool := if validF f = true ∧ validF g = true ∧ f ≠ g then (if g.k < f.k then core g f else core f g) else false
theorem core_symm {f g : Fa} (h : f.k = g.k) : core f g = core g f := by
  unfold core
  rw [h]
  have e1 : decide (f.a = g.a) = decide (g.a = f.a) := by by_cases h : f.a = g.a <;> simp [h, eq_comm]
  have e2 : decide (f.b = g.b) = decide (g.b = f.b) := by by_cases h : f.b = g.b <;> simp [h, eq_comm]
  rw [e1, e2]
  split
  · rfl
  · split
    · omega
    · split
      · omega
      · split
        · omega
        · rfl
theorem clash_symm (f g : Fa) : clashF f g = clashF g f := by
  unfold clashF
  by_cases h : validF f = true ∧ validF g = true ∧ f ≠ g
  · have h' : validF g = true ∧ validF f = true ∧ g ≠ f := ⟨h.2.1, h.1, fun e => h.2.2 e.symm⟩
    rw [if_pos h, if_pos (c := validF g = true ∧ validF f = true ∧ g ≠ f) h']
    rcases Int.lt_trichotomy f.k g.k with h1 | h1 | h1
    · rw [if_neg (by omega), if_pos h1]
    · rw [if_neg (by omega), if_neg (by omega)]; exact core_symm h1
    · rw [if_pos h1, if_neg (by omega)]
  · rw [if_neg h, if_neg fun h' => h ⟨h'.2.1, h'.1, fun e => h'.2.2 e.symm⟩]
theorem clash_self (f : Fa) : clashF f f = false := by unfold clashF; rw [if_neg fun h => h.2.2 rfl]
end Vg.G3
