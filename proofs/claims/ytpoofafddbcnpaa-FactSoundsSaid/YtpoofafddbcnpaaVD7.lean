import Derived.Test.YtpoofafddbcnpaaVD6
namespace Vg.G3
open Go Lg
set_option linter.unusedSimpArgs false
set_option maxRecDepth 10000
set_option maxHeartbeats 2000000
attribute [local congr] bind_congr1
attribute [local go_sem] ite_self cloneA cloneC Nat.zero_le mm_max mm_min codeVL_loop keepV_from keepFrom List.contains_cons List.contains_nil codeVL_skip codeVL_exit codeVL_ret codeVL_ops codeVL_dops codeVL_seq codeVL_cond codeVL_block opsV_nil opsV_d opsV_n opsV_g vs_c vs_t nrm nrmL eqE eqL List.replicate List.cons_append List.nil_append List.append_nil List.getD_cons_zero List.getD_cons_succ List.getD_nil List.set_cons_zero List.set_cons_succ Option.bind_some Option.bind_none Option.bind_assoc thenV_norm thenV_exit thenV_ret blockV_norm blockV_exit blockV_ret endV_norm endV_ret backV fz_list fz_int fz_bool fz_str fz_tup fz_agg mapM_cons' mapM_nil' fzN_tup fzN_agg fzN_list fzN_int fzN_bool fzN_str fzN_cptr fzN_nilptr ressV resV oneV ite_bind if_true if_false decide_eq_true_eq Bool.false_eq_true Bool.not_true Bool.not_false Bool.and_true Bool.and_false Bool.true_and Bool.false_and List.all_cons List.all_nil List.length_cons List.length_nil List.map_cons List.map_nil fillV vsplice List.take_succ_cons List.take_zero List.drop_succ_cons List.drop_zero List.drop_nil List.take_nil beq_self_eq_true vbnds Int.toNat_zero Int.toNat_one Nat.zero_add Nat.add_zero Nat.mul_one Nat.one_mul Nat.mul_zero Nat.zero_mul List.getElem?_cons_zero List.getElem?_cons_succ List.getElem?_nil List.getElem?_map Option.map_some Option.map_none List.length_map decide_true decide_false Bool.or_true Bool.or_false Bool.true_or Bool.false_or not_true_eq_false not_false_eq_true true_and and_true false_and and_false true_or or_true false_or or_false ne_eq beq_true Bool.true_beq Bool.false_beq int_beq int_bne nat_beq bool_beq_true bool_beq_false ite_boolV cast_zero cast_one Bool.not_eq_true' Bool.not_eq_false' decide_eq_false_iff_not gt_iff_lt ge_iff_le Nat.le_refl Nat.lt_irrefl Nat.add_sub_cancel Nat.sub_zero Int.toNat_natCast Int.natCast_nonneg Int.cast_ofNat_Int lowL VV.low trim chunk appendV rowsOf Sat_some take_map_len take_len take_set_len succ_ne_zero succ_pos' List.length_set opV_mvF opV_mvT opV_mvs opV_pick opV_alloc opV_box opV_build opV_bslice opV_load opV_store opV_nilchk opV_bin opV_eqv opV_un opV_conv opV_b2s opV_s2b opV_slc opV_fieldAddr opV_field opV_indexAddr opV_indexAddrA opV_index opV_indexA opV_extract opV_lenS opV_lenL opV_lenM opV_lenC opV_min2 opV_max2 opV_append opV_copy opV_make opV_mkmap opV_lookup opV_update opV_mkfunc opV_call opV_callv opV_ext opV_rewr opV_concat opV_capL extE_index1 extE_count1 extE_join argV_str argV_int argV_bool argV_list Option.isNone_none Option.isNone_some opV_stuck strip_mvF strip_mvT strip_mvC strip_mvs strip_pick strip_alloc strip_box strip_build strip_bslice strip_load strip_storeT strip_storeC strip_nilchk strip_bin strip_eqv strip_un strip_conv strip_b2s strip_s2b strip_slc strip_fieldAddr strip_field strip_indexAddr strip_indexAddrA strip_index strip_indexA strip_extract strip_lenS strip_lenL strip_lenM strip_lenC strip_min2 strip_max2 strip_appendT strip_appendC strip_copy strip_make strip_mkmap strip_lookup strip_update strip_mkfunc strip_call strip_callv strip_ext strip_rewr strip_concat strip_capL strip_stuck vr_t vr_c cmpX_t cmpX_c putV_s putV_n ofLV_int ofLV_bool ofLV_str ofLV_nilslice ofLV_nilptr ofLV_nilfunc ofLV_nilmap ofLV_nilif ofLV_agg ofLV_tup ofLV_func ofLVs_nil ofLVs_cons binE_add binE_sub binE_mul binE_eql binE_neq binE_lss binE_leq binE_gtr binE_geq binE_quo binE_rem binE_seql binE_sneq unE_not unE_neg sh_undef ow_undef cells_undef single_undef stV_undef sh_bool ow_bool cells_bool single_bool sc_bool stV_bool cmpV_bool sh_int ow_int cells_int single_int sc_int stV_int cmpV_int sh_str ow_str cells_str single_str sc_str stV_str cmpV_str sh_ptr ow_ptr cells_ptr single_ptr stV_ptr cmpV_ptr sh_cptr ow_cptr cells_cptr single_cptr stV_cptr cmpV_cptr sh_nilptr ow_nilptr cells_nilptr single_nilptr stV_nilptr cmpV_nilptr sh_lists ow_lists cells_lists single_lists stV_lists sh_listf ow_listf cells_listf single_listf stV_listf sh_listo ow_listo cells_listo single_listo stV_listo sh_hs ow_hs cells_hs single_hs stV_hs sh_map ow_map cells_map single_map stV_map cmpV_map sh_nilmap ow_nilmap cells_nilmap single_nilmap stV_nilmap cmpV_nilmap sh_func ow_func cells_func single_func stV_func cmpV_func sh_nilfunc ow_nilfunc cells_nilfunc single_nilfunc stV_nilfunc cmpV_nilfunc sh_iface ow_iface cells_iface single_iface stV_iface cmpV_iface sh_nilif ow_nilif cells_nilif single_nilif stV_nilif cmpV_nilif sh_agg ow_agg cells_agg single_agg stV_agg cmpV_agg sh_tup ow_tup cells_tup single_tup stV_tup cmpV_cons guardV_bool guardV_tup nat_int slices_Compact_gantryfactFact_r0 slices_Compact_gantryfactFact_r1 slices_Compact_gantryfactFact_r2 slices_Compact_gantryfactFact_r3 slices_Compact_gantryfactFact_r4 slices_Compact_gantryfactFact_r5 slices_Compact_gantryfactFact_r5_d slices_Compact_gantryfactFact_r6 slices_Compact_gantryfactFact_r7 slices_Compact_gantryfactFact_r8 slices_Compact_gantryfactFact_r9 slices_Compact_gantryfactFact_r9_d slices_Compact_gantryfactFact_r10 slices_Compact_gantryfactFact_r11 slices_Compact_gantryfactFact_r12 slices_Compact_gantryfactFact_r13 slices_Compact_gantryfactFact_r14 slices_Compact_gantryfactFact_r15 slices_Compact_gantryfactFact_r16 slices_Compact_gantryfactFact_f slices_Compact_gantryfactFact_v

def zr3 : List LV := [.int .i64 0, .int .i64 0, .int .i64 0]
theorem zrows_len (n : Nat) : (rows zr3 n).length = n * 3 := by rw [rows_length]; rfl
theorem zrows_sc : ∀ n : Nat, (rows zr3 n).all scLV = true
  | 0 => rfl
  | n + 1 => by simp only [rows, List.all_append, zrows_sc n, Bool.and_true]; rfl
theorem Compact_spec {l : List Fa} {n lo : Nat} {h : VHeap} (hl : l.length ≤ 1000) (hne : 1 ≤ l.length) (hlo : lo ≤ n) (hn : h[n]? = some (.cells true (l.map fF).flatten)) :
    ∃ cs, callVL vp lo n_slices_Compact_gantryfactFact [.hs n 0 l.length 3] h = some (.hs n 0 (compactF l).length 3, h.set n (.cells true cs)) ∧ (compactF l).length * 3 ≤ cs.length ∧ cs.take ((compactF l).length * 3) = ((compactF l).map fF).flatten := by
  obtain ⟨P, hP⟩ : ∃ P : VV × VHeap → Prop, P = fun r => ∃ cs, r = (.hs n 0 (compactF l).length 3, h.set n (.cells true cs)) ∧ (compactF l).length * 3 ≤ cs.length ∧ cs.take ((compactF l).length * 3) = ((compactF l).map fF).flatten := ⟨_, rfl⟩
  have key := call_body (p := vp) (lo := lo) (h := h) (f := n_slices_Compact_gantryfactFact) (fn := slices_Compact_gantryfactFact_v) (args := [.hs n 0 l.length 3]) (P := P) rfl (.inr rfl) rfl ?_
  · obtain ⟨r, hr, hp⟩ := key; subst hP; obtain ⟨cs, rfl, hA⟩ := hp; exact ⟨cs, hr, hA⟩
  have hP1 : ∀ cs, (compactF l).length * 3 ≤ cs.length → cs.take ((compactF l).length * 3) = ((compactF l).map fF).flatten → P (.hs n 0 (compactF l).length 3, h.set n (.cells true cs)) := fun cs h1 h2 => by subst hP; exact ⟨cs, rfl, h1, h2⟩
  clear hP
  have hlt := lt_of_some hn
  have hsame : compactF l = l → P (.hs n 0 l.length 3, h) := fun e => by
    have := hP1 (l.map fF).flatten (by rw [e, cells_len]; exact Nat.le_refl _) (by rw [e, ← cells_len, List.take_length])
    rwa [e, set_same hn] at this
  by_cases h2 : (l.length : Int) < 2
  · simp -implicitDefEqProofs only [go_sem, ↓reduceIte, reduceCtorEq, Int.reduceLT, Int.reduceLE, Int.reduceToNat, Nat.reduceAdd, Nat.reduceMul, Nat.reduceLeDiff, Nat.reduceLT, Nat.reduceSub, Int.reduceNeg, Int.reduceEq, Int.reduceBEq, Int.reduceBNe, Nat.reduceEqDiff, h2]
    refine hsame ?_
    match l, hne, h2 with
    | [x], _, _ => rfl
  simp -implicitDefEqProofs only [go_sem, ↓reduceIte, reduceCtorEq, Int.reduceLT, Int.reduceLE, Int.reduceToNat, Nat.reduceAdd, Nat.reduceMul, Nat.reduceLeDiff, Nat.reduceLT, Nat.reduceSub, Int.reduceNeg, Int.reduceEq, Int.reduceBEq, Int.reduceBNe, Nat.reduceEqDiff, h2]
  rw [Sat_bind]
  refine loop_up (I := fun i env h' => h' = h ∧ 1 ≤ i ∧ compactF (l.take i) = l.take i ∧ env = ((.hs n 0 l.length 3 : VV) :: VV.undef :: VV.undef :: (.int .i64 ((i : Nat) : Int) : VV) :: VV.undef :: VV.undef :: VV.undef :: VV.undef :: VV.undef :: VV.undef :: VV.undef :: VV.undef :: VV.undef :: VV.undef :: VV.undef :: VV.undef :: VV.undef :: VV.undef :: VV.undef :: VV.undef :: VV.undef :: VV.undef :: VV.undef :: VV.undef :: VV.undef :: VV.undef :: VV.undef :: VV.undef :: VV.undef :: VV.undef :: VV.undef :: VV.undef :: VV.undef :: VV.undef :: VV.undef :: VV.undef :: VV.undef :: VV.undef :: VV.undef :: VV.undef :: VV.undef :: VV.undef :: VV.undef :: VV.undef :: VV.undef :: VV.undef :: VV.undef :: VV.undef :: VV.undef :: VV.undef :: VV.undef :: VV.undef :: VV.undef :: VV.undef :: VV.undef :: VV.undef :: VV.undef :: VV.undef :: VV.undef :: VV.undef :: VV.undef :: [])) l.length ?_ ?_ (i := 1) hne ⟨rfl, Nat.le_refl 1, ?_, by simp -implicitDefEqProofs only [go_sem, ↓reduceIte, reduceCtorEq, Int.reduceLT, Int.reduceLE, Int.reduceToNat, Nat.reduceAdd, Nat.reduceMul, Nat.reduceLeDiff, Nat.reduceLT, Nat.reduceSub, Int.reduceNeg, Int.reduceEq, Int.reduceBEq, Int.reduceBNe, Nat.reduceEqDiff]⟩
  · rintro i env h' hi ⟨rfl, hi1, hd, rfl⟩
    obtain ⟨x, hx⟩ := get_some hi
    obtain ⟨y, hy⟩ := get_some (show i - 1 < l.length by omega)
    have hi' : (i : Int) < (l.length : Int) := by omega
    have hi2 : i - 1 < l.length := by omega
    have hw := wrap_succ (i := i) (by omega)
    have hw1 : IntKind.i64.wrap ((i : Int) - 1) = ((i - 1 : Nat) : Int) := by rw [wrap_id (by omega) (by omega)]; omega
    have r1 := row_at hx
    have r2 := row_at hy
    have hcells := cells_len l
    have b1 : i * 3 + 3 ≤ (l.map fF).flatten.length := by omega
    have b2 : (i - 1) * 3 + 3 ≤ (l.map fF).flatten.length := by omega
    have hcs := compact_step hi1 hx hy
    have next : x ≠ y → compactF (l.take (i + 1)) = l.take (i + 1) := fun e => by
      rw [hcs, if_neg e, hd, take_succ_map hx]
    by_cases e1 : x.k = y.k
    · by_cases e2 : x.a = y.a
      · by_cases e3 : x.b = y.b
        · have e : x = y := by cases x; cases y; simp at e1 e2 e3; simp [e1, e2, e3]
          have hle : i ≤ l.length := by omega
          simp -implicitDefEqProofs only [slices_Compact_gantryfactFact_b0, go_sem, ↓reduceIte, reduceCtorEq, Int.reduceLT, Int.reduceLE, Int.reduceToNat, Nat.reduceAdd, Nat.reduceMul, Nat.reduceLeDiff, Nat.reduceLT, Nat.reduceSub, Int.reduceNeg, Int.reduceEq, Int.reduceBEq, Int.reduceBNe, Nat.reduceEqDiff, hi, hi', hi2, hn, r1, r2, b1, b2, hw1, e1, e2, e3, hle]
          rw [Sat_bind]
          refine Compact_in hi hi1 hl hlo hn hd (by rw [hcs, if_pos e, List.append_nil]) _ ?_
          intro cur k hcl hk htk hkl
          have hget : ∀ A : VBlk, (h'.set n A)[n]? = some A := fun A => List.getElem?_set_self hlt
          have hset2 : ∀ A B : VBlk, (h'.set n A).set n B = h'.set n B := fun A B => List.set_set ..
          have hk1 : k ≤ l.length := by omega
          have hk0 : ¬ (l.length - k = 0) := by omega
          have hcc := cells_len cur
          have b3 : k * 3 + (l.length - k) * 3 ≤ (cur.map fF).flatten.length := by omega
          have hz1 := zrows_len (l.length - k)
          have hz2 := zrows_sc (l.length - k)
          have hrw : rwE (.clear [.int .i64 0, .int .i64 0, .int .i64 0]) (l.length - k) (((cur.map fF).flatten.drop (k * 3)).take ((l.length - k) * 3) |>.map VV.sc) = some (rows zr3 (l.length - k)) := rfl
          simp -implicitDefEqProofs only [slices_Compact_gantryfactFact_b0, go_sem, ↓reduceIte, reduceCtorEq, Int.reduceLT, Int.reduceLE, Int.reduceToNat, Nat.reduceAdd, Nat.reduceMul, Nat.reduceLeDiff, Nat.reduceLT, Nat.reduceSub, Int.reduceNeg, Int.reduceEq, Int.reduceBEq, Int.reduceBNe, Nat.reduceEqDiff, hget, hset2, hk1, hk0, b3, hrw, hz1, hz2, hlo]
          rw [hk]
          refine hP1 _ ?_ ?_
          · simp only [List.length_append, List.length_take, List.length_drop, ← hk]
            omega
          · rw [← hk, List.append_assoc, List.take_append_of_le_length (by rw [List.length_take]; omega), List.take_take, Nat.min_self, ← htk, flat_take _ _ (flen fF_len cur), List.map_take]
        · simp -implicitDefEqProofs only [slices_Compact_gantryfactFact_b0, go_sem, ↓reduceIte, reduceCtorEq, Int.reduceLT, Int.reduceLE, Int.reduceToNat, Nat.reduceAdd, Nat.reduceMul, Nat.reduceLeDiff, Nat.reduceLT, Nat.reduceSub, Int.reduceNeg, Int.reduceEq, Int.reduceBEq, Int.reduceBNe, Nat.reduceEqDiff, hi, hi', hi2, hn, r1, r2, b1, b2, hw, hw1, e1, e2, e3]
          exact next fun e => e3 (by rw [e])
      · simp -implicitDefEqProofs only [slices_Compact_gantryfactFact_b0, go_sem, ↓reduceIte, reduceCtorEq, Int.reduceLT, Int.reduceLE, Int.reduceToNat, Nat.reduceAdd, Nat.reduceMul, Nat.reduceLeDiff, Nat.reduceLT, Nat.reduceSub, Int.reduceNeg, Int.reduceEq, Int.reduceBEq, Int.reduceBNe, Nat.reduceEqDiff, hi, hi', hi2, hn, r1, r2, b1, b2, hw, hw1, e1, e2]
        exact next fun e => e2 (by rw [e])
    · simp -implicitDefEqProofs only [slices_Compact_gantryfactFact_b0, go_sem, ↓reduceIte, reduceCtorEq, Int.reduceLT, Int.reduceLE, Int.reduceToNat, Nat.reduceAdd, Nat.reduceMul, Nat.reduceLeDiff, Nat.reduceLT, Nat.reduceSub, Int.reduceNeg, Int.reduceEq, Int.reduceBEq, Int.reduceBNe, Nat.reduceEqDiff, hi, hi', hi2, hn, r1, r2, b1, b2, hw, hw1, e1]
      exact next fun e => e1 (by rw [e])
  · rintro env h' ⟨rfl, hi1, hd, rfl⟩
    simp -implicitDefEqProofs only [slices_Compact_gantryfactFact_b0, go_sem, ↓reduceIte, reduceCtorEq, Int.reduceLT, Int.reduceLE, Int.reduceToNat, Nat.reduceAdd, Nat.reduceMul, Nat.reduceLeDiff, Nat.reduceLT, Nat.reduceSub, Int.reduceNeg, Int.reduceEq, Int.reduceBEq, Int.reduceBNe, Nat.reduceEqDiff, Int.lt_irrefl]
    rw [List.take_length] at hd
    exact hsame hd
  · match l, hne with
    | x :: r, _ => rfl
end Vg.G3
