import Derived.Test.YtiidghpdgkfncaaVB6
import Derived.Test.YtiidghpdgkfncaaVBW
namespace Vg.G2
open Go Lg
set_option linter.unusedSimpArgs false
set_option maxRecDepth 10000
set_option maxHeartbeats 1000000
attribute [local congr] bind_congr1
attribute [local go_sem] ite_self cloneA cloneC Nat.zero_le mm_max mm_min codeVL_loop keepV_from keepFrom List.contains_cons List.contains_nil codeVL_skip codeVL_exit codeVL_ret codeVL_ops codeVL_dops codeVL_seq codeVL_cond codeVL_block opsV_nil opsV_d opsV_n opsV_g vs_c vs_t nrm nrmL eqE eqL List.replicate List.cons_append List.nil_append List.append_nil List.getD_cons_zero List.getD_cons_succ List.getD_nil List.set_cons_zero List.set_cons_succ Option.bind_some Option.bind_none Option.bind_assoc thenV_norm thenV_exit thenV_ret blockV_norm blockV_exit blockV_ret endV_norm endV_ret backV fz_list fz_int fz_bool fz_str fz_tup fz_agg mapM_cons' mapM_nil' fzN_tup fzN_agg fzN_list fzN_int fzN_bool fzN_str fzN_cptr fzN_nilptr ressV resV oneV ite_bind if_true if_false decide_eq_true_eq Bool.false_eq_true Bool.not_true Bool.not_false Bool.and_true Bool.and_false Bool.true_and Bool.false_and List.all_cons List.all_nil List.length_cons List.length_nil List.map_cons List.map_nil fillV vsplice List.take_succ_cons List.take_zero List.drop_succ_cons List.drop_zero List.drop_nil List.take_nil beq_self_eq_true vbnds Int.toNat_zero Int.toNat_one Nat.zero_add Nat.add_zero Nat.mul_one Nat.one_mul Nat.mul_zero Nat.zero_mul List.getElem?_cons_zero List.getElem?_cons_succ List.getElem?_nil List.getElem?_map Option.map_some Option.map_none List.length_map decide_true decide_false Bool.or_true Bool.or_false Bool.true_or Bool.false_or not_true_eq_false not_false_eq_true true_and and_true false_and and_false true_or or_true false_or or_false ne_eq beq_true Bool.true_beq Bool.false_beq int_beq int_bne nat_beq bool_beq_true bool_beq_false ite_boolV cast_zero cast_one Bool.not_eq_true' Bool.not_eq_false' decide_eq_false_iff_not gt_iff_lt ge_iff_le Nat.le_refl Nat.lt_irrefl Nat.add_sub_cancel Nat.sub_zero Int.toNat_natCast Int.natCast_nonneg Int.cast_ofNat_Int lowL VV.low trim chunk appendV rowsOf Sat_some take_map_len take_len take_set_len succ_ne_zero succ_pos' List.length_set opV_mvF opV_mvT opV_mvs opV_pick opV_alloc opV_box opV_build opV_bslice opV_load opV_store opV_nilchk opV_bin opV_eqv opV_un opV_conv opV_b2s opV_s2b opV_slc opV_fieldAddr opV_field opV_indexAddr opV_indexAddrA opV_index opV_indexA opV_extract opV_lenS opV_lenL opV_lenM opV_lenC opV_min2 opV_max2 opV_append opV_copy opV_make opV_mkmap opV_lookup opV_update opV_mkfunc opV_call opV_callv opV_ext extE_index1 extE_count1 extE_join argV_str argV_int argV_bool argV_list Option.isNone_none Option.isNone_some opV_stuck strip_mvF strip_mvT strip_mvC strip_mvs strip_pick strip_alloc strip_box strip_build strip_bslice strip_load strip_storeT strip_storeC strip_nilchk strip_bin strip_eqv strip_un strip_conv strip_b2s strip_s2b strip_slc strip_fieldAddr strip_field strip_indexAddr strip_indexAddrA strip_index strip_indexA strip_extract strip_lenS strip_lenL strip_lenM strip_lenC strip_min2 strip_max2 strip_appendT strip_appendC strip_copy strip_make strip_mkmap strip_lookup strip_update strip_mkfunc strip_call strip_callv strip_ext strip_stuck vr_t vr_c cmpX_t cmpX_c putV_s putV_n ofLV_int ofLV_bool ofLV_str ofLV_nilslice ofLV_nilptr ofLV_nilfunc ofLV_nilmap ofLV_nilif ofLV_agg ofLV_tup ofLV_func ofLVs_nil ofLVs_cons binE_add binE_sub binE_mul binE_eql binE_neq binE_lss binE_leq binE_gtr binE_geq binE_quo binE_rem binE_seql binE_sneq unE_not unE_neg sh_undef ow_undef cells_undef single_undef stV_undef sh_bool ow_bool cells_bool single_bool sc_bool stV_bool cmpV_bool sh_int ow_int cells_int single_int sc_int stV_int cmpV_int sh_str ow_str cells_str single_str sc_str stV_str cmpV_str sh_ptr ow_ptr cells_ptr single_ptr stV_ptr cmpV_ptr sh_cptr ow_cptr cells_cptr single_cptr stV_cptr cmpV_cptr sh_nilptr ow_nilptr cells_nilptr single_nilptr stV_nilptr cmpV_nilptr sh_lists ow_lists cells_lists single_lists stV_lists sh_listf ow_listf cells_listf single_listf stV_listf sh_listo ow_listo cells_listo single_listo stV_listo sh_hs ow_hs cells_hs single_hs stV_hs sh_map ow_map cells_map single_map stV_map cmpV_map sh_nilmap ow_nilmap cells_nilmap single_nilmap stV_nilmap cmpV_nilmap sh_func ow_func cells_func single_func stV_func cmpV_func sh_nilfunc ow_nilfunc cells_nilfunc single_nilfunc stV_nilfunc cmpV_nilfunc sh_iface ow_iface cells_iface single_iface stV_iface cmpV_iface sh_nilif ow_nilif cells_nilif single_nilif stV_nilif cmpV_nilif sh_agg ow_agg cells_agg single_agg stV_agg cmpV_agg sh_tup ow_tup cells_tup single_tup stV_tup cmpV_cons guardV_bool guardV_tup nat_int word_Valid_r0 word_Valid_r1 word_Valid_r2 word_Valid_r3 word_Valid_r4 word_Valid_r5 word_Valid_r6 word_Valid_r7 word_Valid_r8 word_Valid_f word_Valid_v slices_Equal_gantrywordWord_r0 slices_Equal_gantrywordWord_r1 slices_Equal_gantrywordWord_r2 slices_Equal_gantrywordWord_r3 slices_Equal_gantrywordWord_r4 slices_Equal_gantrywordWord_r5 slices_Equal_gantrywordWord_r6 slices_Equal_gantrywordWord_r6_d slices_Equal_gantrywordWord_r7 slices_Equal_gantrywordWord_r8 slices_Equal_gantrywordWord_r9 slices_Equal_gantrywordWord_f slices_Equal_gantrywordWord_v strings_Join_f strings_Join_v word_Text_r0 word_Text_r1 word_Text_r2 word_Text_r3 word_Text_r4 word_Text_r5 word_Text_r6 word_Text_r7 word_Text_r8 word_Text_r9 word_Text_r10 word_Text_r11 word_Text_r12 word_Text_f word_Text_v gantkeep4_WordBack_r0 gantkeep4_WordBack_r1 gantkeep4_WordBack_r2 gantkeep4_WordBack_r3 gantkeep4_WordBack_r4 gantkeep4_WordBack_r5 gantkeep4_WordBack_r6 gantkeep4_WordBack_r7 gantkeep4_WordBack_r8 gantkeep4_WordBack_f gantkeep4_WordBack_v

theorem Valid_spec (w : Wd) (hw : wordOK w) (hl : w.text.length ≤ 4096) (lo : Nat) (h : VHeap) : callVL vp lo n_word_Valid [.agg (fW w)] h = some (.bool true, h) := by
  obtain ⟨_, _, hk⟩ := hw
  obtain ⟨k, a, t⟩ := w
  refine call_valE (fn := word_Valid_v) rfl rfl rfl rfl rfl ?_ lo h
  have hN := IsName_spec t hl
  have hM := IsNumber_spec t hl
  simp only at hk
  rcases hk with ⟨rfl, h1⟩ | ⟨rfl, h1⟩ | ⟨rfl, c, rfl, h1⟩
  · simp -implicitDefEqProofs only [go_sem, ↓reduceIte, reduceCtorEq, Int.reduceLT, Int.reduceLE, Int.reduceToNat, Nat.reduceAdd, Nat.reduceMul, Nat.reduceLeDiff, Nat.reduceLT, Nat.reduceSub, Int.reduceNeg, Int.reduceEq, Int.reduceBEq, Int.reduceBNe, Nat.reduceEqDiff, fW, hN, h1]
  · simp -implicitDefEqProofs only [go_sem, ↓reduceIte, reduceCtorEq, Int.reduceLT, Int.reduceLE, Int.reduceToNat, Nat.reduceAdd, Nat.reduceMul, Nat.reduceLeDiff, Nat.reduceLT, Nat.reduceSub, Int.reduceNeg, Int.reduceEq, Int.reduceBEq, Int.reduceBNe, Nat.reduceEqDiff, fW, hM, h1]
  · have hS := sign_spec c
    simp -implicitDefEqProofs only [go_sem, ↓reduceIte, reduceCtorEq, Int.reduceLT, Int.reduceLE, Int.reduceToNat, Nat.reduceAdd, Nat.reduceMul, Nat.reduceLeDiff, Nat.reduceLT, Nat.reduceSub, Int.reduceNeg, Int.reduceEq, Int.reduceBEq, Int.reduceBNe, Nat.reduceEqDiff, fW, hS, h1]

theorem EqualW_spec (A B : List Wd) (hAB : A = B) (hl : A.length < 1000000) (lo : Nat) (h : VHeap) : callVL vp lo n_slices_Equal_gantrywordWord [.list .s (A.map fW), .list .s (B.map fW)] h = some (.bool true, h) := by
  subst hAB
  refine call_valE (fn := slices_Equal_gantrywordWord_v) rfl rfl rfl rfl rfl ?_ lo h
  obtain ⟨P, hP⟩ : ∃ P : VV → Prop, P = fun w : VV => w = .bool true := ⟨_, rfl⟩
  have hP1 : P (.bool true) := by subst hP; rfl
  have hP2 : (fun r : VV × VHeap => r.1 = .bool true) = fun r => P r.1 := by subst hP; rfl
  rw [hP2]
  clear hP hP2
  simp -implicitDefEqProofs only [go_sem, ↓reduceIte, reduceCtorEq, Int.reduceLT, Int.reduceLE, Int.reduceToNat, Nat.reduceAdd, Nat.reduceMul, Nat.reduceLeDiff, Nat.reduceLT, Nat.reduceSub, Int.reduceNeg, Int.reduceEq, Int.reduceBEq, Int.reduceBNe, Nat.reduceEqDiff]
  rw [Sat_bind]
  refine loop_up (I := fun i env h => env = [.list .s (A.map fW), .list .s (A.map fW), .undef, .undef, .undef, .undef, .undef, .undef, .undef, .undef, .undef, .undef, .int .i64 A.length, .int .i64 i, .undef, .undef, .undef, .undef, .undef, .undef, .undef, .undef, .undef, .undef, .undef, .undef] ∧ h = []) A.length ?_ ?_ (Nat.zero_le _) ⟨by simp -implicitDefEqProofs only [go_sem, ↓reduceIte, reduceCtorEq, Int.reduceLT, Int.reduceLE, Int.reduceToNat, Nat.reduceAdd, Nat.reduceMul, Nat.reduceLeDiff, Nat.reduceLT, Nat.reduceSub, Int.reduceNeg, Int.reduceEq, Int.reduceBEq, Int.reduceBNe, Nat.reduceEqDiff], rfl⟩
  · rintro i env h hi ⟨rfl, rfl⟩
    obtain ⟨x, hx⟩ := get_some hi
    have hi' : (i : Int) < (A.length : Int) := by omega
    have hw := wrap_succ (i := i) (by omega)
    have hg := get_map (F := fW) hx
    simp only [fW] at hg
    simp -implicitDefEqProofs only [slices_Equal_gantrywordWord_b0, go_sem, ↓reduceIte, reduceCtorEq, Int.reduceLT, Int.reduceLE, Int.reduceToNat, Nat.reduceAdd, Nat.reduceMul, Nat.reduceLeDiff, Nat.reduceLT, Nat.reduceSub, Int.reduceNeg, Int.reduceEq, Int.reduceBEq, Int.reduceBNe, Nat.reduceEqDiff, hi', hg, hw]
  · rintro env h ⟨rfl, rfl⟩
    simp -implicitDefEqProofs only [slices_Equal_gantrywordWord_b0, go_sem, ↓reduceIte, reduceCtorEq, Int.reduceLT, Int.reduceLE, Int.reduceToNat, Nat.reduceAdd, Nat.reduceMul, Nat.reduceLeDiff, Nat.reduceLT, Nat.reduceSub, Int.reduceNeg, Int.reduceEq, Int.reduceBEq, Int.reduceBNe, Nat.reduceEqDiff, Int.lt_irrefl]
    exact hP1

def fS (s : List UInt8) : List VV := [.str s]
theorem fS_len (s : List UInt8) : (fS s).length = 1 := rfl
theorem strs_fS : ∀ (l : List (List UInt8)), strsOf ((l.map fS).flatten.map VV.sc) = some l
  | [] => rfl
  | s :: l => by simp [fS, strsOf, VV.sc, strs_fS l]; have := strs_fS l; simp [fS] at this; rw [this]
theorem inter_len (M : Nat) : ∀ (l : List (List UInt8)), (∀ x ∈ l, x.length ≤ M) → ([32].intercalate l : List UInt8).length ≤ l.length * (M + 1)
  | [], _ => by simp [List.intercalate]
  | x :: l, h => by
    rw [inter_cons, List.length_append, List.length_cons, Nat.succ_mul]
    have hx := h x (by simp)
    have key : ∀ (l : List (List UInt8)), (∀ x ∈ l, x.length ≤ M) → ((l.map ([32] ++ ·)).flatten).length ≤ l.length * (M + 1) := by
      intro l
      induction l with
      | nil => intro _; simp
      | cons y l ih =>
        intro h
        have h1 := h y (by simp)
        have h2 := ih fun z hz => h z (by simp [hz])
        rw [List.map_cons, List.flatten_cons, List.length_append, List.length_cons, Nat.succ_mul]
        simp only [List.cons_append, List.nil_append, List.length_cons]
        simp only [List.cons_append, List.nil_append] at h2
        omega
    have := key l fun z hz => h z (by simp [hz])
    omega
theorem Join_spec (l : List (List UInt8)) (hl : l.length ≤ 4096) (hx : ∀ x ∈ l, x.length ≤ 4096) (lo : Nat) (h : VHeap) : callVL vp lo n_strings_Join [.list .s (l.map fS), .str [32]] h = some (.str ([32].intercalate l), h) := by
  refine call_valE (fn := strings_Join_v) rfl rfl rfl rfl rfl ?_ lo h
  have h1 := strs_fS l
  have h2 := inter_len 4096 l hx
  have h3 : l.length * (4096 + 1) ≤ 4096 * 4097 := Nat.mul_le_mul_right _ hl
  have h4 : ([32].intercalate l : List UInt8).length + l.length ≤ 140737488355328 := by omega
  have h5 := all_len fS_len l
  simp -implicitDefEqProofs only [go_sem, ↓reduceIte, reduceCtorEq, Int.reduceLT, Int.reduceLE, Int.reduceToNat, Nat.reduceAdd, Nat.reduceMul, Nat.reduceLeDiff, Nat.reduceLT, Nat.reduceSub, Int.reduceNeg, Int.reduceEq, Int.reduceBEq, Int.reduceBNe, Nat.reduceEqDiff, ext2, h1, h4, h5]
def textR (J : List UInt8) : VV := if 4096 < J.length then .tup [.str [], .int .i64 2] else .tup [.str J, .int .i64 0]
theorem Text_spec (ws : List Wd) (hl : ws.length ≤ 4096) (hw : ∀ w ∈ ws, wordOK w ∧ w.text.length ≤ 4096) (lo : Nat) (h : VHeap) : callVL vp lo n_word_Text [.list .s (ws.map fW)] h = some (textR ([32].intercalate (ws.map (·.text))), h) := by
  refine call_valE (fn := word_Text_v) rfl rfl rfl rfl rfl ?_ lo h
  generalize hR : textR ([32].intercalate (ws.map (·.text))) = r0
  obtain ⟨P, hP⟩ : ∃ P : VV → Prop, P = fun w : VV => w = r0 := ⟨_, rfl⟩
  have hP1 : P r0 := by subst hP; rfl
  have hP2 : (fun r : VV × VHeap => r.1 = r0) = fun r => P r.1 := by subst hP; rfl
  rw [hP2]
  clear hP hP2
  simp -implicitDefEqProofs only [go_sem, ↓reduceIte, reduceCtorEq, Int.reduceLT, Int.reduceLE, Int.reduceToNat, Nat.reduceAdd, Nat.reduceMul, Nat.reduceLeDiff, Nat.reduceLT, Nat.reduceSub, Int.reduceNeg, Int.reduceEq, Int.reduceBEq, Int.reduceBNe, Nat.reduceEqDiff]
  rw [Sat_bind]
  refine loop_up (I := fun i env h => env = [.undef, .undef, .undef, .undef, .list .o (((ws.take i).map (·.text)).map fS), .undef, .undef, .undef, .list .s (ws.map fW), .int .i64 ws.length, .int .i64 i, .undef, .undef, .undef, .undef, .undef, .undef, .undef, .undef, .undef, .undef, .undef, .undef, .undef, .undef, .undef, .undef, .undef, .undef] ∧ h = []) ws.length ?_ ?_ (Nat.zero_le _) ⟨by simp -implicitDefEqProofs only [go_sem, ↓reduceIte, reduceCtorEq, Int.reduceLT, Int.reduceLE, Int.reduceToNat, Nat.reduceAdd, Nat.reduceMul, Nat.reduceLeDiff, Nat.reduceLT, Nat.reduceSub, Int.reduceNeg, Int.reduceEq, Int.reduceBEq, Int.reduceBNe, Nat.reduceEqDiff], rfl⟩
  · rintro i env h hi ⟨rfl, rfl⟩
    obtain ⟨x, hx⟩ := get_some hi
    have hi' : (i : Int) < (ws.length : Int) := by omega
    have hw1 := wrap_succ (i := i) (by omega)
    have hg := get_map (F := fW) hx
    obtain ⟨w1, w2⟩ := hw x (List.mem_of_getElem? hx)
    have hV := Valid_spec x w1 w2
    have hal := all_len fS_len ((ws.take i).map (·.text))
    have hlen : ((ws.take i).map (·.text)).length = i := by rw [List.length_map, List.length_take]; omega
    have hr : (i + 1 + 512) * 16 ≤ 140737488355328 := by omega
    have hnx : ((ws.take i).map (·.text)).map fS ++ [[.str x.text]] = ((ws.take (i + 1)).map (·.text)).map fS := by
      rw [take_succ_map hx]; simp [fS]
    simp only [fW] at hg hV
    generalize (ws.take i).map (·.text) = acc at *
    simp -implicitDefEqProofs only [word_Text_b0, go_sem, ↓reduceIte, reduceCtorEq, Int.reduceLT, Int.reduceLE, Int.reduceToNat, Nat.reduceAdd, Nat.reduceMul, Nat.reduceLeDiff, Nat.reduceLT, Nat.reduceSub, Int.reduceNeg, Int.reduceEq, Int.reduceBEq, Int.reduceBNe, Nat.reduceEqDiff, hi', hg, hV, hal, hlen, hr, hw1, hnx]
  · rintro env h ⟨rfl, rfl⟩
    rw [List.take_length]
    have hJ := Join_spec (ws.map (·.text)) (by rw [List.length_map]; exact hl) (fun x hx => by obtain ⟨w, hm, rfl⟩ := List.mem_map.1 hx; exact (hw w hm).2)
    generalize ([32].intercalate (ws.map (·.text)) : List UInt8) = J at *
    generalize (ws.map (·.text)).map fS = rows at *
    unfold textR at hR
    by_cases hc : 4096 < J.length
    · have hc' : (4096 : Int) < (J.length : Int) := by omega
      rw [if_pos hc] at hR; subst hR
      simp -implicitDefEqProofs only [word_Text_b0, go_sem, ↓reduceIte, reduceCtorEq, Int.reduceLT, Int.reduceLE, Int.reduceToNat, Nat.reduceAdd, Nat.reduceMul, Nat.reduceLeDiff, Nat.reduceLT, Nat.reduceSub, Int.reduceNeg, Int.reduceEq, Int.reduceBEq, Int.reduceBNe, Nat.reduceEqDiff, Int.lt_irrefl, hJ, hc']
      exact hP1
    · have hc' : ¬ (4096 : Int) < (J.length : Int) := by omega
      rw [if_neg hc] at hR; subst hR
      simp -implicitDefEqProofs only [word_Text_b0, go_sem, ↓reduceIte, reduceCtorEq, Int.reduceLT, Int.reduceLE, Int.reduceToNat, Nat.reduceAdd, Nat.reduceMul, Nat.reduceLeDiff, Nat.reduceLT, Nat.reduceSub, Int.reduceNeg, Int.reduceEq, Int.reduceBEq, Int.reduceBNe, Nat.reduceEqDiff, Int.lt_irrefl, hJ, hc']
      exact hP1

theorem Pos.len {s : List UInt8} : ∀ {e : Nat} {ws : List Wd}, Pos s e ws → ∀ w ∈ ws, w.text.length ≤ s.length
  | _, [], _, w, hw => by simp at hw
  | e, u :: ws, hp, w, hw => by
    rcases List.mem_cons.1 hw with rfl | hw
    · have := hp.2.1; omega
    · exact Pos.len hp.2.2.2 w hw
theorem Back_law (s : List UInt8) : callVL vp 0 n_gantkeep4_WordBack [.str s] [] = some (.bool true, []) := by
  refine call_valE (fn := gantkeep4_WordBack_v) rfl rfl rfl rfl rfl ?_ 0 []
  have hRd := Read_spec s
  have hWd := worded_spec
  cases hr : readF s with
  | error e =>
    rw [hr] at hRd
    have he : e ≠ 0 := by
      unfold readF at hr
      split at hr
      · cases hr; decide
      · exact rd_err _ _ _ hr
    simp only [readV] at hRd
    simp -implicitDefEqProofs only [go_sem, ↓reduceIte, reduceCtorEq, Int.reduceLT, Int.reduceLE, Int.reduceToNat, Nat.reduceAdd, Nat.reduceMul, Nat.reduceLeDiff, Nat.reduceLT, Nat.reduceSub, Int.reduceNeg, Int.reduceEq, Int.reduceBEq, Int.reduceBNe, Nat.reduceEqDiff, hRd, hWd, he]
  | ok ws =>
    rw [hr] at hRd
    obtain ⟨hs, hp, hl⟩ := readF_pos hr
    have hok := readF_ok hr
    have hT := Text_spec ws hl fun w hw => ⟨hok w hw, Nat.le_trans (hp.len w hw) hs⟩
    simp only [readV] at hRd
    unfold textR at hT
    by_cases hc : 4096 < ([32].intercalate (ws.map (·.text)) : List UInt8).length
    · simp only [if_pos hc] at hT
      simp -implicitDefEqProofs only [go_sem, ↓reduceIte, reduceCtorEq, Int.reduceLT, Int.reduceLE, Int.reduceToNat, Nat.reduceAdd, Nat.reduceMul, Nat.reduceLeDiff, Nat.reduceLT, Nat.reduceSub, Int.reduceNeg, Int.reduceEq, Int.reduceBEq, Int.reduceBNe, Nat.reduceEqDiff, hRd, hWd, hT]
    · simp only [if_neg hc] at hT
      obtain ⟨ks, hk, hm⟩ := back_law hok (by omega)
      have hRd2 := Read_spec ([32].intercalate (ws.map (·.text)))
      rw [hk] at hRd2
      simp only [readV] at hRd2
      obtain ⟨_, _, hkl⟩ := readF_pos hk
      have hA := texts_spec ws hl
      have hB := texts_spec ks hkl
      have hE := EqualW_spec (ws.map zt) (ks.map zt) hm.symm (by rw [List.length_map]; omega)
      generalize ([32].intercalate (ws.map (·.text)) : List UInt8) = J at *
      simp -implicitDefEqProofs only [go_sem, ↓reduceIte, reduceCtorEq, Int.reduceLT, Int.reduceLE, Int.reduceToNat, Nat.reduceAdd, Nat.reduceMul, Nat.reduceLeDiff, Nat.reduceLT, Nat.reduceSub, Int.reduceNeg, Int.reduceEq, Int.reduceBEq, Int.reduceBNe, Nat.reduceEqDiff, hRd, hWd, hT, hRd2, hA, hB, hE]
end Vg.G2
