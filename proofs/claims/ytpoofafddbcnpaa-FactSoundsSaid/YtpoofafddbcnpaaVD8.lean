import Derived.Test.YtpoofafddbcnpaaVD7
namespace Vg.G3
open Go Lg
set_option linter.unusedSimpArgs false
set_option maxRecDepth 10000
set_option maxHeartbeats 2000000
attribute [local congr] bind_congr1
attribute [local go_sem] ite_self cloneA cloneC Nat.zero_le mm_max mm_min codeVL_loop keepV_from keepFrom List.contains_cons List.contains_nil codeVL_skip codeVL_exit codeVL_ret codeVL_ops codeVL_dops codeVL_seq codeVL_cond codeVL_block opsV_nil opsV_d opsV_n opsV_g vs_c vs_t nrm nrmL eqE eqL List.replicate List.cons_append List.nil_append List.append_nil List.getD_cons_zero List.getD_cons_succ List.getD_nil List.set_cons_zero List.set_cons_succ Option.bind_some Option.bind_none Option.bind_assoc thenV_norm thenV_exit thenV_ret blockV_norm blockV_exit blockV_ret endV_norm endV_ret backV fz_list fz_int fz_bool fz_str fz_tup fz_agg mapM_cons' mapM_nil' fzN_tup fzN_agg fzN_list fzN_int fzN_bool fzN_str fzN_cptr fzN_nilptr ressV resV oneV ite_bind if_true if_false decide_eq_true_eq Bool.false_eq_true Bool.not_true Bool.not_false Bool.and_true Bool.and_false Bool.true_and Bool.false_and List.all_cons List.all_nil List.length_cons List.length_nil List.map_cons List.map_nil fillV vsplice List.take_succ_cons List.take_zero List.drop_succ_cons List.drop_zero List.drop_nil List.take_nil beq_self_eq_true vbnds Int.toNat_zero Int.toNat_one Nat.zero_add Nat.add_zero Nat.mul_one Nat.one_mul Nat.mul_zero Nat.zero_mul List.getElem?_cons_zero List.getElem?_cons_succ List.getElem?_nil List.getElem?_map Option.map_some Option.map_none List.length_map decide_true decide_false Bool.or_true Bool.or_false Bool.true_or Bool.false_or not_true_eq_false not_false_eq_true true_and and_true false_and and_false true_or or_true false_or or_false ne_eq beq_true Bool.true_beq Bool.false_beq int_beq int_bne nat_beq bool_beq_true bool_beq_false ite_boolV cast_zero cast_one Bool.not_eq_true' Bool.not_eq_false' decide_eq_false_iff_not gt_iff_lt ge_iff_le Nat.le_refl Nat.lt_irrefl Nat.add_sub_cancel Nat.sub_zero Int.toNat_natCast Int.natCast_nonneg Int.cast_ofNat_Int lowL VV.low trim chunk appendV rowsOf Sat_some take_map_len take_len take_set_len succ_ne_zero succ_pos' List.length_set opV_mvF opV_mvT opV_mvs opV_pick opV_alloc opV_box opV_build opV_bslice opV_load opV_store opV_nilchk opV_bin opV_eqv opV_un opV_conv opV_b2s opV_s2b opV_slc opV_fieldAddr opV_field opV_indexAddr opV_indexAddrA opV_index opV_indexA opV_extract opV_lenS opV_lenL opV_lenM opV_lenC opV_min2 opV_max2 opV_append opV_copy opV_make opV_mkmap opV_lookup opV_update opV_mkfunc opV_call opV_callv opV_ext opV_rewr opV_concat opV_capL extE_index1 extE_count1 extE_join argV_str argV_int argV_bool argV_list Option.isNone_none Option.isNone_some opV_stuck strip_mvF strip_mvT strip_mvC strip_mvs strip_pick strip_alloc strip_box strip_build strip_bslice strip_load strip_storeT strip_storeC strip_nilchk strip_bin strip_eqv strip_un strip_conv strip_b2s strip_s2b strip_slc strip_fieldAddr strip_field strip_indexAddr strip_indexAddrA strip_index strip_indexA strip_extract strip_lenS strip_lenL strip_lenM strip_lenC strip_min2 strip_max2 strip_appendT strip_appendC strip_copy strip_make strip_mkmap strip_lookup strip_update strip_mkfunc strip_call strip_callv strip_ext strip_rewr strip_concat strip_capL strip_stuck vr_t vr_c cmpX_t cmpX_c putV_s putV_n ofLV_int ofLV_bool ofLV_str ofLV_nilslice ofLV_nilptr ofLV_nilfunc ofLV_nilmap ofLV_nilif ofLV_agg ofLV_tup ofLV_func ofLVs_nil ofLVs_cons binE_add binE_sub binE_mul binE_eql binE_neq binE_lss binE_leq binE_gtr binE_geq binE_quo binE_rem binE_seql binE_sneq unE_not unE_neg sh_undef ow_undef cells_undef single_undef stV_undef sh_bool ow_bool cells_bool single_bool sc_bool stV_bool cmpV_bool sh_int ow_int cells_int single_int sc_int stV_int cmpV_int sh_str ow_str cells_str single_str sc_str stV_str cmpV_str sh_ptr ow_ptr cells_ptr single_ptr stV_ptr cmpV_ptr sh_cptr ow_cptr cells_cptr single_cptr stV_cptr cmpV_cptr sh_nilptr ow_nilptr cells_nilptr single_nilptr stV_nilptr cmpV_nilptr sh_lists ow_lists cells_lists single_lists stV_lists sh_listf ow_listf cells_listf single_listf stV_listf sh_listo ow_listo cells_listo single_listo stV_listo sh_hs ow_hs cells_hs single_hs stV_hs sh_map ow_map cells_map single_map stV_map cmpV_map sh_nilmap ow_nilmap cells_nilmap single_nilmap stV_nilmap cmpV_nilmap sh_func ow_func cells_func single_func stV_func cmpV_func sh_nilfunc ow_nilfunc cells_nilfunc single_nilfunc stV_nilfunc cmpV_nilfunc sh_iface ow_iface cells_iface single_iface stV_iface cmpV_iface sh_nilif ow_nilif cells_nilif single_nilif stV_nilif cmpV_nilif sh_agg ow_agg cells_agg single_agg stV_agg cmpV_agg sh_tup ow_tup cells_tup single_tup stV_tup cmpV_cons guardV_bool guardV_tup nat_int slices_SortFunc_gantryfactFact_f slices_SortFunc_gantryfactFact_v slices_Compact_gantryfactFact_r0 slices_Compact_gantryfactFact_r1 slices_Compact_gantryfactFact_r2 slices_Compact_gantryfactFact_r3 slices_Compact_gantryfactFact_r4 slices_Compact_gantryfactFact_r5 slices_Compact_gantryfactFact_r5_d slices_Compact_gantryfactFact_r6 slices_Compact_gantryfactFact_r7 slices_Compact_gantryfactFact_r8 slices_Compact_gantryfactFact_r9 slices_Compact_gantryfactFact_r9_d slices_Compact_gantryfactFact_r10 slices_Compact_gantryfactFact_r11 slices_Compact_gantryfactFact_r12 slices_Compact_gantryfactFact_r13 slices_Compact_gantryfactFact_r14 slices_Compact_gantryfactFact_r15 slices_Compact_gantryfactFact_r16 slices_Compact_gantryfactFact_f slices_Compact_gantryfactFact_v

def toI (f : Fa) : List Int := [f.k, f.a, f.b]
def ofI : List Int → Fa
  | [k, a, b] => ⟨k, a, b⟩
  | _ => ⟨0, 0, 0⟩
def sortFa (l : List Fa) : List Fa := (sortI (l.map toI)).map ofI
theorem sort_toI (l : List Fa) : (sortFa l).map toI = sortI (l.map toI) := by
  unfold sortFa
  rw [List.map_map]
  conv => rhs; rw [← List.map_id (sortI (l.map toI))]
  refine List.map_congr_left fun r hr => ?_
  have h1 : r ∈ l.map toI := (List.mergeSort_perm (l.map toI) _).mem_iff.1 hr
  obtain ⟨f, _, rfl⟩ := List.mem_map.1 h1
  rfl
theorem sort_len (l : List Fa) : (sortFa l).length = l.length := by
  have := congrArg List.length (sort_toI l)
  rw [List.length_map] at this
  rw [this, sortI, List.length_mergeSort, List.length_map]
theorem sort_mem (x : Fa) (l : List Fa) : x ∈ sortFa l ↔ x ∈ l := by
  have inj : ∀ {f g : Fa}, toI f = toI g → f = g := fun {f g} h => by cases f; cases g; simp [toI] at h; simp [h]
  have h1 : toI x ∈ (sortFa l).map toI ↔ toI x ∈ l.map toI := by rw [sort_toI]; exact (List.mergeSort_perm (l.map toI) _).mem_iff
  constructor
  · intro h
    obtain ⟨y, hy, e⟩ := List.mem_map.1 (h1.1 (List.mem_map_of_mem h))
    exact inj e ▸ hy
  · intro h
    obtain ⟨y, hy, e⟩ := List.mem_map.1 (h1.2 (List.mem_map_of_mem h))
    exact inj e ▸ hy
theorem ints_of (l : List Fa) : intsOf ((l.map fF).flatten.map VV.sc) = some (l.map toI).flatten := by
  induction l with
  | nil => rfl
  | cons f l ih => simp [fF, toI, VV.sc, intsOf] at ih ⊢; rw [ih]
theorem chunk_of (l : List Fa) : chunkI 3 l.length (l.map toI).flatten = l.map toI := by
  induction l with
  | nil => rfl
  | cons f l ih =>
    simp only [List.length_cons, chunkI, List.map_cons, List.flatten_cons, toI]
    congr 1
theorem rw_sort (l : List Fa) (hl : l.length ≤ 1000) : rwE (.sort 3) l.length ((l.map fF).flatten.map VV.sc) = some ((sortFa l).map toI |>.flatten |>.map fun n => LV.int .i64 n) := by
  simp only [rwE, ints_of, chunk_of, sort_toI]
  rw [if_pos (by omega)]
theorem cells_of (l : List Fa) : ofLVs ((l.map toI).flatten.map fun n => LV.int .i64 n) = (l.map fF).flatten := by
  rw [ofLVs_eq]
  induction l with
  | nil => rfl
  | cons f l ih => simp [toI, fF, ofLV] at ih ⊢; exact ih
theorem sc_of (l : List Fa) : ((l.map toI).flatten.map fun n => LV.int .i64 n).all scLV = true := by
  rw [List.all_eq_true]; intro x hx; obtain ⟨n, _, rfl⟩ := List.mem_map.1 hx; rfl
theorem toI_len (l : List Fa) : ((l.map toI).flatten.map fun n => LV.int .i64 n).length = l.length * 3 := by
  rw [List.length_map]
  induction l with
  | nil => rfl
  | cons f l ih => simp [toI] at ih ⊢; omega
theorem Sort_spec {l : List Fa} {n lo : Nat} {h : VHeap} (hl : l.length ≤ 1000) (hne : 1 ≤ l.length) (hlo : lo ≤ n) (hn : h[n]? = some (.cells true (l.map fF).flatten)) :
    callVL vp lo n_slices_SortFunc_gantryfactFact [.hs n 0 l.length 3, .func 54 []] h = some (.tup [], h.set n (.cells true ((sortFa l).map fF).flatten)) := by
  have key := call_body (p := vp) (lo := lo) (h := h) (f := n_slices_SortFunc_gantryfactFact) (fn := slices_SortFunc_gantryfactFact_v) (args := [.hs n 0 l.length 3, .func 54 []]) (P := fun r => r = (.tup [], h.set n (.cells true ((sortFa l).map fF).flatten))) rfl (.inr rfl) rfl ?_
  · obtain ⟨r, hr, rfl⟩ := key; exact hr
  have h0 : ¬ (l.length = 0) := by omega
  have hc := cells_len l
  have hle : l.length * 3 ≤ (l.map fF).flatten.length := by omega
  have ht : (l.map fF).flatten.take (l.length * 3) = (l.map fF).flatten := List.take_of_length_le (by omega)
  have hr := rw_sort l hl
  have h1 := toI_len (sortFa l)
  rw [sort_len] at h1
  have h2 := sc_of (sortFa l)
  have h3 := cells_of (sortFa l)
  have h4 := cells_len (sortFa l)
  rw [sort_len] at h4
  have hd : (l.map fF).flatten.drop (l.length * 3) = [] := List.drop_eq_nil_of_le (by omega)
  simp -implicitDefEqProofs only [go_sem, ↓reduceIte, reduceCtorEq, Int.reduceLT, Int.reduceLE, Int.reduceToNat, Nat.reduceAdd, Nat.reduceMul, Nat.reduceLeDiff, Nat.reduceLT, Nat.reduceSub, Int.reduceNeg, Int.reduceEq, Int.reduceBEq, Int.reduceBNe, Nat.reduceEqDiff, sortF, h0, hn, hlo, hle, ht, hr, h1, h2, h3, h4, hd]
theorem Sort_spec0 {lo : Nat} {h : VHeap} : callVL vp lo n_slices_SortFunc_gantryfactFact [.list .s [], .func 54 []] h = some (.tup [], h) := by
  have key := call_body (p := vp) (lo := lo) (h := h) (f := n_slices_SortFunc_gantryfactFact) (fn := slices_SortFunc_gantryfactFact_v) (args := [.list .s [], .func 54 []]) (P := fun r => r = (.tup [], h)) rfl (.inr rfl) rfl ?_
  · obtain ⟨r, hr, rfl⟩ := key; exact hr
  simp -implicitDefEqProofs only [go_sem, ↓reduceIte, reduceCtorEq, Int.reduceLT, Int.reduceLE, Int.reduceToNat, Nat.reduceAdd, Nat.reduceMul, Nat.reduceLeDiff, Nat.reduceLT, Nat.reduceSub, Int.reduceNeg, Int.reduceEq, Int.reduceBEq, Int.reduceBNe, Nat.reduceEqDiff, sortF]
theorem Compact_spec0 {lo : Nat} {h : VHeap} : callVL vp lo n_slices_Compact_gantryfactFact [.list .s []] h = some (.list .s [], h) := by
  have key := call_body (p := vp) (lo := lo) (h := h) (f := n_slices_Compact_gantryfactFact) (fn := slices_Compact_gantryfactFact_v) (args := [.list .s []]) (P := fun r => r = (.list .s [], h)) rfl (.inr rfl) rfl ?_
  · obtain ⟨r, hr, rfl⟩ := key; exact hr
  simp -implicitDefEqProofs only [go_sem, ↓reduceIte, reduceCtorEq, Int.reduceLT, Int.reduceLE, Int.reduceToNat, Nat.reduceAdd, Nat.reduceMul, Nat.reduceLeDiff, Nat.reduceLT, Nat.reduceSub, Int.reduceNeg, Int.reduceEq, Int.reduceBEq, Int.reduceBNe, Nat.reduceEqDiff, Int.reduceLT]
theorem fz_hs2 {h : VHeap} {base n len es : Nat} {rows : List (List VV)} {cs : List VV} (hb : base ≤ n) (hn : h[n]? = some (.cells true cs)) (hl : len = rows.length) (hle : len * es ≤ cs.length) (hcs : cs.take (len * es) = rows.flatten) (hr : ∀ r ∈ rows, r.length = es) (hs : ∀ r ∈ rows, r.all scal = true) :
    fz h base (.hs n 0 len es) = some (.list .s rows) := by
  subst hl
  have h2 := all_flat hs
  unfold fz
  rw [fzN]
  simp only [hb, if_true, hn, Nat.zero_add, hle, List.drop_zero, hcs]
  rw [scals_fz h2]
  simp only [scals_low h2, if_true]
  rw [chunk_flat rows hr]
end Vg.G3
