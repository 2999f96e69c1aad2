import Derived.Test.YtpoofafddbcnpaaVVgTop
/- Rows in a block that is written. -/
namespace Vg
open Go Lg
variable {es i j d : Nat} {rows : List (List VV)} {row vs : List VV}
theorem flat_len (h : ∀ r ∈ rows, r.length = es) : rows.flatten.length = rows.length * es := by
  induction rows with
  | nil => simp
  | cons r rows ih =>
    rw [List.flatten_cons, List.length_append, h r (by simp), ih fun r hr => h r (by simp [hr]), List.length_cons, Nat.succ_mul, Nat.add_comm]
theorem flat_drop : ∀ (rows : List (List VV)) (i : Nat), (∀ r ∈ rows, r.length = es) → rows.flatten.drop (i * es) = (rows.drop i).flatten
  | rows, 0, _ => by simp
  | [], i + 1, _ => by simp
  | r :: rows, i + 1, h => by
    have hr := h r (by simp)
    rw [List.flatten_cons, List.drop_succ_cons, ← flat_drop rows i fun r hr => h r (by simp [hr]), Nat.succ_mul, Nat.add_comm, ← List.drop_drop, ← hr, List.drop_left]
theorem flat_take : ∀ (rows : List (List VV)) (i : Nat), (∀ r ∈ rows, r.length = es) → rows.flatten.take (i * es) = (rows.take i).flatten
  | rows, 0, _ => by simp
  | [], i + 1, _ => by simp
  | r :: rows, i + 1, h => by
    have hr := h r (by simp)
    rw [List.flatten_cons, List.take_succ_cons, List.flatten_cons, ← flat_take rows i fun r hr => h r (by simp [hr]), Nat.succ_mul, Nat.add_comm (i * es), ← hr, List.take_length_add_append]
theorem drop_row (hrow : rows[i]? = some row) : rows.drop i = row :: rows.drop (i + 1) := by
  obtain ⟨h1, h2⟩ := List.getElem?_eq_some_iff.1 hrow
  rw [List.drop_eq_getElem_cons h1, h2]
theorem flat_row (h : ∀ r ∈ rows, r.length = es) (hrow : rows[i]? = some row) : (rows.flatten.drop (i * es)).take es = row := by
  rw [flat_drop rows i h, drop_row hrow, List.flatten_cons, ← h row (List.mem_of_getElem? hrow), List.take_left]
theorem flat_get (h : ∀ r ∈ rows, r.length = es) (hrow : rows[i]? = some row) (hj : j < es) : rows.flatten[i * es + j]? = row[j]? := by
  rw [← List.getElem?_drop, flat_drop rows i h, drop_row hrow, List.flatten_cons, List.getElem?_append_left (by rw [h row (List.mem_of_getElem? hrow)]; exact hj)]
theorem flat_set (h : ∀ r ∈ rows, r.length = es) (hrow : rows[i]? = some row) (hd : d + vs.length ≤ es) : vsplice rows.flatten (i * es + d) vs = (rows.set i (vsplice row d vs)).flatten := by
  have hr := h row (List.mem_of_getElem? hrow)
  have hi := lt_of_getElem? hrow
  have e : rows = rows.take i ++ row :: rows.drop (i + 1) := by rw [← drop_row hrow, List.take_append_drop]
  have hl : (rows.take i).flatten.length = i * es := by
    rw [flat_len fun r hr => h r (List.mem_of_mem_take hr), List.length_take, Nat.min_eq_left (by omega)]
  have e2 : rows.set i (vsplice row d vs) = rows.take i ++ vsplice row d vs :: rows.drop (i + 1) := by
    rw [List.set_eq_take_append_cons_drop, if_pos hi]
  rw [e2, List.flatten_append, List.flatten_cons]
  have e3 : rows.flatten = (rows.take i).flatten ++ (row ++ (rows.drop (i + 1)).flatten) := by
    conv => lhs; rw [e]
    rw [List.flatten_append, List.flatten_cons]
  rw [e3]
  unfold vsplice
  have h1 : d ≤ row.length := by omega
  have h2 : d + vs.length ≤ row.length := by omega
  rw [← hl, Nat.add_assoc, List.take_length_add_append, List.drop_length_add_append, List.take_append_of_le_length h1, List.drop_append_of_le_length h2]
  simp only [List.append_assoc]
theorem chunk_flat : ∀ (rows : List (List VV)), (∀ r ∈ rows, r.length = es) → chunk es rows.length rows.flatten = rows
  | [], _ => rfl
  | r :: rows, h => by
    have hr := h r (by simp)
    simp only [List.length_cons, chunk, List.flatten_cons]
    rw [← hr, List.take_left, List.drop_left, hr, chunk_flat rows fun r hr => h r (by simp [hr])]
theorem scal_show {v : VV} (h : scal v = true) : v.sh.ow = v := by cases v <;> first | rfl | cases h
theorem scal_fz {h : VHeap} {base k : Nat} {v : VV} (hs : scal v = true) : fzN h base (k + 1) v = some v := by cases v <;> first | rfl | cases hs
theorem scals_show {cs : List VV} (h : cs.all scal = true) : (cs.map fun c => c.sh.ow) = cs := by
  rw [List.all_eq_true] at h
  conv => rhs; rw [← List.map_id cs]
  exact List.map_congr_left fun v hv => scal_show (h v hv)
theorem scals_fz {h : VHeap} {base k : Nat} : ∀ {cs : List VV}, cs.all scal = true → cs.mapM (fzN h base (k + 1)) = some cs
  | [], _ => rfl
  | c :: cs, hc => by
    simp only [List.all_cons, Bool.and_eq_true] at hc
    rw [mapM_cons', scal_fz hc.1, Option.bind_some, scals_fz hc.2]; rfl
theorem scals_low {k : Nat} {cs : List VV} (h : cs.all scal = true) : lowL k cs = true := lowL_of fun v hv => scal_low (List.all_eq_true.1 h v hv)
theorem all_flat {rows : List (List VV)} (h : ∀ r ∈ rows, r.all scal = true) : rows.flatten.all scal = true := by
  rw [List.all_eq_true]
  intro v hv
  obtain ⟨r, hr, hv⟩ := List.mem_flatten.1 hv
  exact List.all_eq_true.1 (h r hr) v hv
theorem fz_hs {h : VHeap} {base n len : Nat} {rows : List (List VV)} (hb : base ≤ n) (hn : h[n]? = some (.cells true rows.flatten)) (hl : len = rows.length) (hr : ∀ r ∈ rows, r.length = es) (hs : ∀ r ∈ rows, r.all scal = true) :
    fz h base (.hs n 0 len es) = some (.list .s rows) := by
  subst hl
  have h1 := flat_len hr
  have h2 := all_flat hs
  unfold fz
  rw [fzN]
  simp only [hb, if_true, hn, Nat.zero_add, h1, Nat.le_refl, List.drop_zero]
  rw [← h1, List.take_length, scals_fz h2]
  simp only [scals_low h2, if_true]
  rw [chunk_flat rows hr]
end Vg
/- The equations by which code is evaluated, in one row. -/
namespace Vg
open Go Lg
attribute [go_sem] ite_self cloneA cloneC Nat.zero_le mm_max mm_min codeVL_loop keepV_from keepFrom List.contains_cons List.contains_nil codeVL_skip codeVL_exit codeVL_ret codeVL_ops codeVL_dops codeVL_seq codeVL_cond codeVL_block opsV_nil opsV_d opsV_n opsV_g vs_c vs_t nrm nrmL eqE eqL List.replicate List.cons_append List.nil_append List.append_nil List.getD_cons_zero List.getD_cons_succ List.getD_nil List.set_cons_zero List.set_cons_succ Option.bind_some Option.bind_none Option.bind_assoc thenV_norm thenV_exit thenV_ret blockV_norm blockV_exit blockV_ret endV_norm endV_ret backV fz_list fz_int fz_bool fz_str fz_tup fz_agg mapM_cons' mapM_nil' fzN_tup fzN_agg fzN_list fzN_int fzN_bool fzN_str fzN_cptr fzN_nilptr ressV resV oneV ite_bind if_true if_false decide_eq_true_eq Bool.false_eq_true Bool.not_true Bool.not_false Bool.and_true Bool.and_false Bool.true_and Bool.false_and List.all_cons List.all_nil List.length_cons List.length_nil List.map_cons List.map_nil fillV vsplice List.take_succ_cons List.take_zero List.drop_succ_cons List.drop_zero List.drop_nil List.take_nil beq_self_eq_true vbnds Int.toNat_zero Int.toNat_one Nat.zero_add Nat.add_zero Nat.mul_one Nat.one_mul Nat.mul_zero Nat.zero_mul List.getElem?_cons_zero List.getElem?_cons_succ List.getElem?_nil List.getElem?_map Option.map_some Option.map_none List.length_map decide_true decide_false Bool.or_true Bool.or_false Bool.true_or Bool.false_or not_true_eq_false not_false_eq_true true_and and_true false_and and_false true_or or_true false_or or_false ne_eq beq_true Bool.true_beq Bool.false_beq int_beq int_bne nat_beq bool_beq_true bool_beq_false ite_boolV cast_zero cast_one Bool.not_eq_true' Bool.not_eq_false' decide_eq_false_iff_not gt_iff_lt ge_iff_le Nat.le_refl Nat.lt_irrefl Nat.add_sub_cancel Nat.sub_zero Int.toNat_natCast Int.natCast_nonneg Int.cast_ofNat_Int lowL VV.low trim chunk appendV rowsOf Sat_some take_map_len take_len take_set_len succ_ne_zero succ_pos' List.length_set opV_mvF opV_mvT opV_mvs opV_pick opV_alloc opV_box opV_build opV_bslice opV_load opV_store opV_nilchk opV_bin opV_eqv opV_un opV_conv opV_b2s opV_s2b opV_slc opV_fieldAddr opV_field opV_indexAddr opV_indexAddrA opV_index opV_indexA opV_extract opV_lenS opV_lenL opV_lenM opV_lenC opV_min2 opV_max2 opV_append opV_copy opV_make opV_mkmap opV_lookup opV_update opV_mkfunc opV_call opV_callv opV_ext opV_rewr opV_concat opV_capL extE_index1 extE_count1 extE_join argV_str argV_int argV_bool argV_list Option.isNone_none Option.isNone_some opV_stuck strip_mvF strip_mvT strip_mvC strip_mvs strip_pick strip_alloc strip_box strip_build strip_bslice strip_load strip_storeT strip_storeC mvF_t mvF_c strip_nilchk strip_bin strip_eqv strip_un strip_conv strip_b2s strip_s2b strip_slc strip_fieldAddr strip_field strip_indexAddr strip_indexAddrA strip_index strip_indexA strip_extract strip_lenS strip_lenL strip_lenM strip_lenC strip_min2 strip_max2 strip_appendT strip_appendC strip_copy strip_make strip_mkmap strip_lookup strip_update strip_mkfunc strip_call strip_callv strip_ext strip_rewr strip_concat strip_capL strip_stuck vr_t vr_c cmpX_t cmpX_c putV_s putV_n ofLV_int ofLV_bool ofLV_str ofLV_nilslice ofLV_nilptr ofLV_nilfunc ofLV_nilmap ofLV_nilif ofLV_agg ofLV_tup ofLV_func ofLVs_nil ofLVs_cons binE_add binE_sub binE_mul binE_eql binE_neq binE_lss binE_leq binE_gtr binE_geq binE_quo binE_rem binE_seql binE_sneq unE_not unE_neg sh_undef ow_undef cells_undef single_undef stV_undef sh_bool ow_bool cells_bool single_bool sc_bool stV_bool cmpV_bool sh_int ow_int cells_int single_int sc_int stV_int cmpV_int sh_str ow_str cells_str single_str sc_str stV_str cmpV_str sh_ptr ow_ptr cells_ptr single_ptr stV_ptr cmpV_ptr sh_cptr ow_cptr cells_cptr single_cptr stV_cptr cmpV_cptr sh_nilptr ow_nilptr cells_nilptr single_nilptr stV_nilptr cmpV_nilptr sh_lists ow_lists cells_lists single_lists stV_lists sh_listf ow_listf cells_listf single_listf stV_listf sh_listo ow_listo cells_listo single_listo stV_listo sh_hs ow_hs cells_hs single_hs stV_hs sh_map ow_map cells_map single_map stV_map cmpV_map sh_nilmap ow_nilmap cells_nilmap single_nilmap stV_nilmap cmpV_nilmap sh_func ow_func cells_func single_func stV_func cmpV_func sh_nilfunc ow_nilfunc cells_nilfunc single_nilfunc stV_nilfunc cmpV_nilfunc sh_iface ow_iface cells_iface single_iface stV_iface cmpV_iface sh_nilif ow_nilif cells_nilif single_nilif stV_nilif cmpV_nilif sh_agg ow_agg cells_agg single_agg stV_agg cmpV_agg sh_tup ow_tup cells_tup single_tup stV_tup cmpV_cons guardV_bool guardV_tup nat_int
attribute [go_sem] codeVL_dopsW codeVL_dopsX opsW_nil opsW_d opsW_n calmL_nil calmL_cons calmL_same ldTs_nil ldTs_ld ldTs_skip rootsV_nil rootsV_fa rootsV_ld rootsV_skip okLd_skip okLd_ld List.mem_cons List.not_mem_nil eq_self rootX_mvF ldX_mvF rootX_mvT ldX_mvT rootX_mvC ldX_mvC rootX_mvs ldX_mvs rootX_pick ldX_pick rootX_alloc ldX_alloc rootX_box ldX_box rootX_build ldX_build rootX_bslice ldX_bslice rootX_storeT ldX_storeT rootX_storeC ldX_storeC rootX_nilchk ldX_nilchk rootX_bin ldX_bin rootX_eqv ldX_eqv rootX_un ldX_un rootX_conv ldX_conv rootX_b2s ldX_b2s rootX_s2b ldX_s2b rootX_slc ldX_slc rootX_field ldX_field rootX_indexAddr ldX_indexAddr rootX_indexAddrA ldX_indexAddrA rootX_index ldX_index rootX_indexA ldX_indexA rootX_extract ldX_extract rootX_lenS ldX_lenS rootX_lenL ldX_lenL rootX_lenM ldX_lenM rootX_lenC ldX_lenC rootX_min2 ldX_min2 rootX_max2 ldX_max2 rootX_appendT ldX_appendT rootX_appendC ldX_appendC rootX_copy ldX_copy rootX_make ldX_make rootX_mkmap ldX_mkmap rootX_lookup ldX_lookup rootX_update ldX_update rootX_mkfunc ldX_mkfunc rootX_call ldX_call rootX_callv ldX_callv rootX_ext ldX_ext rootX_rewr ldX_rewr rootX_concat ldX_concat rootX_capL ldX_capL rootX_stuck ldX_stuck ldX_fieldAddr ldX_loadT rootX_loadT consP_undef okP_undef consP_bool okP_bool consP_int okP_int consP_str okP_str consP_cptr okP_cptr consP_nilptr okP_nilptr consP_list okP_list consP_hs okP_hs consP_map okP_map consP_nilmap okP_nilmap consP_func okP_func consP_nilfunc okP_nilfunc consP_iface okP_iface consP_nilif okP_nilif consP_agg okP_agg consP_tup okP_tup consP_ptr okP_ptr
end Vg
/- Functions of the library, for every element's type. -/
namespace Vg
open Go Lg
set_option linter.unusedSimpArgs false
set_option maxRecDepth 10000
attribute [local congr] bind_congr1

theorem small_room {n m b : Nat} (h : n ≤ 4000) (hm : m ≤ 100) (hb : b ≤ 100) : (n + m + 512) * b ≤ 140737488355328 := by
  have h1 : n + m + 512 ≤ 5000 := by omega
  exact Nat.le_trans (Nat.mul_le_mul h1 hb) (by decide)
theorem clone_call {p : VProg} {f : FuncId} {o : Bool} {es bytes : Nat} {rows : List (List VV)} (hp : p f = some ⟨cloneA o false true es bytes, true, o, false⟩) (hr : rows.all (fun x => decide (x.length = es)) = true) (hb : (rows.length + 512) * bytes ≤ 140737488355328) (lo : Nat) (h : VHeap) :
    callVL p lo f [.list .s rows] h = some (.list (if o then .o else .s) rows, h) := by
  refine call_valE hp rfl rfl rfl rfl ?_ lo h
  cases o <;> simp -implicitDefEqProofs only [cloneA, cloneC, go_sem, ↓reduceIte, reduceCtorEq, Int.reduceLT, Int.reduceLE, Int.reduceToNat, Nat.reduceAdd, Nat.reduceMul, Nat.reduceLeDiff, Nat.reduceLT, Nat.reduceSub, Int.reduceNeg, Int.reduceEq, Int.reduceBEq, Int.reduceBNe, Nat.reduceEqDiff, hr, hb]
theorem cloneM_call {p : VProg} {f : FuncId} {pu : Bool} {es bytes lo : Nat} {rows : List (List VV)} {h : VHeap} (hp : p f = some ⟨cloneM false es bytes, pu, false, true⟩) (hr : rows.all (fun x => decide (x.length = es)) = true) (hs : rows.flatten.all scal = true) (hb : (rows.length + 512) * bytes ≤ 140737488355328) (hlo : lo ≤ h.length) :
    callVL p lo f [.list .s rows] h = some (if rows = [] then (.list .f [], h) else (.hs (h.length + 1) 0 rows.length es, h ++ [.dead, .cells true rows.flatten])) := by
  have key := call_body (p := p) (lo := lo) (h := h) (f := f) (fn := ⟨cloneM false es bytes, pu, false, true⟩) (args := [.list .s rows]) (P := fun r => r = if rows = [] then (.list .f [], h) else (.hs (h.length + 1) 0 rows.length es, h ++ [.dead, .cells true rows.flatten])) hp (.inr rfl) rfl ?_
  · obtain ⟨r, hr, rfl⟩ := key; exact hr
  have hsh := scals_show hs
  cases rows with
  | nil => simp -implicitDefEqProofs only [cloneM, cloneC, go_sem, ↓reduceIte, reduceCtorEq, Int.reduceLT, Int.reduceLE, Int.reduceToNat, Nat.reduceAdd, Nat.reduceMul, Nat.reduceLeDiff, Nat.reduceLT, Nat.reduceSub, Int.reduceNeg, Int.reduceEq, Int.reduceBEq, Int.reduceBNe, Nat.reduceEqDiff]
  | cons r rows =>
    have h0 : ¬ (((rows.length + 1 : Nat) : Int) = 0) := by omega
    have hb' : (rows.length + 1 + 512) * bytes ≤ 140737488355328 := hb
    have hg : (h ++ [VBlk.cells true ([] : List VV)])[h.length]? = some (.cells true []) := List.getElem?_concat_length
    have hst : (h ++ [VBlk.cells true ([] : List VV)]).set h.length .dead = h ++ [.dead] := by rw [List.set_append_right _ _ (Nat.le_refl _), Nat.sub_self]; rfl
    simp only [List.all_cons, Bool.and_eq_true, decide_eq_true_eq] at hr
    simp -implicitDefEqProofs only [cloneM, cloneC, go_sem, ↓reduceIte, reduceCtorEq, Int.reduceLT, Int.reduceLE, Int.reduceToNat, Nat.reduceAdd, Nat.reduceMul, Nat.reduceLeDiff, Nat.reduceLT, Nat.reduceSub, Int.reduceNeg, Int.reduceEq, Int.reduceBEq, Int.reduceBNe, Nat.reduceEqDiff, h0, hr.1, hr.2, hlo, hb', hg, hst, List.length_append, List.append_assoc]
    rw [hsh]
end Vg
