import Derived.Test.YtpoofafddbcnpaaVD9
namespace Vg.G3
open Go Lg
set_option linter.unusedSimpArgs false
set_option maxRecDepth 10000
set_option maxHeartbeats 2000000
attribute [local congr] bind_congr1
attribute [local go_sem] ite_self cloneA cloneC Nat.zero_le mm_max mm_min codeVL_loop keepV_from keepFrom List.contains_cons List.contains_nil codeVL_skip codeVL_exit codeVL_ret codeVL_ops codeVL_dops codeVL_seq codeVL_cond codeVL_block opsV_nil opsV_d opsV_n opsV_g vs_c vs_t nrm nrmL eqE eqL List.replicate List.cons_append List.nil_append List.append_nil List.getD_cons_zero List.getD_cons_succ List.getD_nil List.set_cons_zero List.set_cons_succ Option.bind_some Option.bind_none Option.bind_assoc thenV_norm thenV_exit thenV_ret blockV_norm blockV_exit blockV_ret endV_norm endV_ret backV fz_list fz_int fz_bool fz_str fz_tup fz_agg mapM_cons' mapM_nil' fzN_tup fzN_agg fzN_list fzN_int fzN_bool fzN_str fzN_cptr fzN_nilptr ressV resV oneV ite_bind if_true if_false decide_eq_true_eq Bool.false_eq_true Bool.not_true Bool.not_false Bool.and_true Bool.and_false Bool.true_and Bool.false_and List.all_cons List.all_nil List.length_cons List.length_nil List.map_cons List.map_nil fillV vsplice List.take_succ_cons List.take_zero List.drop_succ_cons List.drop_zero List.drop_nil List.take_nil beq_self_eq_true vbnds Int.toNat_zero Int.toNat_one Nat.zero_add Nat.add_zero Nat.mul_one Nat.one_mul Nat.mul_zero Nat.zero_mul List.getElem?_cons_zero List.getElem?_cons_succ List.getElem?_nil List.getElem?_map Option.map_some Option.map_none List.length_map decide_true decide_false Bool.or_true Bool.or_false Bool.true_or Bool.false_or not_true_eq_false not_false_eq_true true_and and_true false_and and_false true_or or_true false_or or_false ne_eq beq_true Bool.true_beq Bool.false_beq int_beq int_bne nat_beq bool_beq_true bool_beq_false ite_boolV cast_zero cast_one Bool.not_eq_true' Bool.not_eq_false' decide_eq_false_iff_not gt_iff_lt ge_iff_le Nat.le_refl Nat.lt_irrefl Nat.add_sub_cancel Nat.sub_zero Int.toNat_natCast Int.natCast_nonneg Int.cast_ofNat_Int lowL VV.low trim chunk appendV rowsOf Sat_some take_map_len take_len take_set_len succ_ne_zero succ_pos' List.length_set opV_mvF opV_mvT opV_mvs opV_pick opV_alloc opV_box opV_build opV_bslice opV_load opV_store opV_nilchk opV_bin opV_eqv opV_un opV_conv opV_b2s opV_s2b opV_slc opV_fieldAddr opV_field opV_indexAddr opV_indexAddrA opV_index opV_indexA opV_extract opV_lenS opV_lenL opV_lenM opV_lenC opV_min2 opV_max2 opV_append opV_copy opV_make opV_mkmap opV_lookup opV_update opV_mkfunc opV_call opV_callv opV_ext opV_rewr opV_concat opV_capL extE_index1 extE_count1 extE_join argV_str argV_int argV_bool argV_list Option.isNone_none Option.isNone_some opV_stuck strip_mvF strip_mvT strip_mvC strip_mvs strip_pick strip_alloc strip_box strip_build strip_bslice strip_load strip_storeT strip_storeC strip_nilchk strip_bin strip_eqv strip_un strip_conv strip_b2s strip_s2b strip_slc strip_fieldAddr strip_field strip_indexAddr strip_indexAddrA strip_index strip_indexA strip_extract strip_lenS strip_lenL strip_lenM strip_lenC strip_min2 strip_max2 strip_appendT strip_appendC strip_copy strip_make strip_mkmap strip_lookup strip_update strip_mkfunc strip_call strip_callv strip_ext strip_rewr strip_concat strip_capL strip_stuck vr_t vr_c cmpX_t cmpX_c putV_s putV_n ofLV_int ofLV_bool ofLV_str ofLV_nilslice ofLV_nilptr ofLV_nilfunc ofLV_nilmap ofLV_nilif ofLV_agg ofLV_tup ofLV_func ofLVs_nil ofLVs_cons binE_add binE_sub binE_mul binE_eql binE_neq binE_lss binE_leq binE_gtr binE_geq binE_quo binE_rem binE_seql binE_sneq unE_not unE_neg sh_undef ow_undef cells_undef single_undef stV_undef sh_bool ow_bool cells_bool single_bool sc_bool stV_bool cmpV_bool sh_int ow_int cells_int single_int sc_int stV_int cmpV_int sh_str ow_str cells_str single_str sc_str stV_str cmpV_str sh_ptr ow_ptr cells_ptr single_ptr stV_ptr cmpV_ptr sh_cptr ow_cptr cells_cptr single_cptr stV_cptr cmpV_cptr sh_nilptr ow_nilptr cells_nilptr single_nilptr stV_nilptr cmpV_nilptr sh_lists ow_lists cells_lists single_lists stV_lists sh_listf ow_listf cells_listf single_listf stV_listf sh_listo ow_listo cells_listo single_listo stV_listo sh_hs ow_hs cells_hs single_hs stV_hs sh_map ow_map cells_map single_map stV_map cmpV_map sh_nilmap ow_nilmap cells_nilmap single_nilmap stV_nilmap cmpV_nilmap sh_func ow_func cells_func single_func stV_func cmpV_func sh_nilfunc ow_nilfunc cells_nilfunc single_nilfunc stV_nilfunc cmpV_nilfunc sh_iface ow_iface cells_iface single_iface stV_iface cmpV_iface sh_nilif ow_nilif cells_nilif single_nilif stV_nilif cmpV_nilif sh_agg ow_agg cells_agg single_agg stV_agg cmpV_agg sh_tup ow_tup cells_tup single_tup stV_tup cmpV_cons guardV_bool guardV_tup nat_int gantmake_Below_r0 gantmake_Below_r1 gantmake_Below_r2 gantmake_Below_r3 gantmake_Below_r4 gantmake_Below_f gantmake_Below_v gantmake_Stream_Next_r0 gantmake_Stream_Next_r1 gantmake_Stream_Next_r2 gantmake_Stream_Next_r3 gantmake_Stream_Next_r4 gantmake_Stream_Next_r5 gantmake_Stream_Next_f gantmake_Stream_Next_v gantkeep4_Facts_r0 gantkeep4_Facts_r1 gantkeep4_Facts_r2 gantkeep4_Facts_r3 gantkeep4_Facts_r4 gantkeep4_Facts_r5 gantkeep4_Facts_r6 gantkeep4_Facts_r7 gantkeep4_Facts_r8 gantkeep4_Facts_r9 gantkeep4_Facts_r10 gantkeep4_Facts_r11 gantkeep4_Facts_r12 gantkeep4_Facts_r13 gantkeep4_Facts_r14 gantkeep4_Facts_r15 gantkeep4_Facts_r16 gantkeep4_Facts_f gantkeep4_Facts_v

theorem small_room {n m b : Nat} (h : n ≤ 4000) (hm : m ≤ 100) (hb : b ≤ 100) : (n + m + 512) * b ≤ 140737488355328 := by
  have h1 : n + m + 512 ≤ 5000 := by omega
  exact Nat.le_trans (Nat.mul_le_mul h1 hb) (by decide)
def belowP (x n : Int) : Int := if x.tmod n < 0 then IntKind.i64.wrap (x.tmod n + n) else x.tmod n
theorem Below_spec (x n : Int) (hn : 0 < n) (lo : Nat) (h : VHeap) : callVL vp lo n_gantmake_Below [.int .i64 x, .int .i64 n] h = some (.int .i64 (belowP x n), h) := by
  have h0 : n ≠ 0 := by omega
  refine call_valE (fn := gantmake_Below_v) rfl rfl rfl rfl rfl ?_ lo h
  simp -implicitDefEqProofs only [go_sem, ↓reduceIte, reduceCtorEq, Int.reduceLT, Int.reduceLE, Int.reduceToNat, Nat.reduceAdd, Nat.reduceMul, Nat.reduceLeDiff, Nat.reduceLT, Nat.reduceSub, Int.reduceNeg, Int.reduceEq, Int.reduceBEq, Int.reduceBNe, Nat.reduceEqDiff, h0, belowP]
  split <;> exact ⟨_, rfl, rfl⟩
theorem belowP_bnd (x n : Int) (hn : 0 < n) (hn' : n < 4611686018427387904) : 0 ≤ belowP x n ∧ belowP x n < n := by
  unfold belowP
  have h1 := Int.tmod_lt_of_pos x hn
  have h2 : -n < x.tmod n := by
    rcases Int.le_total 0 x with h | h
    · have := Int.tmod_nonneg n h; omega
    · have h2 := Int.tmod_lt_of_pos (-x) hn
      rw [Int.neg_tmod] at h2; omega
  split
  · rw [wrap_id (by omega) (by omega)]; omega
  · omega

/-- The next number of a stream, and the rest. -/
def nxt (xs : List Int) (n : Int) : Int × List Int := match xs with
  | [] => (0, [])
  | x :: r => if n < 1 then (0, x :: r) else (belowP x n, r)
theorem nxt_bnd (xs : List Int) (n : Int) (hn : 1 ≤ n) (hn' : n < 4611686018427387904) : 0 ≤ (nxt xs n).1 ∧ (nxt xs n).1 < n := by
  cases xs with
  | nil => exact ⟨Int.le_refl _, by simp only [nxt]; omega⟩
  | cons x r => simp only [nxt]; rw [if_neg (by omega)]; exact belowP_bnd x n (by omega) hn'
abbrev strm (xs : List Int) : VBlk := .cells true [ints xs]
theorem Next_spec {lo s : Nat} {h : VHeap} {xs : List Int} (n : Int) (hlo : lo ≤ s) (hs : h[s]? = some (strm xs)) : callVL vp lo n_gantmake_Stream_Next [.ptr s 0, .int .i64 n] h = some (.int .i64 (nxt xs n).1, h.set s (strm (nxt xs n).2)) := by
  have key := call_body (p := vp) (lo := lo) (h := h) (f := n_gantmake_Stream_Next) (fn := gantmake_Stream_Next_v) (args := [.ptr s 0, .int .i64 n]) (P := fun r => r = (.int .i64 (nxt xs n).1, h.set s (strm (nxt xs n).2))) rfl (.inl rfl) rfl ?_
  · obtain ⟨r, hr, rfl⟩ := key; exact hr
  have hlt := lt_of_some hs
  cases xs with
  | nil =>
    simp only [ints, strm, List.map_nil] at hs
    simp -implicitDefEqProofs only [go_sem, ↓reduceIte, reduceCtorEq, Int.reduceLT, Int.reduceLE, Int.reduceToNat, Nat.reduceAdd, Nat.reduceMul, Nat.reduceLeDiff, Nat.reduceLT, Nat.reduceSub, Int.reduceNeg, Int.reduceEq, Int.reduceBEq, Int.reduceBNe, Nat.reduceEqDiff, hs, nxt, strm, ints]
    rw [set_same hs]
  | cons x r =>
    simp only [ints, strm, List.map_cons] at hs
    have ha := all_len (F := fun x => [VV.int .i64 x]) (es := 1) (fun _ => rfl) r
    by_cases hn : n < 1
    · simp -implicitDefEqProofs only [go_sem, ↓reduceIte, reduceCtorEq, Int.reduceLT, Int.reduceLE, Int.reduceToNat, Nat.reduceAdd, Nat.reduceMul, Nat.reduceLeDiff, Nat.reduceLT, Nat.reduceSub, Int.reduceNeg, Int.reduceEq, Int.reduceBEq, Int.reduceBNe, Nat.reduceEqDiff, hs, hn, nxt, strm, ints]
      rw [set_same hs]
    · have hB := fun lo h => Below_spec x n (by omega) lo h
      simp -implicitDefEqProofs only [go_sem, ↓reduceIte, reduceCtorEq, Int.reduceLT, Int.reduceLE, Int.reduceToNat, Nat.reduceAdd, Nat.reduceMul, Nat.reduceLeDiff, Nat.reduceLT, Nat.reduceSub, Int.reduceNeg, Int.reduceEq, Int.reduceBEq, Int.reduceBNe, Nat.reduceEqDiff, hs, hn, ha, hlo, hB, nxt, strm, ints]
theorem next_in {lo : Nat} (hlo : lo ≤ 0) (n : Int) (ys : List Int) (t : VHeap) : callVL vp lo n_gantmake_Stream_Next [.ptr 0 0, .int .i64 n] (.cells true [.list .s (ys.map fun x => [.int .i64 x])] :: t) = some (.int .i64 (nxt ys n).1, .cells true [.list .s ((nxt ys n).2.map fun x => [.int .i64 x])] :: t) := by
  have := Next_spec (lo := lo) (s := 0) (h := strm ys :: t) (xs := ys) n hlo rfl
  simpa [strm, ints] using this

theorem Facts_spec (xs : List Int) : ∃ l : List Fa, l.length ≤ 9 ∧ ∀ lo h, callVL vp lo n_gantkeep4_Facts [.list .s (xs.map fun x => [.int .i64 x])] h = some (.list .s (l.map fF), h) := by
  obtain ⟨P, hP⟩ : ∃ P : VV → Prop, P = fun w : VV => ∃ l : List Fa, w = .list .s (l.map fF) ∧ l.length ≤ 9 := ⟨_, rfl⟩
  have key := call_val (p := vp) (f := n_gantkeep4_Facts) (fn := gantkeep4_Facts_v) (args := [.list .s (xs.map fun x => [.int .i64 x])]) (P := P) rfl rfl rfl rfl rfl ?_
  · obtain ⟨v, hv, hc⟩ := key; subst hP; obtain ⟨l, rfl, hA⟩ := hv; exact ⟨l, hA, hc⟩
  have hP1 : ∀ l : List Fa, l.length ≤ 9 → P (.list .s (l.map fF)) := fun l h1 => by subst hP; exact ⟨l, rfl, h1⟩
  clear hP
  have hN := next_in (Nat.le_refl 0)
  obtain ⟨n10, l10⟩ := nxt_bnd xs 9 (by omega) (by omega)
  simp -implicitDefEqProofs only [go_sem, ↓reduceIte, reduceCtorEq, Int.reduceLT, Int.reduceLE, Int.reduceToNat, Nat.reduceAdd, Nat.reduceMul, Nat.reduceLeDiff, Nat.reduceLT, Nat.reduceSub, Int.reduceNeg, Int.reduceEq, Int.reduceBEq, Int.reduceBNe, Nat.reduceEqDiff, hN]
  generalize (nxt xs 9).1 = n at *
  generalize (nxt xs 9).2 = ys0 at *
  rw [Sat_bind]
  refine loop_up (I := fun k env h => ∃ (zs : List Int) (l : List Fa), env = [.undef, .undef, .undef, .ptr 0 0, .list .o (l.map fF), .undef, .undef, .undef, .undef, .undef, .int .i64 n, .int .i64 k, .undef, .undef, .undef, .undef, .undef, .undef, .undef, .undef, .undef, .undef, .undef, .undef, .undef, .undef, .undef, .undef, .undef, .undef, .undef, .undef, .undef, .undef, .undef, .undef, .undef, .undef, .undef, .undef, .undef, .undef, .undef, .undef, .undef, .undef, .undef, .undef, .undef, .undef, .undef, .undef] ∧ h = [.cells true [.list .s (zs.map fun x => [.int .i64 x])]] ∧ l.length = k) n.toNat ?_ ?_ (Nat.zero_le _) ⟨ys0, [], by simp -implicitDefEqProofs only [go_sem, ↓reduceIte, reduceCtorEq, Int.reduceLT, Int.reduceLE, Int.reduceToNat, Nat.reduceAdd, Nat.reduceMul, Nat.reduceLeDiff, Nat.reduceLT, Nat.reduceSub, Int.reduceNeg, Int.reduceEq, Int.reduceBEq, Int.reduceBNe, Nat.reduceEqDiff], rfl, rfl⟩
  · rintro k env h hk ⟨zs, l, rfl, rfl, rfl⟩
    have hk' : (l.length : Int) < n := by omega
    have hw := wrap_succ (i := l.length) (by omega)
    have b1 := nxt_bnd zs 6 (by omega) (by omega)
    have hw1 : IntKind.i64.wrap (1 + (nxt zs 6).1) = 1 + (nxt zs 6).1 := wrap_id (by omega) (by omega)
    have hal := all_len fF_len l
    have hr : (l.length + 1 + 512) * 24 ≤ 140737488355328 := small_room (by omega) (by omega) (by omega)
    have app : ∀ f : Fa, (l ++ [f]).map fF = l.map fF ++ [[.int .i64 f.k, .int .i64 f.a, .int .i64 f.b]] := fun f => by rw [List.map_append]; rfl
    clear b1
    generalize hW : IntKind.i64.wrap (1 + (nxt zs 6).1) = W
    by_cases h1 : W = 1
    · subst h1
      simp -implicitDefEqProofs only [gantkeep4_Facts_b0, go_sem, ↓reduceIte, reduceCtorEq, Int.reduceLT, Int.reduceLE, Int.reduceToNat, Nat.reduceAdd, Nat.reduceMul, Nat.reduceLeDiff, Nat.reduceLT, Nat.reduceSub, Int.reduceNeg, Int.reduceEq, Int.reduceBEq, Int.reduceBNe, Nat.reduceEqDiff, hN, hk', hW, hal, hr, hw]
      exact ⟨_, l ++ [⟨1, _, _⟩], by rw [app], rfl, by simp⟩
    by_cases h2 : W = 2
    · subst h2
      simp -implicitDefEqProofs only [gantkeep4_Facts_b0, go_sem, ↓reduceIte, reduceCtorEq, Int.reduceLT, Int.reduceLE, Int.reduceToNat, Nat.reduceAdd, Nat.reduceMul, Nat.reduceLeDiff, Nat.reduceLT, Nat.reduceSub, Int.reduceNeg, Int.reduceEq, Int.reduceBEq, Int.reduceBNe, Nat.reduceEqDiff, hN, hk', hW, hal, hr, hw]
      exact ⟨_, l ++ [⟨2, _, _⟩], by rw [app], rfl, by simp⟩
    by_cases h6 : W = 6
    · subst h6
      simp -implicitDefEqProofs only [gantkeep4_Facts_b0, go_sem, ↓reduceIte, reduceCtorEq, Int.reduceLT, Int.reduceLE, Int.reduceToNat, Nat.reduceAdd, Nat.reduceMul, Nat.reduceLeDiff, Nat.reduceLT, Nat.reduceSub, Int.reduceNeg, Int.reduceEq, Int.reduceBEq, Int.reduceBNe, Nat.reduceEqDiff, hN, hk', hW, hal, hr, hw]
      exact ⟨_, l ++ [⟨6, _, _⟩], by rw [app], rfl, by simp⟩
    · simp -implicitDefEqProofs only [gantkeep4_Facts_b0, go_sem, ↓reduceIte, reduceCtorEq, Int.reduceLT, Int.reduceLE, Int.reduceToNat, Nat.reduceAdd, Nat.reduceMul, Nat.reduceLeDiff, Nat.reduceLT, Nat.reduceSub, Int.reduceNeg, Int.reduceEq, Int.reduceBEq, Int.reduceBNe, Nat.reduceEqDiff, hN, hk', hW, h1, h2, h6, hal, hr, hw]
      exact ⟨_, l ++ [⟨W, _, 0⟩], by rw [app], rfl, by simp⟩
  · rintro env h ⟨zs, l, rfl, rfl, hl⟩
    have hnn : ((n.toNat : Nat) : Int) = n := Int.toNat_of_nonneg n10
    simp -implicitDefEqProofs only [gantkeep4_Facts_b0, go_sem, ↓reduceIte, reduceCtorEq, Int.reduceLT, Int.reduceLE, Int.reduceToNat, Nat.reduceAdd, Nat.reduceMul, Nat.reduceLeDiff, Nat.reduceLT, Nat.reduceSub, Int.reduceNeg, Int.reduceEq, Int.reduceBEq, Int.reduceBNe, Nat.reduceEqDiff, hnn, Int.lt_irrefl]
    exact hP1 l (by omega)
end Vg.G3
