import Derived.Test.YtiidghpdgkfncaaVB4
namespace Vg.G2
open Go Lg
set_option linter.unusedSimpArgs false
set_option maxRecDepth 10000
set_option maxHeartbeats 1000000
attribute [local congr] bind_congr1
attribute [local go_sem] ite_self cloneA cloneC Nat.zero_le mm_max mm_min codeVL_loop keepV_from keepFrom List.contains_cons List.contains_nil codeVL_skip codeVL_exit codeVL_ret codeVL_ops codeVL_dops codeVL_seq codeVL_cond codeVL_block opsV_nil opsV_d opsV_n opsV_g vs_c vs_t nrm nrmL eqE eqL List.replicate List.cons_append List.nil_append List.append_nil List.getD_cons_zero List.getD_cons_succ List.getD_nil List.set_cons_zero List.set_cons_succ Option.bind_some Option.bind_none Option.bind_assoc thenV_norm thenV_exit thenV_ret blockV_norm blockV_exit blockV_ret endV_norm endV_ret backV fz_list fz_int fz_bool fz_str fz_tup fz_agg mapM_cons' mapM_nil' fzN_tup fzN_agg fzN_list fzN_int fzN_bool fzN_str fzN_cptr fzN_nilptr ressV resV oneV ite_bind if_true if_false decide_eq_true_eq Bool.false_eq_true Bool.not_true Bool.not_false Bool.and_true Bool.and_false Bool.true_and Bool.false_and List.all_cons List.all_nil List.length_cons List.length_nil List.map_cons List.map_nil fillV vsplice List.take_succ_cons List.take_zero List.drop_succ_cons List.drop_zero List.drop_nil List.take_nil beq_self_eq_true vbnds Int.toNat_zero Int.toNat_one Nat.zero_add Nat.add_zero Nat.mul_one Nat.one_mul Nat.mul_zero Nat.zero_mul List.getElem?_cons_zero List.getElem?_cons_succ List.getElem?_nil List.getElem?_map Option.map_some Option.map_none List.length_map decide_true decide_false Bool.or_true Bool.or_false Bool.true_or Bool.false_or not_true_eq_false not_false_eq_true true_and and_true false_and and_false true_or or_true false_or or_false ne_eq beq_true Bool.true_beq Bool.false_beq int_beq int_bne nat_beq bool_beq_true bool_beq_false ite_boolV cast_zero cast_one Bool.not_eq_true' Bool.not_eq_false' decide_eq_false_iff_not gt_iff_lt ge_iff_le Nat.le_refl Nat.lt_irrefl Nat.add_sub_cancel Nat.sub_zero Int.toNat_natCast Int.natCast_nonneg Int.cast_ofNat_Int lowL VV.low trim chunk appendV rowsOf Sat_some take_map_len take_len take_set_len succ_ne_zero succ_pos' List.length_set opV_mvF opV_mvT opV_mvs opV_pick opV_alloc opV_box opV_build opV_bslice opV_load opV_store opV_nilchk opV_bin opV_eqv opV_un opV_conv opV_b2s opV_s2b opV_slc opV_fieldAddr opV_field opV_indexAddr opV_indexAddrA opV_index opV_indexA opV_extract opV_lenS opV_lenL opV_lenM opV_lenC opV_min2 opV_max2 opV_append opV_copy opV_make opV_mkmap opV_lookup opV_update opV_mkfunc opV_call opV_callv opV_ext extE_index1 extE_count1 extE_join argV_str argV_int argV_bool argV_list Option.isNone_none Option.isNone_some opV_stuck strip_mvF strip_mvT strip_mvC strip_mvs strip_pick strip_alloc strip_box strip_build strip_bslice strip_load strip_storeT strip_storeC strip_nilchk strip_bin strip_eqv strip_un strip_conv strip_b2s strip_s2b strip_slc strip_fieldAddr strip_field strip_indexAddr strip_indexAddrA strip_index strip_indexA strip_extract strip_lenS strip_lenL strip_lenM strip_lenC strip_min2 strip_max2 strip_appendT strip_appendC strip_copy strip_make strip_mkmap strip_lookup strip_update strip_mkfunc strip_call strip_callv strip_ext strip_stuck vr_t vr_c cmpX_t cmpX_c putV_s putV_n ofLV_int ofLV_bool ofLV_str ofLV_nilslice ofLV_nilptr ofLV_nilfunc ofLV_nilmap ofLV_nilif ofLV_agg ofLV_tup ofLV_func ofLVs_nil ofLVs_cons binE_add binE_sub binE_mul binE_eql binE_neq binE_lss binE_leq binE_gtr binE_geq binE_quo binE_rem binE_seql binE_sneq unE_not unE_neg sh_undef ow_undef cells_undef single_undef stV_undef sh_bool ow_bool cells_bool single_bool sc_bool stV_bool cmpV_bool sh_int ow_int cells_int single_int sc_int stV_int cmpV_int sh_str ow_str cells_str single_str sc_str stV_str cmpV_str sh_ptr ow_ptr cells_ptr single_ptr stV_ptr cmpV_ptr sh_cptr ow_cptr cells_cptr single_cptr stV_cptr cmpV_cptr sh_nilptr ow_nilptr cells_nilptr single_nilptr stV_nilptr cmpV_nilptr sh_lists ow_lists cells_lists single_lists stV_lists sh_listf ow_listf cells_listf single_listf stV_listf sh_listo ow_listo cells_listo single_listo stV_listo sh_hs ow_hs cells_hs single_hs stV_hs sh_map ow_map cells_map single_map stV_map cmpV_map sh_nilmap ow_nilmap cells_nilmap single_nilmap stV_nilmap cmpV_nilmap sh_func ow_func cells_func single_func stV_func cmpV_func sh_nilfunc ow_nilfunc cells_nilfunc single_nilfunc stV_nilfunc cmpV_nilfunc sh_iface ow_iface cells_iface single_iface stV_iface cmpV_iface sh_nilif ow_nilif cells_nilif single_nilif stV_nilif cmpV_nilif sh_agg ow_agg cells_agg single_agg stV_agg cmpV_agg sh_tup ow_tup cells_tup single_tup stV_tup cmpV_cons guardV_bool guardV_tup nat_int gantkeep4_WordPlaces_r0 gantkeep4_WordPlaces_r1 gantkeep4_WordPlaces_r2 gantkeep4_WordPlaces_r3 gantkeep4_WordPlaces_r4 gantkeep4_WordPlaces_r5 gantkeep4_WordPlaces_r6 gantkeep4_WordPlaces_r7 gantkeep4_WordPlaces_r8 gantkeep4_WordPlaces_r9 gantkeep4_WordPlaces_r9_d gantkeep4_WordPlaces_r10 gantkeep4_WordPlaces_r11 gantkeep4_WordPlaces_r12 gantkeep4_WordPlaces_r13 gantkeep4_WordPlaces_f gantkeep4_WordPlaces_v

/-- Words stand one behind another in a text. -/
def Pos (s : List UInt8) : Nat → List Wd → Prop
  | _, [] => True
  | e, w :: ws => e ≤ w.at_ ∧ w.at_ + w.text.length ≤ s.length ∧ (s.drop w.at_).take w.text.length = w.text ∧ Pos s (w.at_ + w.text.length) ws
theorem Pos.mono {s : List UInt8} {e e' : Nat} (h : e' ≤ e) : ∀ {ws : List Wd}, Pos s e ws → Pos s e' ws
  | [], _ => trivial
  | _ :: _, hp => ⟨Nat.le_trans h hp.1, hp.2.1, hp.2.2.1, hp.2.2.2⟩
theorem rd_pos {s : List UInt8} : ∀ (n a : Nat) {ws : List Wd}, a ≤ s.length → rd n a (s.drop a) = .ok ws → Pos s a ws ∧ ws.length ≤ n
  | 0, a, ws, ha, h => by simp only [rd] at h; cases h; exact ⟨trivial, by simp⟩
  | n + 1, a, ws, ha, h => by
    simp only [rd] at h
    split at h
    · cases h; exact ⟨trivial, by simp⟩
    · split at h
      · rename_i he
        obtain ⟨l1, l2⟩ := oneL_len he
        generalize (oneL (s.drop a)).2.1 = len at *
        generalize (oneL (s.drop a)).1 = kd at *
        rw [List.length_drop] at l2
        rw [List.drop_drop, List.drop_drop] at h
        have hsl2 := sk_le false (s.drop (a + len))
        rw [List.length_drop] at hsl2
        cases hx : rd n (a + len + sk false (s.drop (a + len))) (s.drop (a + len + sk false (s.drop (a + len)))) with
        | error e => rw [hx] at h; cases h
        | ok us =>
          rw [hx] at h
          cases h
          obtain ⟨h1, h2⟩ := rd_pos n _ (by omega) hx
          have hle : ((s.drop a).take len).length = len := by rw [List.length_take, List.length_drop]; omega
          refine ⟨⟨Nat.le_refl _, ?_, ?_, ?_⟩, by simp; omega⟩
          · simp only [hle]; omega
          · simp only [hle]
          · simp only [hle]; exact h1.mono (by omega)
      · cases h
theorem map_err {α β : Type} {x : Except Int α} {f : α → β} {e : Int} (h : x.map f = .error e) : x = .error e := by cases x <;> cases h; rfl
theorem rd_err : ∀ (n a : Nat) (r : List UInt8) {e : Int}, rd n a r = .error e → e ≠ 0
  | 0, _, _, _, h => by cases h
  | n + 1, a, r, e, h => by
    simp only [rd] at h
    split at h
    · cases h
    · split at h
      · exact rd_err _ _ _ (map_err h)
      · rename_i he; cases h; exact he
theorem readF_pos {s : List UInt8} {ws : List Wd} (h : readF s = .ok ws) : s.length ≤ 4096 ∧ Pos s 0 ws ∧ ws.length ≤ 4096 := by
  unfold readF at h
  split at h
  · cases h
  · rename_i hs
    obtain ⟨h1, h2⟩ := rd_pos _ _ (sk_le false s) h
    exact ⟨by omega, h1.mono (Nat.zero_le _), by omega⟩

theorem Places_law (s : List UInt8) : callVL vp 0 n_gantkeep4_WordPlaces [.str s] [] = some (.bool true, []) := by
  refine call_valE (fn := gantkeep4_WordPlaces_v) rfl rfl rfl rfl rfl ?_ 0 []
  obtain ⟨P, hP⟩ : ∃ P : VV → Prop, P = fun w : VV => w = .bool true := ⟨_, rfl⟩
  have hP1 : P (.bool true) := by subst hP; rfl
  have hP2 : (fun r : VV × VHeap => r.1 = .bool true) = fun r => P r.1 := by subst hP; rfl
  rw [hP2]
  clear hP hP2
  have hRd := Read_spec s
  have hWd := worded_spec
  cases hr : readF s with
  | error e =>
    rw [hr] at hRd
    have he : e ≠ 0 := by
      unfold readF at hr
      split at hr
      · cases hr; decide
      · exact rd_err _ _ _ hr
    simp only [readV] at hRd
    simp -implicitDefEqProofs only [go_sem, ↓reduceIte, reduceCtorEq, Int.reduceLT, Int.reduceLE, Int.reduceToNat, Nat.reduceAdd, Nat.reduceMul, Nat.reduceLeDiff, Nat.reduceLT, Nat.reduceSub, Int.reduceNeg, Int.reduceEq, Int.reduceBEq, Int.reduceBNe, Nat.reduceEqDiff, hRd, hWd, he]
    exact hP1
  | ok ws =>
    rw [hr] at hRd
    obtain ⟨hs, hp, hl⟩ := readF_pos hr
    simp only [readV] at hRd
    simp -implicitDefEqProofs only [go_sem, ↓reduceIte, reduceCtorEq, Int.reduceLT, Int.reduceLE, Int.reduceToNat, Nat.reduceAdd, Nat.reduceMul, Nat.reduceLeDiff, Nat.reduceLT, Nat.reduceSub, Int.reduceNeg, Int.reduceEq, Int.reduceBEq, Int.reduceBNe, Nat.reduceEqDiff, hRd, hWd]
    rw [Sat_bind]
    refine loop_up (I := fun i env h' => h' = [] ∧ ∃ (E L : Nat), L ≤ 1 + (s.take E).count 10 ∧ Pos s E (ws.drop i) ∧ env = ((.str s : VV) :: VV.undef :: VV.undef :: VV.undef :: VV.undef :: (.int .i64 ((E : Nat) : Int) : VV) :: (.int .i64 ((L : Nat) : Int) : VV) :: VV.undef :: VV.undef :: VV.undef :: VV.undef :: VV.undef :: VV.undef :: VV.undef :: VV.undef :: VV.undef :: VV.undef :: VV.undef :: VV.undef :: VV.undef :: VV.undef :: VV.undef :: (.list .s (ws.map fW) : VV) :: (.int .i64 ((ws.length : Nat) : Int) : VV) :: (.int .i64 ((i : Nat) : Int) : VV) :: VV.undef :: VV.undef :: VV.undef :: VV.undef :: VV.undef :: VV.undef :: VV.undef :: VV.undef :: VV.undef :: VV.undef :: VV.undef :: VV.undef :: VV.undef :: VV.undef :: VV.undef :: VV.undef :: VV.undef :: VV.undef :: VV.undef :: VV.undef :: VV.undef :: VV.undef :: VV.undef :: VV.undef :: VV.undef :: VV.undef :: VV.undef :: VV.undef :: VV.undef :: VV.undef :: VV.undef :: VV.undef :: VV.undef :: VV.undef :: VV.undef :: VV.undef :: VV.undef :: VV.undef :: VV.undef :: VV.undef :: VV.undef :: VV.undef :: VV.undef :: VV.undef :: VV.undef :: VV.undef :: VV.undef :: VV.undef :: VV.undef :: VV.undef :: [])) ws.length ?_ ?_ (Nat.zero_le _) ⟨rfl, 0, 1, by omega, hp, by simp -implicitDefEqProofs only [go_sem, ↓reduceIte, reduceCtorEq, Int.reduceLT, Int.reduceLE, Int.reduceToNat, Nat.reduceAdd, Nat.reduceMul, Nat.reduceLeDiff, Nat.reduceLT, Nat.reduceSub, Int.reduceNeg, Int.reduceEq, Int.reduceBEq, Int.reduceBNe, Nat.reduceEqDiff]⟩
    · rintro i env h' hi ⟨rfl, E, L, hL, hp', rfl⟩
      obtain ⟨w, hw⟩ := get_some hi
      have hg := get_map (F := fW) hw
      have hdr : ws.drop i = w :: ws.drop (i + 1) := by
        obtain ⟨h1, h2⟩ := List.getElem?_eq_some_iff.1 hw
        rw [List.drop_eq_getElem_cons h1, h2]
      rw [hdr] at hp'
      obtain ⟨p1, p2, p3, p4⟩ := hp'
      obtain ⟨kd, at_, tx⟩ := w
      simp only at p1 p2 p3 p4
      simp only [fW] at hg
      have hi' : (i : Int) < (ws.length : Int) := by omega
      have hw1 := wrap_succ (i := i) (by omega)
      have hLn := Line_spec s hs at_ (by omega)
      have c1 : ¬ (at_ : Int) < (E : Int) := by omega
      have hw2 : IntKind.i64.wrap ((s.length : Int) - (tx.length : Int)) = (s.length : Int) - (tx.length : Int) := wrap_id (by omega) (by omega)
      have c2 : ¬ (s.length : Int) - (tx.length : Int) < (at_ : Int) := by omega
      have hw3 : IntKind.i64.wrap ((at_ : Int) + (tx.length : Int)) = ((at_ + tx.length : Nat) : Int) := by rw [wrap_id (by omega) (by omega)]; rfl
      have c3 : at_ ≤ at_ + tx.length := by omega
      have hcnt : (s.take E).count 10 ≤ (s.take at_).count 10 := (List.take_sublist_take_left p1).count_le 10
      have hcnt2 : (s.take at_).count 10 ≤ (s.take (at_ + tx.length)).count 10 := (List.take_sublist_take_left c3).count_le 10
      have c4 : ¬ ((1 + (s.take at_).count 10 : Nat) : Int) < (L : Int) := by omega
      simp -implicitDefEqProofs only [gantkeep4_WordPlaces_b0, go_sem, ↓reduceIte, reduceCtorEq, Int.reduceLT, Int.reduceLE, Int.reduceToNat, Nat.reduceAdd, Nat.reduceMul, Nat.reduceLeDiff, Nat.reduceLT, Nat.reduceSub, Int.reduceNeg, Int.reduceEq, Int.reduceBEq, Int.reduceBNe, Nat.reduceEqDiff, hi', hg, hLn, c1, hw2, c2, hw3, c3, p2, take_drop', p3, c4, hw1]
      exact ⟨at_ + tx.length, 1 + (s.take at_).count 10, by omega, p4, rfl⟩
    · rintro env h' ⟨rfl, E, L, hL, hp', rfl⟩
      simp -implicitDefEqProofs only [gantkeep4_WordPlaces_b0, go_sem, ↓reduceIte, reduceCtorEq, Int.reduceLT, Int.reduceLE, Int.reduceToNat, Nat.reduceAdd, Nat.reduceMul, Nat.reduceLeDiff, Nat.reduceLT, Nat.reduceSub, Int.reduceNeg, Int.reduceEq, Int.reduceBEq, Int.reduceBNe, Nat.reduceEqDiff, Int.lt_irrefl]
      exact hP1
end Vg.G2
