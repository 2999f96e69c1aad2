import Derived.Test.YtiidghpdgkfncaaVB3
namespace Vg.G2
open Go Lg
set_option linter.unusedSimpArgs false
set_option maxRecDepth 10000
set_option maxHeartbeats 1000000
attribute [local congr] bind_congr1
attribute [local go_sem] ite_self cloneA cloneC Nat.zero_le mm_max mm_min codeVL_loop keepV_from keepFrom List.contains_cons List.contains_nil codeVL_skip codeVL_exit codeVL_ret codeVL_ops codeVL_dops codeVL_seq codeVL_cond codeVL_block opsV_nil opsV_d opsV_n opsV_g vs_c vs_t nrm nrmL eqE eqL List.replicate List.cons_append List.nil_append List.append_nil List.getD_cons_zero List.getD_cons_succ List.getD_nil List.set_cons_zero List.set_cons_succ Option.bind_some Option.bind_none Option.bind_assoc thenV_norm thenV_exit thenV_ret blockV_norm blockV_exit blockV_ret endV_norm endV_ret backV fz_list fz_int fz_bool fz_str fz_tup fz_agg mapM_cons' mapM_nil' fzN_tup fzN_agg fzN_list fzN_int fzN_bool fzN_str fzN_cptr fzN_nilptr ressV resV oneV ite_bind if_true if_false decide_eq_true_eq Bool.false_eq_true Bool.not_true Bool.not_false Bool.and_true Bool.and_false Bool.true_and Bool.false_and List.all_cons List.all_nil List.length_cons List.length_nil List.map_cons List.map_nil fillV vsplice List.take_succ_cons List.take_zero List.drop_succ_cons List.drop_zero List.drop_nil List.take_nil beq_self_eq_true vbnds Int.toNat_zero Int.toNat_one Nat.zero_add Nat.add_zero Nat.mul_one Nat.one_mul Nat.mul_zero Nat.zero_mul List.getElem?_cons_zero List.getElem?_cons_succ List.getElem?_nil List.getElem?_map Option.map_some Option.map_none List.length_map decide_true decide_false Bool.or_true Bool.or_false Bool.true_or Bool.false_or not_true_eq_false not_false_eq_true true_and and_true false_and and_false true_or or_true false_or or_false ne_eq beq_true Bool.true_beq Bool.false_beq int_beq int_bne nat_beq bool_beq_true bool_beq_false ite_boolV cast_zero cast_one Bool.not_eq_true' Bool.not_eq_false' decide_eq_false_iff_not gt_iff_lt ge_iff_le Nat.le_refl Nat.lt_irrefl Nat.add_sub_cancel Nat.sub_zero Int.toNat_natCast Int.natCast_nonneg Int.cast_ofNat_Int lowL VV.low trim chunk appendV rowsOf Sat_some take_map_len take_len take_set_len succ_ne_zero succ_pos' List.length_set opV_mvF opV_mvT opV_mvs opV_pick opV_alloc opV_box opV_build opV_bslice opV_load opV_store opV_nilchk opV_bin opV_eqv opV_un opV_conv opV_b2s opV_s2b opV_slc opV_fieldAddr opV_field opV_indexAddr opV_indexAddrA opV_index opV_indexA opV_extract opV_lenS opV_lenL opV_lenM opV_lenC opV_min2 opV_max2 opV_append opV_copy opV_make opV_mkmap opV_lookup opV_update opV_mkfunc opV_call opV_callv opV_ext extE_index1 extE_count1 extE_join argV_str argV_int argV_bool argV_list Option.isNone_none Option.isNone_some opV_stuck strip_mvF strip_mvT strip_mvC strip_mvs strip_pick strip_alloc strip_box strip_build strip_bslice strip_load strip_storeT strip_storeC strip_nilchk strip_bin strip_eqv strip_un strip_conv strip_b2s strip_s2b strip_slc strip_fieldAddr strip_field strip_indexAddr strip_indexAddrA strip_index strip_indexA strip_extract strip_lenS strip_lenL strip_lenM strip_lenC strip_min2 strip_max2 strip_appendT strip_appendC strip_copy strip_make strip_mkmap strip_lookup strip_update strip_mkfunc strip_call strip_callv strip_ext strip_stuck vr_t vr_c cmpX_t cmpX_c putV_s putV_n ofLV_int ofLV_bool ofLV_str ofLV_nilslice ofLV_nilptr ofLV_nilfunc ofLV_nilmap ofLV_nilif ofLV_agg ofLV_tup ofLV_func ofLVs_nil ofLVs_cons binE_add binE_sub binE_mul binE_eql binE_neq binE_lss binE_leq binE_gtr binE_geq binE_quo binE_rem binE_seql binE_sneq unE_not unE_neg sh_undef ow_undef cells_undef single_undef stV_undef sh_bool ow_bool cells_bool single_bool sc_bool stV_bool cmpV_bool sh_int ow_int cells_int single_int sc_int stV_int cmpV_int sh_str ow_str cells_str single_str sc_str stV_str cmpV_str sh_ptr ow_ptr cells_ptr single_ptr stV_ptr cmpV_ptr sh_cptr ow_cptr cells_cptr single_cptr stV_cptr cmpV_cptr sh_nilptr ow_nilptr cells_nilptr single_nilptr stV_nilptr cmpV_nilptr sh_lists ow_lists cells_lists single_lists stV_lists sh_listf ow_listf cells_listf single_listf stV_listf sh_listo ow_listo cells_listo single_listo stV_listo sh_hs ow_hs cells_hs single_hs stV_hs sh_map ow_map cells_map single_map stV_map cmpV_map sh_nilmap ow_nilmap cells_nilmap single_nilmap stV_nilmap cmpV_nilmap sh_func ow_func cells_func single_func stV_func cmpV_func sh_nilfunc ow_nilfunc cells_nilfunc single_nilfunc stV_nilfunc cmpV_nilfunc sh_iface ow_iface cells_iface single_iface stV_iface cmpV_iface sh_nilif ow_nilif cells_nilif single_nilif stV_nilif cmpV_nilif sh_agg ow_agg cells_agg single_agg stV_agg cmpV_agg sh_tup ow_tup cells_tup single_tup stV_tup cmpV_cons guardV_bool guardV_tup nat_int strings_Count_f strings_Count_v word_Line_r0 word_Line_r1 word_Line_r2 word_Line_f word_Line_v word_Read_r0 word_Read_r1 word_Read_r2 word_Read_r3 word_Read_r4 word_Read_r5 word_Read_r6 word_Read_r7 word_Read_r8 word_Read_r9 word_Read_r10 word_Read_r11 word_Read_f word_Read_v

theorem Line_spec (s : List UInt8) (hs : s.length ≤ 4096) (a : Nat) (ha : a ≤ s.length) (lo : Nat) (h : VHeap) : callVL vp lo n_word_Line [.str s, .int .i64 (a : Nat)] h = some (.int .i64 ((1 + (s.take a).count 10 : Nat) : Int), h) := by
  have hC : ∀ lo h, callVL vp lo n_strings_Count [.str (s.take a), .str [10]] h = some (.int .i64 ((s.take a).count 10 : Nat), h) := by
    intro lo h
    refine call_valE (fn := strings_Count_v) rfl rfl rfl rfl rfl ?_ lo h
    simp -implicitDefEqProofs only [go_sem, ↓reduceIte, reduceCtorEq, Int.reduceLT, Int.reduceLE, Int.reduceToNat, Nat.reduceAdd, Nat.reduceMul, Nat.reduceLeDiff, Nat.reduceLT, Nat.reduceSub, Int.reduceNeg, Int.reduceEq, Int.reduceBEq, Int.reduceBNe, Nat.reduceEqDiff, ext2]
  refine call_valE (fn := word_Line_v) rfl rfl rfl rfl rfl ?_ lo h
  have h1 : max (a : Int) 0 = a := by omega
  have h2 : min (a : Int) (s.length : Int) = a := by omega
  have h3 : (s.take a).count 10 ≤ 4096 := Nat.le_trans List.count_le_length (by rw [List.length_take]; omega)
  have hw : IntKind.i64.wrap (1 + ((s.take a).count 10 : Nat)) = ((1 + (s.take a).count 10 : Nat) : Int) := by rw [wrap_id (by omega) (by omega)]; rfl
  simp -implicitDefEqProofs only [go_sem, ↓reduceIte, reduceCtorEq, Int.reduceLT, Int.reduceLE, Int.reduceToNat, Nat.reduceAdd, Nat.reduceMul, Nat.reduceLeDiff, Nat.reduceLT, Nat.reduceSub, Int.reduceNeg, Int.reduceEq, Int.reduceBEq, Int.reduceBNe, Nat.reduceEqDiff, h1, h2, ha, hC, hw]

/-- A word. -/
structure Wd where
  kind : Int
  at_ : Nat
  text : List UInt8
  deriving DecidableEq
def fW (w : Wd) : List VV := [.int .i64 w.kind, .int .i64 (w.at_ : Nat), .str w.text]
theorem fW_len (w : Wd) : (fW w).length = 3 := rfl
theorem tw_pos {cls : UInt8 → Bool} {c : UInt8} {r : List UInt8} (h : cls c = true) : 1 ≤ tw cls (c :: r) := by rw [tw_cons, if_pos h]; omega
theorem numL_pos {c : UInt8} {r : List UInt8} (h : isDigit c = true) : 1 ≤ numL (c :: r) := by
  have := tw_pos (r := r) h
  unfold numL
  split
  · split <;> omega
  · exact this
theorem oneL_len {r : List UInt8} (h : (oneL r).2.2 = 0) : 1 ≤ (oneL r).2.1 ∧ (oneL r).2.1 ≤ r.length := by
  cases r with
  | nil => simp [oneL] at h
  | cons c r =>
    rw [oneL_cons] at h ⊢
    by_cases h1 : isLetter c = true
    · simp only [h1, if_true] at h ⊢
      split at h
      · rename_i h2; simp only [h2, if_true]; exact ⟨tw_pos h1, tw_le _ _⟩
      · simp at h
    · simp only [h1, if_false, Bool.false_eq_true] at h ⊢
      by_cases h2 : isDigit c = true
      · simp only [h2, if_true] at h ⊢
        split at h
        · rename_i h3; simp only [h3, if_true]; exact ⟨numL_pos h2, numL_le _⟩
        · simp at h
      · simp only [h2, if_false, Bool.false_eq_true] at h ⊢
        split at h
        · rename_i h3; simp only [h3, if_true]; exact ⟨Nat.le_refl _, by simp⟩
        · simp at h
/-- The words of a text, at most so many. -/
def rd : Nat → Nat → List UInt8 → Except Int (List Wd)
  | 0, _, _ => .ok []
  | n + 1, a, r => if r = [] then .ok [] else
    if (oneL r).2.2 = 0 then
      (rd n (a + (oneL r).2.1 + sk false (r.drop (oneL r).2.1)) ((r.drop (oneL r).2.1).drop (sk false (r.drop (oneL r).2.1)))).map (⟨(oneL r).1, a, r.take (oneL r).2.1⟩ :: ·)
    else .error (oneL r).2.2
def readF (s : List UInt8) : Except Int (List Wd) := if 4096 < s.length then .error 2 else rd s.length (sk false s) (s.drop (sk false s))
def readV : Except Int (List Wd) → VV
  | .ok ws => .tup [.list .s (ws.map fW), .int .i64 0]
  | .error e => .tup [.list .s [], .int .i64 e]
theorem err_map {α β : Type} {e : Int} (f : α → β) : (Except.error e : Except Int α).map f = .error e := rfl
theorem ok_map {α β : Type} {a : α} (f : α → β) : (Except.ok a : Except Int α).map f = .ok (f a) := rfl
theorem map_map {α β γ : Type} (x : Except Int α) (f : α → β) (g : β → γ) : (x.map f).map g = x.map fun a => g (f a) := by cases x <;> rfl

theorem Read_spec (s : List UInt8) (lo : Nat) (h : VHeap) : callVL vp lo n_word_Read [.str s] h = some (readV (readF s), h) := by
  refine call_valE (fn := word_Read_v) rfl rfl rfl rfl rfl ?_ lo h
  generalize hT : readF s = T
  obtain ⟨P, hP⟩ : ∃ P : VV → Prop, P = fun w : VV => w = readV T := ⟨_, rfl⟩
  have hP1 : P (readV T) := by subst hP; rfl
  have hP2 : (fun r : VV × VHeap => r.1 = readV T) = fun r => P r.1 := by subst hP; rfl
  rw [hP2]
  clear hP hP2
  unfold readF at hT
  by_cases hs : 4096 < s.length
  · rw [if_pos hs] at hT
    have hs' : (4096 : Int) < (s.length : Int) := by omega
    subst hT
    simp -implicitDefEqProofs only [go_sem, ↓reduceIte, reduceCtorEq, Int.reduceLT, Int.reduceLE, Int.reduceToNat, Nat.reduceAdd, Nat.reduceMul, Nat.reduceLeDiff, Nat.reduceLT, Nat.reduceSub, Int.reduceNeg, Int.reduceEq, Int.reduceBEq, Int.reduceBNe, Nat.reduceEqDiff, hs']
    exact hP1
  rw [if_neg hs] at hT
  have hs' : ¬ (4096 : Int) < (s.length : Int) := by omega
  have hsk := skip_spec s (by omega) 0 (by omega)
  have hsl := sk_le false s
  simp only [List.drop_zero, Nat.zero_add, cast_zero] at hsk
  generalize sk false s = a0 at *
  simp -implicitDefEqProofs only [go_sem, ↓reduceIte, reduceCtorEq, Int.reduceLT, Int.reduceLE, Int.reduceToNat, Nat.reduceAdd, Nat.reduceMul, Nat.reduceLeDiff, Nat.reduceLT, Nat.reduceSub, Int.reduceNeg, Int.reduceEq, Int.reduceBEq, Int.reduceBNe, Nat.reduceEqDiff, hs', hsk]
  rw [Sat_bind]
  refine loop_down (I := fun k env h' => h' = [] ∧ ∃ (a : Nat) (acc : List Wd), k = s.length - a ∧ a ≤ s.length ∧ acc.length ≤ a ∧ (∃ n, s.length - a ≤ n ∧ (rd n a (s.drop a)).map (acc ++ ·) = T) ∧ env = [.str s, .undef, .undef, .undef, .list .o (acc.map fW), .int .i64 ((a : Nat) : Int), .undef, .undef, .undef, .undef, .undef, .undef, .undef, .undef, .undef, .undef, .undef, .undef, .undef, .undef, .undef, .undef, .undef, .undef, .undef, .undef, .undef, .undef, .undef, .undef, .undef, .undef, .undef, .undef, .undef, .undef, .undef, .undef]) ?_ (i := s.length - a0) ⟨rfl, a0, [], rfl, hsl, Nat.zero_le _, ⟨s.length, by omega, by rw [← hT]; cases rd s.length a0 (s.drop a0) <;> rfl⟩, by simp -implicitDefEqProofs only [go_sem, ↓reduceIte, reduceCtorEq, Int.reduceLT, Int.reduceLE, Int.reduceToNat, Nat.reduceAdd, Nat.reduceMul, Nat.reduceLeDiff, Nat.reduceLT, Nat.reduceSub, Int.reduceNeg, Int.reduceEq, Int.reduceBEq, Int.reduceBNe, Nat.reduceEqDiff]⟩
  rintro k env h' ⟨rfl, a, acc, rfl, h2, hac, ⟨n, hn, hR⟩, rfl⟩
  rcases Nat.lt_or_ge a s.length with hlt | hge
  · have hlt' : (a : Int) < (s.length : Int) := by omega
    have hne : s.drop a ≠ [] := fun h => by have := congrArg List.length h; simp at this; omega
    have ho := one_spec s (by omega) a hlt
    obtain ⟨m, rfl⟩ : ∃ m, n = m + 1 := ⟨n - 1, by omega⟩
    simp only [rd, hne, if_false] at hR
    unfold oneV2 at ho
    by_cases he : (oneL (s.drop a)).2.2 = 0
    · obtain ⟨l1, l2⟩ := oneL_len he
      simp only [he, if_true] at ho hR
      generalize (oneL (s.drop a)).2.1 = len at *
      generalize (oneL (s.drop a)).1 = kd at *
      rw [List.length_drop] at l2
      have hle : ((s.drop a).take len).length = len := by rw [List.length_take, List.length_drop]; omega
      have hw : IntKind.i64.wrap ((a : Int) + (len : Int)) = ((a + len : Nat) : Int) := by rw [wrap_id (by omega) (by omega)]; rfl
      have hsk2 := skip_spec s (by omega) (a + len) (by omega)
      have hal := all_len fW_len acc
      have hr : (acc.length + 1 + 512) * 32 ≤ 140737488355328 := by omega
      simp -implicitDefEqProofs only [word_Read_b0, go_sem, ↓reduceIte, reduceCtorEq, Int.reduceLT, Int.reduceLE, Int.reduceToNat, Nat.reduceAdd, Nat.reduceMul, Nat.reduceLeDiff, Nat.reduceLT, Nat.reduceSub, Int.reduceNeg, Int.reduceEq, Int.reduceBEq, Int.reduceBNe, Nat.reduceEqDiff, hlt', ho, hal, hr, hle, hw, hsk2]
      rw [List.drop_drop, List.drop_drop, map_map] at hR
      have hsl2 := sk_le false (s.drop (a + len))
      rw [List.length_drop] at hsl2
      refine ⟨s.length - (a + len + sk false (s.drop (a + len))), by omega, a + len + sk false (s.drop (a + len)), acc ++ [⟨kd, a, (s.drop a).take len⟩], rfl, by omega, by simp; omega, ⟨m, by omega, ?_⟩, ?_⟩
      · rw [← hR]; congr 1; funext x; simp
      · simp only [List.map_append, List.map_cons, List.map_nil, fW]
    · simp only [he, if_false, err_map] at ho hR
      subst hR
      simp -implicitDefEqProofs only [word_Read_b0, go_sem, ↓reduceIte, reduceCtorEq, Int.reduceLT, Int.reduceLE, Int.reduceToNat, Nat.reduceAdd, Nat.reduceMul, Nat.reduceLeDiff, Nat.reduceLT, Nat.reduceSub, Int.reduceNeg, Int.reduceEq, Int.reduceBEq, Int.reduceBNe, Nat.reduceEqDiff, hlt', ho, he]
      exact hP1
  · have hlt' : ¬ (a : Int) < (s.length : Int) := by omega
    simp -implicitDefEqProofs only [word_Read_b0, go_sem, ↓reduceIte, reduceCtorEq, Int.reduceLT, Int.reduceLE, Int.reduceToNat, Nat.reduceAdd, Nat.reduceMul, Nat.reduceLeDiff, Nat.reduceLT, Nat.reduceSub, Int.reduceNeg, Int.reduceEq, Int.reduceBEq, Int.reduceBNe, Nat.reduceEqDiff, hlt']
    have : T = .ok acc := by
      rw [← hR, List.drop_eq_nil_of_le hge]
      cases n <;> simp [rd, ok_map]
    subst this
    exact hP1
theorem worded_run : callV vp 60 0 n_gantkeep4_worded [] [] = some (.bool true, []) := by kernel_rfl
theorem worded_spec (lo : Nat) (h : VHeap) : callVL vp lo n_gantkeep4_worded [] h = some (.bool true, h) := call_eval (fn := gantkeep4_worded_v) rfl rfl rfl rfl worded_run lo h
end Vg.G2
