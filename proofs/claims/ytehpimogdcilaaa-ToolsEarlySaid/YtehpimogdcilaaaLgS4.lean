import Derived.Test.YtehpimogdcilaaaLgS3
namespace Lg.G1
open Go Lg
set_option linter.unusedSimpArgs false
set_option maxRecDepth 10000
attribute [local congr] bind_congr1

def gt (a : List Int) (x : Int) : Int := a.getD x.toNat 0
theorem gt_at {a : List Int} {x : Int} (h : x.toNat < a.length) : a[x.toNat]? = some (gt a x) := by
  unfold gt; rw [List.getD_eq_getElem?_getD, List.getElem?_eq_getElem h]; rfl
/-- When what comes before has ended. -/
def atOf (out ts : List Int) (l : List Int) : Int := l.foldl (fun a x => max a (gt out x + gt ts x)) 0
theorem atOf_snoc (out ts l : List Int) (x : Int) : atOf out ts (l ++ [x]) = max (atOf out ts l) (gt out x + gt ts x) := by simp [atOf]
theorem atOf_take (out ts l : List Int) (i : Nat) (x : Int) (hx : l[i]? = some x) : atOf out ts (l.take (i + 1)) = max (atOf out ts (l.take i)) (gt out x + gt ts x) := by
  rw [← atOf_snoc]; congr 1; rw [List.take_add_one, hx]; rfl
theorem atOf_congr (out out' ts l : List Int) (h : ∀ x ∈ l, gt out x = gt out' x) : atOf out ts l = atOf out' ts l := by
  unfold atOf
  have : ∀ (l : List Int) (a : Int), (∀ x ∈ l, gt out x = gt out' x) → l.foldl (fun a x => max a (gt out x + gt ts x)) a = l.foldl (fun a x => max a (gt out' x + gt ts x)) a := by
    intro l
    induction l with
    | nil => intro _ _; rfl
    | cons y r ih =>
      intro a h
      simp only [List.foldl_cons]
      rw [h y (by simp)]
      exact ih _ (fun x hx => h x (by simp [hx]))
  exact this l 0 h
theorem atOf_nonneg (out ts l : List Int) : 0 ≤ atOf out ts l := by
  unfold atOf
  have : ∀ (l : List Int) (a : Int), 0 ≤ a → 0 ≤ l.foldl (fun a x => max a (gt out x + gt ts x)) a := by
    intro l
    induction l with
    | nil => intro a h; exact h
    | cons y r ih => intro a h; exact ih _ (by simp only; omega)
  exact this l 0 (by omega)
theorem atOf_le (out ts l : List Int) (b : Int) (hb : 0 ≤ b) (h : ∀ x ∈ l, gt out x + gt ts x ≤ b) : atOf out ts l ≤ b := by
  unfold atOf
  have : ∀ (l : List Int) (a : Int), a ≤ b → (∀ x ∈ l, gt out x + gt ts x ≤ b) → l.foldl (fun a x => max a (gt out x + gt ts x)) a ≤ b := by
    intro l
    induction l with
    | nil => intro a h _; exact h
    | cons y r ih => intro a h h2; exact ih _ (by have := h2 y (by simp); simp only; omega) (fun x hx => h2 x (by simp [hx]))
  exact this l 0 hb h
theorem le_atOf (out ts l : List Int) {x : Int} (hx : x ∈ l) : gt out x + gt ts x ≤ atOf out ts l := by
  unfold atOf
  have mono : ∀ (l : List Int) (a : Int), a ≤ l.foldl (fun a x => max a (gt out x + gt ts x)) a := by
    intro l
    induction l with
    | nil => intro a; exact Int.le_refl a
    | cons y r ih => intro a; have := ih (max a (gt out y + gt ts y)); simp only [List.foldl_cons]; omega
  have : ∀ (l : List Int) (a : Int), x ∈ l → gt out x + gt ts x ≤ l.foldl (fun a x => max a (gt out x + gt ts x)) a := by
    intro l
    induction l with
    | nil => intro a h; cases h
    | cons y r ih =>
      intro a h
      simp only [List.foldl_cons]
      rcases List.mem_cons.1 h with rfl | h
      · have := mono r (max a (gt out x + gt ts x)); omega
      · exact ih _ h
  exact this l 0 hx
/-- When the first ones have ended. -/
def endN (out ts : List Int) : Nat → Int
  | 0 => 0
  | k + 1 => max (endN out ts k) (gt out k + gt ts k)
theorem endN_congr (out out' ts : List Int) (n : Nat) (h : ∀ k : Nat, k < n → gt out k = gt out' k) : endN out ts n = endN out' ts n := by
  induction n with
  | zero => rfl
  | succ n ih => rw [endN, endN, ih (fun k hk => h k (by omega)), h n (by omega)]
theorem endN_bnd (out ts : List Int) (n : Nat) (b : Int) (hb : 0 ≤ b) (h : ∀ k : Nat, k < n → gt out k + gt ts k ≤ b) : 0 ≤ endN out ts n ∧ endN out ts n ≤ b := by
  induction n with
  | zero => exact ⟨Int.le_refl 0, hb⟩
  | succ n ih => have := ih (fun k hk => h k (by omega)); have := h n (by omega); rw [endN]; omega
theorem le_endN (out ts : List Int) (n : Nat) {k : Nat} (hk : k < n) : gt out k + gt ts k ≤ endN out ts n := by
  induction n with
  | zero => omega
  | succ n ih =>
    rw [endN]
    by_cases h : k = n
    · subst h; omega
    · have := ih (by omega); omega

/-- The earliest starts of the first k steps. -/
def Early (L : List (List Int)) (ts E : List Int) (k : Nat) : Prop :=
  E.length = k ∧ (∀ (i : Nat) (l : List Int), i < k → L[i]? = some l → gt E i = atOf E ts l) ∧ ∀ i : Nat, i < k → 0 ≤ gt E i ∧ gt E i ≤ 2000 * i
/-- Good durations. -/
def Dur (L : List (List Int)) (ts : List Int) : Prop := ts.length = L.length ∧ ∀ x ∈ ts, 0 ≤ x ∧ x ≤ 2000
theorem Dur.gt {L : List (List Int)} {ts : List Int} (h : Dur L ts) (x : Int) : 0 ≤ gt ts x ∧ gt ts x ≤ 2000 := by
  unfold G1.gt
  rw [List.getD_eq_getElem?_getD]
  cases hx : ts[x.toNat]? with
  | none => simp
  | some y => exact h.2 y (List.mem_of_getElem? hx)
theorem gt_snoc_lt {E : List Int} {a x : Int} (h : x.toNat < E.length) : gt (E ++ [a]) x = gt E x := by
  unfold gt; rw [List.getD_eq_getElem?_getD, List.getD_eq_getElem?_getD, List.getElem?_append_left h]
theorem gt_snoc_eq {E : List Int} {a : Int} : gt (E ++ [a]) (E.length : Nat) = a := by
  unfold gt; rw [List.getD_eq_getElem?_getD, Int.toNat_natCast, List.getElem?_concat_length]; rfl
theorem Early.atb {L : List (List Int)} {ts E : List Int} {k : Nat} (h : Early L ts E k) (hd : Dur L ts) {l : List Int} (hi : Inc k l) (i : Nat) : 0 ≤ atOf E ts (l.take i) ∧ atOf E ts (l.take i) ≤ 2000 * k := by
  refine ⟨atOf_nonneg _ _ _, atOf_le _ _ _ _ (by omega) fun x hx => ?_⟩
  have hx' := hi.2.1 x (List.mem_of_mem_take hx)
  have h1 := h.2.2 x.toNat (by omega)
  rw [Int.toNat_of_nonneg hx'.1] at h1
  have := hd.gt x
  omega
theorem Early.snoc {L : List (List Int)} {ts E : List Int} {k : Nat} (hW : WF L) (h : Early L ts E k) (hd : Dur L ts) {l : List Int} (hl : L[k]? = some l) : Early L ts (E ++ [atOf E ts l]) (k + 1) := by
  have hi := hW.2 k l hl
  have same : ∀ (j : Nat) (m : List Int), j ≤ k → L[j]? = some m → atOf (E ++ [atOf E ts l]) ts m = atOf E ts m := by
    intro j m hj hm
    refine atOf_congr _ _ _ _ fun x hx => gt_snoc_lt ?_
    have := (hW.2 j m hm).2.1 x hx
    have := h.1
    omega
  refine ⟨by simp [h.1], ?_, ?_⟩
  · intro i m hik hm
    rw [same i m (by omega) hm]
    by_cases hk : i = k
    · subst hk; rw [hl] at hm; cases hm
      have := gt_snoc_eq (E := E) (a := atOf E ts l)
      rw [h.1] at this; exact this
    · rw [gt_snoc_lt (by have := h.1; omega)]; exact h.2.1 i m (by omega) hm
  · intro i hik
    by_cases hk : i = k
    · subst hk
      have := gt_snoc_eq (E := E) (a := atOf E ts l)
      rw [h.1] at this; rw [this]
      have := h.atb hd hi l.length
      rw [List.take_length] at this; exact this
    · rw [gt_snoc_lt (by have := h.1; omega)]; exact h.2.2 i (by omega)

theorem Times_in {lo k len : Nat} {h : Heap} {v tv ov w : LV} {e : Int} {L : List (List Int)} {ts E l : List Int} (hE : Early L ts E k) (hd : Dur L ts) (ht : RI h tv ts) (ho : RI h ov E) (hr : RI h w l) (hi : Inc k l) (hk : k < 9) (hkl : k < L.length) {env : Env} (he : keepE [1, 8, 9, 10, 12, 21, 22, 23, 28, 29, 30] env = [.undef, tv, .undef, .undef, .undef, .undef, .undef, .undef, ov, .int .i64 e, .int .i64 k, .undef, .int .i64 0, .undef, .undef, .undef, .undef, .undef, .undef, .undef, .undef, v, .int .i64 len, .int .i64 k, .undef, .undef, .undef, .undef, w, .int .i64 l.length, .int .i64 ((0 : Nat) : Int), .undef, .undef, .undef, .undef, .undef, .undef, .undef, .undef, .undef, .undef, .undef, .undef, .undef, .undef, .undef, .undef, .undef, .undef, .undef, .undef, .undef, .undef, .undef, .undef, .undef, .undef, .undef, .undef, .undef, .undef]) :
    Sat (loopL (callL lp) lo [1, 8, 9, 10, 12, 21, 22, 23, 28, 29, 30] order_Times_b1 env h) fun r => r = (.exit 2, [.undef, tv, .undef, .undef, .undef, .undef, .undef, .undef, ov, .int .i64 e, .int .i64 k, .undef, .int .i64 (atOf E ts l), .undef, .undef, .undef, .undef, .undef, .undef, .undef, .undef, v, .int .i64 len, .int .i64 k, .undef, .undef, .undef, .undef, w, .int .i64 l.length, .int .i64 l.length, .bool false, .undef, .undef, .undef, .undef, .undef, .undef, .undef, .undef, .undef, .undef, .undef, .undef, .undef, .undef, .undef, .undef, .undef, .undef, .undef, .undef, .undef, .undef, .undef, .undef, .undef, .undef, .undef, .undef, .undef], h) := by
  refine loop_up (I := fun i env h' => h' = h ∧ env = [.undef, tv, .undef, .undef, .undef, .undef, .undef, .undef, ov, .int .i64 e, .int .i64 k, .undef, .int .i64 (atOf E ts (l.take i)), .undef, .undef, .undef, .undef, .undef, .undef, .undef, .undef, v, .int .i64 len, .int .i64 k, .undef, .undef, .undef, .undef, w, .int .i64 l.length, .int .i64 i, .undef, .undef, .undef, .undef, .undef, .undef, .undef, .undef, .undef, .undef, .undef, .undef, .undef, .undef, .undef, .undef, .undef, .undef, .undef, .undef, .undef, .undef, .undef, .undef, .undef, .undef, .undef, .undef, .undef, .undef]) l.length ?_ ?_ (Nat.zero_le _) ⟨rfl, he⟩
  · rintro i env h' hil ⟨rfl, rfl⟩
    obtain ⟨x, hx⟩ : ∃ x, l[i]? = some x := ⟨_, List.getElem?_eq_getElem hil⟩
    have hlk := hi.2.2
    have hb := hi.at hx
    have hil' : (i : Int) < (l.length : Int) := by omega
    have hw : IntKind.i64.wrap ((i : Int) + 1) = ((i + 1 : Nat) : Int) := by rw [wrap_id (by omega) (by omega)]; rfl
    obtain ⟨n1, off1, f1, rw1, cs1, rfl, hn1, hc1, _⟩ := hr.at hx
    have hx1 : x.toNat < E.length := by rw [hE.1]; omega
    have hx2 : x.toNat < ts.length := by rw [hd.1]; omega
    obtain ⟨n2, off2, f2, rw2, cs2, rfl, hn2, hc2, _⟩ := ht.at (gt_at hx2)
    obtain ⟨n3, off3, f3, rw3, cs3, rfl, hn3, hc3, _⟩ := ho.at (gt_at hx1)
    have hb1 := hE.2.2 x.toNat (by omega)
    rw [Int.toNat_of_nonneg hb.1] at hb1
    have hb2 := hd.gt x
    have hw2 : IntKind.i64.wrap (gt E x + gt ts x) = gt E x + gt ts x := wrap_id (by omega) (by omega)
    have hat := atOf_take E ts l i x hx
    have hx0 := hb.1
    simp only [order_Times_r0, order_Times_r1, order_Times_r2, order_Times_r3, order_Times_r4, order_Times_r5, order_Times_r6, order_Times_r7, order_Times_r8, order_Times_r9, order_Times_r10, order_Times_r11, order_Times_r12, order_Times_r13, order_Times_r14, order_Times_b1, order_Times_r15, order_Times_r16, order_Times_r17, order_Times_b0, order_Times_r18, order_Times_f, mm_max, mm_min, ↓opE_lenL, lenF_nil, lenF_slice, codeL_loop, keepE_from, keepFrom, List.contains_cons, List.contains_nil, codeL_skip, codeL_exit, codeL_ret, codeL_ops, codeL_dops, codeL_seq, codeL_cond, codeL_block, opsE_nil, opsE_cons, operE_plain, operE_guard, guardB, opE, X.ev, binE, unE, eqE, eqL, putE, List.replicate, List.cons_append, List.nil_append, List.append_nil, List.getD_cons_zero, List.getD_cons_succ, List.getD_nil, List.set_cons_zero, List.set_cons_succ, Option.bind_some, Option.bind_none, Option.bind_assoc, thenE_norm, thenE_exit, thenE_ret, blockE_norm, blockE_exit, blockE_ret, endE_norm, endE_ret, resultsE, resE, oneOf, ite_bind, if_true, if_false, decide_eq_true_eq, Bool.false_eq_true, reduceCtorEq, Bool.not_true, Bool.not_false, Bool.and_true, Bool.and_false, Bool.true_and, Bool.false_and, cells_agg, cells_bool, single_bool, cells_int, single_int, cells_str, single_str, cells_ptr, single_ptr, cells_nilptr, single_nilptr, cells_slice, single_slice, cells_nilslice, single_nilslice, cells_map, single_map, cells_nilmap, single_nilmap, cells_func, single_func, cells_nilfunc, single_nilfunc, cells_iface, single_iface, cells_nilif, single_nilif, List.all_cons, List.all_nil, List.length_cons, List.length_nil, List.map_cons, List.map_nil, fillE, splice_zero, splice_cons, splice_head, List.take_succ_cons, List.take_zero, List.drop_succ_cons, List.drop_zero, List.drop_nil, List.take_nil, beq_self_eq_true, bnds, asNat, Int.toNat_zero, Int.toNat_one, Nat.zero_add, Nat.add_zero, Nat.mul_one, Nat.one_mul, List.getElem?_cons_zero, List.getElem?_cons_succ, List.getElem?_nil, decide_true, decide_false, Bool.or_true, Bool.or_false, Bool.true_or, Bool.false_or, not_true_eq_false, not_false_eq_true, true_and, and_true, false_and, and_false, true_or, or_true, false_or, or_false, ne_eq, beq_true, Bool.true_beq, Bool.false_beq, int_beq, int_bne, nat_beq, bool_beq_true, bool_beq_false, ite_bool, cast_zero, cast_one, Bool.not_eq_true', Bool.not_eq_false', decide_eq_false_iff_not, gt_iff_lt, ge_iff_le, Nat.le_refl, Nat.lt_irrefl, Nat.add_sub_cancel, Nat.sub_zero, Int.reduceLT, Int.reduceLE, Int.reduceToNat, Nat.reduceAdd, Nat.reduceMul, Nat.reduceLeDiff, Nat.reduceLT, Nat.reduceSub, Int.reduceNeg, Int.reduceEq, Int.reduceBEq, Int.reduceBNe, Nat.reduceEqDiff, Int.toNat_natCast, Int.natCast_nonneg, Int.cast_ofNat_Int, hil', hil, hx0, hx1, hx2, hn1, hc1, hn2, hc2, hn3, hc3, hw, hw2, ← hat]
    exact ⟨_, rfl, rfl, rfl⟩
  · rintro env h' ⟨rfl, rfl⟩
    simp only [order_Times_r0, order_Times_r1, order_Times_r2, order_Times_r3, order_Times_r4, order_Times_r5, order_Times_r6, order_Times_r7, order_Times_r8, order_Times_r9, order_Times_r10, order_Times_r11, order_Times_r12, order_Times_r13, order_Times_r14, order_Times_b1, order_Times_r15, order_Times_r16, order_Times_r17, order_Times_b0, order_Times_r18, order_Times_f, mm_max, mm_min, ↓opE_lenL, lenF_nil, lenF_slice, codeL_loop, keepE_from, keepFrom, List.contains_cons, List.contains_nil, codeL_skip, codeL_exit, codeL_ret, codeL_ops, codeL_dops, codeL_seq, codeL_cond, codeL_block, opsE_nil, opsE_cons, operE_plain, operE_guard, guardB, opE, X.ev, binE, unE, eqE, eqL, putE, List.replicate, List.cons_append, List.nil_append, List.append_nil, List.getD_cons_zero, List.getD_cons_succ, List.getD_nil, List.set_cons_zero, List.set_cons_succ, Option.bind_some, Option.bind_none, Option.bind_assoc, thenE_norm, thenE_exit, thenE_ret, blockE_norm, blockE_exit, blockE_ret, endE_norm, endE_ret, resultsE, resE, oneOf, ite_bind, if_true, if_false, decide_eq_true_eq, Bool.false_eq_true, reduceCtorEq, Bool.not_true, Bool.not_false, Bool.and_true, Bool.and_false, Bool.true_and, Bool.false_and, cells_agg, cells_bool, single_bool, cells_int, single_int, cells_str, single_str, cells_ptr, single_ptr, cells_nilptr, single_nilptr, cells_slice, single_slice, cells_nilslice, single_nilslice, cells_map, single_map, cells_nilmap, single_nilmap, cells_func, single_func, cells_nilfunc, single_nilfunc, cells_iface, single_iface, cells_nilif, single_nilif, List.all_cons, List.all_nil, List.length_cons, List.length_nil, List.map_cons, List.map_nil, fillE, splice_zero, splice_cons, splice_head, List.take_succ_cons, List.take_zero, List.drop_succ_cons, List.drop_zero, List.drop_nil, List.take_nil, beq_self_eq_true, bnds, asNat, Int.toNat_zero, Int.toNat_one, Nat.zero_add, Nat.add_zero, Nat.mul_one, Nat.one_mul, List.getElem?_cons_zero, List.getElem?_cons_succ, List.getElem?_nil, decide_true, decide_false, Bool.or_true, Bool.or_false, Bool.true_or, Bool.false_or, not_true_eq_false, not_false_eq_true, true_and, and_true, false_and, and_false, true_or, or_true, false_or, or_false, ne_eq, beq_true, Bool.true_beq, Bool.false_beq, int_beq, int_bne, nat_beq, bool_beq_true, bool_beq_false, ite_bool, cast_zero, cast_one, Bool.not_eq_true', Bool.not_eq_false', decide_eq_false_iff_not, gt_iff_lt, ge_iff_le, Nat.le_refl, Nat.lt_irrefl, Nat.add_sub_cancel, Nat.sub_zero, Int.reduceLT, Int.reduceLE, Int.reduceToNat, Nat.reduceAdd, Nat.reduceMul, Nat.reduceLeDiff, Nat.reduceLT, Nat.reduceSub, Int.reduceNeg, Int.reduceEq, Int.reduceBEq, Int.reduceBNe, Nat.reduceEqDiff, Int.toNat_natCast, Int.natCast_nonneg, Int.cast_ofNat_Int, Int.lt_irrefl, List.take_length]
    exact ⟨_, rfl, rfl⟩

theorem Times_spec {lo : Nat} {h : Heap} {v tv : LV} {L : List (List Int)} {ts : List Int} (hlo : lo ≤ h.length) (hr : LL h v L) (hW : WF L) (ht : RI h tv ts) (hd : Dur L ts) :
    Sat (callL lp lo 10 [v, tv] h) fun r => ∃ ov E, r.1 = .tup [ov, .int .i64 (endN E ts L.length), .int .i64 0] ∧ Early L ts E L.length ∧ RI r.2 ov E ∧ h.length ≤ r.2.length ∧ ∀ j, j < h.length → r.2[j]? = h[j]? := by
  have hl9 := hW.1
  refine Sat_body (fn := order_Times_f) rfl rfl rfl ?_
  simp only [order_Times_r0, order_Times_r1, order_Times_r2, order_Times_r3, order_Times_r4, order_Times_r5, order_Times_r6, order_Times_r7, order_Times_r8, order_Times_r9, order_Times_r10, order_Times_r11, order_Times_r12, order_Times_r13, order_Times_r14, order_Times_r15, order_Times_r16, order_Times_r17, order_Times_r18, order_Times_f, mm_max, mm_min, ↓opE_lenL, lenF_nil, lenF_slice, codeL_loop, keepE_from, keepFrom, List.contains_cons, List.contains_nil, codeL_skip, codeL_exit, codeL_ret, codeL_ops, codeL_dops, codeL_seq, codeL_cond, codeL_block, opsE_nil, opsE_cons, operE_plain, operE_guard, guardB, opE, X.ev, binE, unE, eqE, eqL, putE, List.replicate, List.cons_append, List.nil_append, List.append_nil, List.getD_cons_zero, List.getD_cons_succ, List.getD_nil, List.set_cons_zero, List.set_cons_succ, Option.bind_some, Option.bind_none, Option.bind_assoc, thenE_norm, thenE_exit, thenE_ret, blockE_norm, blockE_exit, blockE_ret, endE_norm, endE_ret, resultsE, resE, oneOf, ite_bind, if_true, if_false, decide_eq_true_eq, Bool.false_eq_true, reduceCtorEq, Bool.not_true, Bool.not_false, Bool.and_true, Bool.and_false, Bool.true_and, Bool.false_and, cells_agg, cells_bool, single_bool, cells_int, single_int, cells_str, single_str, cells_ptr, single_ptr, cells_nilptr, single_nilptr, cells_slice, single_slice, cells_nilslice, single_nilslice, cells_map, single_map, cells_nilmap, single_nilmap, cells_func, single_func, cells_nilfunc, single_nilfunc, cells_iface, single_iface, cells_nilif, single_nilif, List.all_cons, List.all_nil, List.length_cons, List.length_nil, List.map_cons, List.map_nil, fillE, splice_zero, splice_cons, splice_head, List.take_succ_cons, List.take_zero, List.drop_succ_cons, List.drop_zero, List.drop_nil, List.take_nil, beq_self_eq_true, bnds, asNat, Int.toNat_zero, Int.toNat_one, Nat.zero_add, Nat.add_zero, Nat.mul_one, Nat.one_mul, List.getElem?_cons_zero, List.getElem?_cons_succ, List.getElem?_nil, decide_true, decide_false, Bool.or_true, Bool.or_false, Bool.true_or, Bool.false_or, not_true_eq_false, not_false_eq_true, true_and, and_true, false_and, and_false, true_or, or_true, false_or, or_false, ne_eq, beq_true, Bool.true_beq, Bool.false_beq, int_beq, int_bne, nat_beq, bool_beq_true, bool_beq_false, ite_bool, cast_zero, cast_one, Bool.not_eq_true', Bool.not_eq_false', decide_eq_false_iff_not, gt_iff_lt, ge_iff_le, Nat.le_refl, Nat.lt_irrefl, Nat.add_sub_cancel, Nat.sub_zero, Int.reduceLT, Int.reduceLE, Int.reduceToNat, Nat.reduceAdd, Nat.reduceMul, Nat.reduceLeDiff, Nat.reduceLT, Nat.reduceSub, Int.reduceNeg, Int.reduceEq, Int.reduceBEq, Int.reduceBNe, Nat.reduceEqDiff, Int.toNat_natCast, Int.natCast_nonneg, Int.cast_ofNat_Int, long_spec hr hW ht hd.1 hd.2, hr.len]
  refine Sat.bind (P := fun r => ∃ ov E, r.1 = .exit 0 ∧ r.2.1 = [.undef, tv, .undef, .undef, .undef, .undef, .undef, .undef, ov, .int .i64 (endN E ts L.length), .undef, .undef, .undef, .undef, .undef, .undef, .undef, .undef, .undef, .undef, .undef, v, .int .i64 L.length, .int .i64 L.length, .bool false, .undef, .undef, .undef, .undef, .undef, .undef, .undef, .undef, .undef, .undef, .undef, .undef, .undef, .undef, .undef, .undef, .undef, .undef, .undef, .undef, .undef, .undef, .undef, .undef, .undef, .undef, .undef, .undef, .undef, .undef, .undef, .undef, .undef, .undef, .undef, .undef] ∧ Early L ts E L.length ∧ RI r.2.2 ov E ∧ h.length ≤ r.2.2.length ∧ ∀ j, j < h.length → r.2.2[j]? = h[j]?)
    (loop_up (I := fun k env h' => ∃ ov E, env = [.undef, tv, .undef, .undef, .undef, .undef, .undef, .undef, ov, .int .i64 (endN E ts k), .undef, .undef, .undef, .undef, .undef, .undef, .undef, .undef, .undef, .undef, .undef, v, .int .i64 L.length, .int .i64 k, .undef, .undef, .undef, .undef, .undef, .undef, .undef, .undef, .undef, .undef, .undef, .undef, .undef, .undef, .undef, .undef, .undef, .undef, .undef, .undef, .undef, .undef, .undef, .undef, .undef, .undef, .undef, .undef, .undef, .undef, .undef, .undef, .undef, .undef, .undef, .undef, .undef] ∧ Early L ts E k ∧ OI h' h.length ov E ∧ h.length ≤ h'.length ∧ ∀ j, j < h.length → h'[j]? = h[j]?) L.length ?_ ?_ (Nat.zero_le _) ?_) ?_
  · rintro k env h' hk ⟨ov, E, rfl, hE, ho, hhl, hfr⟩
    obtain ⟨l, hl⟩ : ∃ l, L[k]? = some l := ⟨_, List.getElem?_eq_getElem hk⟩
    have hinc := hW.2 k l hl
    have hk' : (k : Int) < (L.length : Int) := by omega
    have hw : IntKind.i64.wrap ((k : Int) + 1) = ((k + 1 : Nat) : Int) := by rw [wrap_id (by omega) (by omega)]; rfl
    have hr' := hr.keep hfr
    have ht' : RI h' tv ts := ht.keep fun n _ _ _ _ _ b hb => by rw [hfr n (lt_of_getElem? hb)]; exact hb
    obtain ⟨n, full, rw', vs, rfl, hn, hvl, hc⟩ := hr'
    obtain ⟨w, hw1, hw2⟩ := hc k l hl
    have hts : ((k : Nat) : Int).toNat < ts.length := by rw [hd.1]; simp; exact hk
    obtain ⟨n2, off2, f2, rw2, cs2, rfl, hn2, hc2, _⟩ := ht.at (gt_at hts)
    rw [Int.toNat_natCast] at hc2 hts
    simp only [order_Times_r0, order_Times_r1, order_Times_r2, order_Times_r3, order_Times_r4, order_Times_r5, order_Times_r6, order_Times_r7, order_Times_r8, order_Times_r9, order_Times_r10, order_Times_r11, order_Times_r12, order_Times_r13, order_Times_r14, order_Times_r15, order_Times_r16, order_Times_r17, order_Times_b0, order_Times_r18, order_Times_f, mm_max, mm_min, ↓opE_lenL, lenF_nil, lenF_slice, codeL_loop, keepE_from, keepFrom, List.contains_cons, List.contains_nil, codeL_skip, codeL_exit, codeL_ret, codeL_ops, codeL_dops, codeL_seq, codeL_cond, codeL_block, opsE_nil, opsE_cons, operE_plain, operE_guard, guardB, opE, X.ev, binE, unE, eqE, eqL, putE, List.replicate, List.cons_append, List.nil_append, List.append_nil, List.getD_cons_zero, List.getD_cons_succ, List.getD_nil, List.set_cons_zero, List.set_cons_succ, Option.bind_some, Option.bind_none, Option.bind_assoc, thenE_norm, thenE_exit, thenE_ret, blockE_norm, blockE_exit, blockE_ret, endE_norm, endE_ret, resultsE, resE, oneOf, ite_bind, if_true, if_false, decide_eq_true_eq, Bool.false_eq_true, reduceCtorEq, Bool.not_true, Bool.not_false, Bool.and_true, Bool.and_false, Bool.true_and, Bool.false_and, cells_agg, cells_bool, single_bool, cells_int, single_int, cells_str, single_str, cells_ptr, single_ptr, cells_nilptr, single_nilptr, cells_slice, single_slice, cells_nilslice, single_nilslice, cells_map, single_map, cells_nilmap, single_nilmap, cells_func, single_func, cells_nilfunc, single_nilfunc, cells_iface, single_iface, cells_nilif, single_nilif, List.all_cons, List.all_nil, List.length_cons, List.length_nil, List.map_cons, List.map_nil, fillE, splice_zero, splice_cons, splice_head, List.take_succ_cons, List.take_zero, List.drop_succ_cons, List.drop_zero, List.drop_nil, List.take_nil, beq_self_eq_true, bnds, asNat, Int.toNat_zero, Int.toNat_one, Nat.zero_add, Nat.add_zero, Nat.mul_one, Nat.one_mul, List.getElem?_cons_zero, List.getElem?_cons_succ, List.getElem?_nil, decide_true, decide_false, Bool.or_true, Bool.or_false, Bool.true_or, Bool.false_or, not_true_eq_false, not_false_eq_true, true_and, and_true, false_and, and_false, true_or, or_true, false_or, or_false, ne_eq, beq_true, Bool.true_beq, Bool.false_beq, int_beq, int_bne, nat_beq, bool_beq_true, bool_beq_false, ite_bool, cast_zero, cast_one, Bool.not_eq_true', Bool.not_eq_false', decide_eq_false_iff_not, gt_iff_lt, ge_iff_le, Nat.le_refl, Nat.lt_irrefl, Nat.add_sub_cancel, Nat.sub_zero, Int.reduceLT, Int.reduceLE, Int.reduceToNat, Nat.reduceAdd, Nat.reduceMul, Nat.reduceLeDiff, Nat.reduceLT, Nat.reduceSub, Int.reduceNeg, Int.reduceEq, Int.reduceBEq, Int.reduceBNe, Nat.reduceEqDiff, Int.toNat_natCast, Int.natCast_nonneg, Int.cast_ofNat_Int, hk', hk, hn, hw1, hw2.len]
    refine Sat.bind (Times_in (len := L.length) (v := .slice n 0 L.length 1 full) (tv := .slice n2 off2 ts.length 1 f2) (ov := ov) (e := endN E ts k) hE hd ht' ho.ri hw2 hinc (by omega) hk (by simp only [mm_max, mm_min, ↓opE_lenL, lenF_nil, lenF_slice, codeL_loop, keepE_from, keepFrom, List.contains_cons, List.contains_nil, codeL_skip, codeL_exit, codeL_ret, codeL_ops, codeL_dops, codeL_seq, codeL_cond, codeL_block, opsE_nil, opsE_cons, operE_plain, operE_guard, guardB, opE, X.ev, binE, unE, eqE, eqL, putE, List.replicate, List.cons_append, List.nil_append, List.append_nil, List.getD_cons_zero, List.getD_cons_succ, List.getD_nil, List.set_cons_zero, List.set_cons_succ, Option.bind_some, Option.bind_none, Option.bind_assoc, thenE_norm, thenE_exit, thenE_ret, blockE_norm, blockE_exit, blockE_ret, endE_norm, endE_ret, resultsE, resE, oneOf, ite_bind, if_true, if_false, decide_eq_true_eq, Bool.false_eq_true, reduceCtorEq, Bool.not_true, Bool.not_false, Bool.and_true, Bool.and_false, Bool.true_and, Bool.false_and, cells_agg, cells_bool, single_bool, cells_int, single_int, cells_str, single_str, cells_ptr, single_ptr, cells_nilptr, single_nilptr, cells_slice, single_slice, cells_nilslice, single_nilslice, cells_map, single_map, cells_nilmap, single_nilmap, cells_func, single_func, cells_nilfunc, single_nilfunc, cells_iface, single_iface, cells_nilif, single_nilif, List.all_cons, List.all_nil, List.length_cons, List.length_nil, List.map_cons, List.map_nil, fillE, splice_zero, splice_cons, splice_head, List.take_succ_cons, List.take_zero, List.drop_succ_cons, List.drop_zero, List.drop_nil, List.take_nil, beq_self_eq_true, bnds, asNat, Int.toNat_zero, Int.toNat_one, Nat.zero_add, Nat.add_zero, Nat.mul_one, Nat.one_mul, List.getElem?_cons_zero, List.getElem?_cons_succ, List.getElem?_nil, decide_true, decide_false, Bool.or_true, Bool.or_false, Bool.true_or, Bool.false_or, not_true_eq_false, not_false_eq_true, true_and, and_true, false_and, and_false, true_or, or_true, false_or, or_false, ne_eq, beq_true, Bool.true_beq, Bool.false_beq, int_beq, int_bne, nat_beq, bool_beq_true, bool_beq_false, ite_bool, cast_zero, cast_one, Bool.not_eq_true', Bool.not_eq_false', decide_eq_false_iff_not, gt_iff_lt, ge_iff_le, Nat.le_refl, Nat.lt_irrefl, Nat.add_sub_cancel, Nat.sub_zero, Int.reduceLT, Int.reduceLE, Int.reduceToNat, Nat.reduceAdd, Nat.reduceMul, Nat.reduceLeDiff, Nat.reduceLT, Nat.reduceSub, Int.reduceNeg, Int.reduceEq, Int.reduceBEq, Int.reduceBNe, Nat.reduceEqDiff, Int.toNat_natCast, Int.natCast_nonneg, Int.cast_ofNat_Int])) ?_
    rintro _ rfl
    have hE' := hE.snoc hW hd hl
    have hab := hE.atb hd hinc l.length
    rw [List.take_length] at hab
    generalize hx : (LBlk.cells true [LV.int .i64 (atOf E ts l)]) = lit
    have hm : (h' ++ [lit])[h'.length]? = some (.cells true [.int .i64 (atOf E ts l)]) := by rw [← hx]; exact List.getElem?_concat_length
    have ho2 : OI (h' ++ [lit]) h.length ov E := ho.keep fun n b hn hb => by rw [List.getElem?_append_left (lt_of_getElem? hb)]; exact hb
    obtain ⟨h2, ha, ho3, hl3, hf3, _⟩ := ho2.append (lo := lo) hlo (by simp; omega) hm (by have := hE.1; omega)
    have hb2 := hd.gt k
    have hw3 : IntKind.i64.wrap (atOf E ts l + gt ts k) = atOf E ts l + gt ts k := wrap_id (by omega) (by omega)
    have hn2' : h2[n2]? = some (.cells rw2 cs2) := by
      have hlt := lt_of_getElem? hn2
      rw [hf3 n2 hlt, List.getElem?_append_left (by omega), hfr n2 hlt]; exact hn2
    have hend : max (endN E ts k) (atOf E ts l + gt ts k) = endN (E ++ [atOf E ts l]) ts (k + 1) := by
      rw [endN, endN_congr (E ++ [atOf E ts l]) E ts k (fun j hj => gt_snoc_lt (by have := hE.1; simp; omega))]
      have := gt_snoc_eq (E := E) (a := atOf E ts l)
      rw [hE.1] at this; rw [this]
    simp only [order_Times_r0, order_Times_r1, order_Times_r2, order_Times_r3, order_Times_r4, order_Times_r5, order_Times_r6, order_Times_r7, order_Times_r8, order_Times_r9, order_Times_r10, order_Times_r11, order_Times_r12, order_Times_r13, order_Times_r14, order_Times_r15, order_Times_r16, order_Times_r17, order_Times_b0, order_Times_r18, order_Times_f, mm_max, mm_min, ↓opE_lenL, lenF_nil, lenF_slice, codeL_loop, keepE_from, keepFrom, List.contains_cons, List.contains_nil, codeL_skip, codeL_exit, codeL_ret, codeL_ops, codeL_dops, codeL_seq, codeL_cond, codeL_block, opsE_nil, opsE_cons, operE_plain, operE_guard, guardB, opE, X.ev, binE, unE, eqE, eqL, putE, List.replicate, List.cons_append, List.nil_append, List.append_nil, List.getD_cons_zero, List.getD_cons_succ, List.getD_nil, List.set_cons_zero, List.set_cons_succ, Option.bind_some, Option.bind_none, Option.bind_assoc, thenE_norm, thenE_exit, thenE_ret, blockE_norm, blockE_exit, blockE_ret, endE_norm, endE_ret, resultsE, resE, oneOf, ite_bind, if_true, if_false, decide_eq_true_eq, Bool.false_eq_true, reduceCtorEq, Bool.not_true, Bool.not_false, Bool.and_true, Bool.and_false, Bool.true_and, Bool.false_and, cells_agg, cells_bool, single_bool, cells_int, single_int, cells_str, single_str, cells_ptr, single_ptr, cells_nilptr, single_nilptr, cells_slice, single_slice, cells_nilslice, single_nilslice, cells_map, single_map, cells_nilmap, single_nilmap, cells_func, single_func, cells_nilfunc, single_nilfunc, cells_iface, single_iface, cells_nilif, single_nilif, List.all_cons, List.all_nil, List.length_cons, List.length_nil, List.map_cons, List.map_nil, fillE, splice_zero, splice_cons, splice_head, List.take_succ_cons, List.take_zero, List.drop_succ_cons, List.drop_zero, List.drop_nil, List.take_nil, beq_self_eq_true, bnds, asNat, Int.toNat_zero, Int.toNat_one, Nat.zero_add, Nat.add_zero, Nat.mul_one, Nat.one_mul, List.getElem?_cons_zero, List.getElem?_cons_succ, List.getElem?_nil, decide_true, decide_false, Bool.or_true, Bool.or_false, Bool.true_or, Bool.false_or, not_true_eq_false, not_false_eq_true, true_and, and_true, false_and, and_false, true_or, or_true, false_or, or_false, ne_eq, beq_true, Bool.true_beq, Bool.false_beq, int_beq, int_bne, nat_beq, bool_beq_true, bool_beq_false, ite_bool, cast_zero, cast_one, Bool.not_eq_true', Bool.not_eq_false', decide_eq_false_iff_not, gt_iff_lt, ge_iff_le, Nat.le_refl, Nat.lt_irrefl, Nat.add_sub_cancel, Nat.sub_zero, Int.reduceLT, Int.reduceLE, Int.reduceToNat, Nat.reduceAdd, Nat.reduceMul, Nat.reduceLeDiff, Nat.reduceLT, Nat.reduceSub, Int.reduceNeg, Int.reduceEq, Int.reduceBEq, Int.reduceBNe, Nat.reduceEqDiff, Int.toNat_natCast, Int.natCast_nonneg, Int.cast_ofNat_Int, hx, ha, hw, hw3, hn2', hc2, hts, hend]
    refine ⟨_, rfl, _, _, rfl, hE', ho3, by simp at hl3; omega, fun j hj => ?_⟩
    rw [hf3 j hj, List.getElem?_append_left (by omega)]; exact hfr j hj
  · rintro env h' ⟨ov, E, rfl, hE, ho, hhl, hfr⟩
    simp only [order_Times_r0, order_Times_r1, order_Times_r2, order_Times_r3, order_Times_r4, order_Times_r5, order_Times_r6, order_Times_r7, order_Times_r8, order_Times_r9, order_Times_r10, order_Times_r11, order_Times_r12, order_Times_r13, order_Times_r14, order_Times_r15, order_Times_r16, order_Times_r17, order_Times_b0, order_Times_r18, order_Times_f, mm_max, mm_min, ↓opE_lenL, lenF_nil, lenF_slice, codeL_loop, keepE_from, keepFrom, List.contains_cons, List.contains_nil, codeL_skip, codeL_exit, codeL_ret, codeL_ops, codeL_dops, codeL_seq, codeL_cond, codeL_block, opsE_nil, opsE_cons, operE_plain, operE_guard, guardB, opE, X.ev, binE, unE, eqE, eqL, putE, List.replicate, List.cons_append, List.nil_append, List.append_nil, List.getD_cons_zero, List.getD_cons_succ, List.getD_nil, List.set_cons_zero, List.set_cons_succ, Option.bind_some, Option.bind_none, Option.bind_assoc, thenE_norm, thenE_exit, thenE_ret, blockE_norm, blockE_exit, blockE_ret, endE_norm, endE_ret, resultsE, resE, oneOf, ite_bind, if_true, if_false, decide_eq_true_eq, Bool.false_eq_true, reduceCtorEq, Bool.not_true, Bool.not_false, Bool.and_true, Bool.and_false, Bool.true_and, Bool.false_and, cells_agg, cells_bool, single_bool, cells_int, single_int, cells_str, single_str, cells_ptr, single_ptr, cells_nilptr, single_nilptr, cells_slice, single_slice, cells_nilslice, single_nilslice, cells_map, single_map, cells_nilmap, single_nilmap, cells_func, single_func, cells_nilfunc, single_nilfunc, cells_iface, single_iface, cells_nilif, single_nilif, List.all_cons, List.all_nil, List.length_cons, List.length_nil, List.map_cons, List.map_nil, fillE, splice_zero, splice_cons, splice_head, List.take_succ_cons, List.take_zero, List.drop_succ_cons, List.drop_zero, List.drop_nil, List.take_nil, beq_self_eq_true, bnds, asNat, Int.toNat_zero, Int.toNat_one, Nat.zero_add, Nat.add_zero, Nat.mul_one, Nat.one_mul, List.getElem?_cons_zero, List.getElem?_cons_succ, List.getElem?_nil, decide_true, decide_false, Bool.or_true, Bool.or_false, Bool.true_or, Bool.false_or, not_true_eq_false, not_false_eq_true, true_and, and_true, false_and, and_false, true_or, or_true, false_or, or_false, ne_eq, beq_true, Bool.true_beq, Bool.false_beq, int_beq, int_bne, nat_beq, bool_beq_true, bool_beq_false, ite_bool, cast_zero, cast_one, Bool.not_eq_true', Bool.not_eq_false', decide_eq_false_iff_not, gt_iff_lt, ge_iff_le, Nat.le_refl, Nat.lt_irrefl, Nat.add_sub_cancel, Nat.sub_zero, Int.reduceLT, Int.reduceLE, Int.reduceToNat, Nat.reduceAdd, Nat.reduceMul, Nat.reduceLeDiff, Nat.reduceLT, Nat.reduceSub, Int.reduceNeg, Int.reduceEq, Int.reduceBEq, Int.reduceBNe, Nat.reduceEqDiff, Int.toNat_natCast, Int.natCast_nonneg, Int.cast_ofNat_Int, Int.lt_irrefl]
    exact ⟨_, rfl, ov, E, rfl, rfl, hE, ho.ri, hhl, hfr⟩
  · exact ⟨.nilslice, [], by simp only [mm_max, mm_min, ↓opE_lenL, lenF_nil, lenF_slice, codeL_loop, keepE_from, keepFrom, List.contains_cons, List.contains_nil, codeL_skip, codeL_exit, codeL_ret, codeL_ops, codeL_dops, codeL_seq, codeL_cond, codeL_block, opsE_nil, opsE_cons, operE_plain, operE_guard, guardB, opE, X.ev, binE, unE, eqE, eqL, putE, List.replicate, List.cons_append, List.nil_append, List.append_nil, List.getD_cons_zero, List.getD_cons_succ, List.getD_nil, List.set_cons_zero, List.set_cons_succ, Option.bind_some, Option.bind_none, Option.bind_assoc, thenE_norm, thenE_exit, thenE_ret, blockE_norm, blockE_exit, blockE_ret, endE_norm, endE_ret, resultsE, resE, oneOf, ite_bind, if_true, if_false, decide_eq_true_eq, Bool.false_eq_true, reduceCtorEq, Bool.not_true, Bool.not_false, Bool.and_true, Bool.and_false, Bool.true_and, Bool.false_and, cells_agg, cells_bool, single_bool, cells_int, single_int, cells_str, single_str, cells_ptr, single_ptr, cells_nilptr, single_nilptr, cells_slice, single_slice, cells_nilslice, single_nilslice, cells_map, single_map, cells_nilmap, single_nilmap, cells_func, single_func, cells_nilfunc, single_nilfunc, cells_iface, single_iface, cells_nilif, single_nilif, List.all_cons, List.all_nil, List.length_cons, List.length_nil, List.map_cons, List.map_nil, fillE, splice_zero, splice_cons, splice_head, List.take_succ_cons, List.take_zero, List.drop_succ_cons, List.drop_zero, List.drop_nil, List.take_nil, beq_self_eq_true, bnds, asNat, Int.toNat_zero, Int.toNat_one, Nat.zero_add, Nat.add_zero, Nat.mul_one, Nat.one_mul, List.getElem?_cons_zero, List.getElem?_cons_succ, List.getElem?_nil, decide_true, decide_false, Bool.or_true, Bool.or_false, Bool.true_or, Bool.false_or, not_true_eq_false, not_false_eq_true, true_and, and_true, false_and, and_false, true_or, or_true, false_or, or_false, ne_eq, beq_true, Bool.true_beq, Bool.false_beq, int_beq, int_bne, nat_beq, bool_beq_true, bool_beq_false, ite_bool, cast_zero, cast_one, Bool.not_eq_true', Bool.not_eq_false', decide_eq_false_iff_not, gt_iff_lt, ge_iff_le, Nat.le_refl, Nat.lt_irrefl, Nat.add_sub_cancel, Nat.sub_zero, Int.reduceLT, Int.reduceLE, Int.reduceToNat, Nat.reduceAdd, Nat.reduceMul, Nat.reduceLeDiff, Nat.reduceLT, Nat.reduceSub, Int.reduceNeg, Int.reduceEq, Int.reduceBEq, Int.reduceBNe, Nat.reduceEqDiff, Int.toNat_natCast, Int.natCast_nonneg, Int.cast_ofNat_Int, endN], ⟨rfl, fun i _ hi => absurd hi (by omega), fun i hi => absurd hi (by omega)⟩, .inl ⟨rfl, rfl⟩, Nat.le_refl _, fun _ _ => rfl⟩
  · rintro ⟨o', env', h'⟩ ⟨ov, E, rfl, rfl, hE, ho, hhl, hfr⟩
    simp only [order_Times_r0, order_Times_r1, order_Times_r2, order_Times_r3, order_Times_r4, order_Times_r5, order_Times_r6, order_Times_r7, order_Times_r8, order_Times_r9, order_Times_r10, order_Times_r11, order_Times_r12, order_Times_r13, order_Times_r14, order_Times_r15, order_Times_r16, order_Times_r17, order_Times_r18, order_Times_f, mm_max, mm_min, ↓opE_lenL, lenF_nil, lenF_slice, codeL_loop, keepE_from, keepFrom, List.contains_cons, List.contains_nil, codeL_skip, codeL_exit, codeL_ret, codeL_ops, codeL_dops, codeL_seq, codeL_cond, codeL_block, opsE_nil, opsE_cons, operE_plain, operE_guard, guardB, opE, X.ev, binE, unE, eqE, eqL, putE, List.replicate, List.cons_append, List.nil_append, List.append_nil, List.getD_cons_zero, List.getD_cons_succ, List.getD_nil, List.set_cons_zero, List.set_cons_succ, Option.bind_some, Option.bind_none, Option.bind_assoc, thenE_norm, thenE_exit, thenE_ret, blockE_norm, blockE_exit, blockE_ret, endE_norm, endE_ret, resultsE, resE, oneOf, ite_bind, if_true, if_false, decide_eq_true_eq, Bool.false_eq_true, reduceCtorEq, Bool.not_true, Bool.not_false, Bool.and_true, Bool.and_false, Bool.true_and, Bool.false_and, cells_agg, cells_bool, single_bool, cells_int, single_int, cells_str, single_str, cells_ptr, single_ptr, cells_nilptr, single_nilptr, cells_slice, single_slice, cells_nilslice, single_nilslice, cells_map, single_map, cells_nilmap, single_nilmap, cells_func, single_func, cells_nilfunc, single_nilfunc, cells_iface, single_iface, cells_nilif, single_nilif, List.all_cons, List.all_nil, List.length_cons, List.length_nil, List.map_cons, List.map_nil, fillE, splice_zero, splice_cons, splice_head, List.take_succ_cons, List.take_zero, List.drop_succ_cons, List.drop_zero, List.drop_nil, List.take_nil, beq_self_eq_true, bnds, asNat, Int.toNat_zero, Int.toNat_one, Nat.zero_add, Nat.add_zero, Nat.mul_one, Nat.one_mul, List.getElem?_cons_zero, List.getElem?_cons_succ, List.getElem?_nil, decide_true, decide_false, Bool.or_true, Bool.or_false, Bool.true_or, Bool.false_or, not_true_eq_false, not_false_eq_true, true_and, and_true, false_and, and_false, true_or, or_true, false_or, or_false, ne_eq, beq_true, Bool.true_beq, Bool.false_beq, int_beq, int_bne, nat_beq, bool_beq_true, bool_beq_false, ite_bool, cast_zero, cast_one, Bool.not_eq_true', Bool.not_eq_false', decide_eq_false_iff_not, gt_iff_lt, ge_iff_le, Nat.le_refl, Nat.lt_irrefl, Nat.add_sub_cancel, Nat.sub_zero, Int.reduceLT, Int.reduceLE, Int.reduceToNat, Nat.reduceAdd, Nat.reduceMul, Nat.reduceLeDiff, Nat.reduceLT, Nat.reduceSub, Int.reduceNeg, Int.reduceEq, Int.reduceBEq, Int.reduceBNe, Nat.reduceEqDiff, Int.toNat_natCast, Int.natCast_nonneg, Int.cast_ofNat_Int]
    exact ⟨_, rfl, ov, E, rfl, hE, ho, hhl, hfr⟩
end Lg.G1
