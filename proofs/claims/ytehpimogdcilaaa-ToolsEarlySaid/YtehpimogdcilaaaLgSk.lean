import Derived.Test.YtehpimogdcilaaaLgSj
namespace Lg.G1
open Go Lg
set_option linter.unusedSimpArgs false
set_option maxRecDepth 10000
set_option maxHeartbeats 1000000
attribute [local congr] bind_congr1

theorem tooled_k : callE lp 60 0 17 [] [] = some (.bool true, []) := by kernel_rfl
theorem tooled_spec (lo : Nat) (h : Heap) : callL lp lo 17 [] h = some (.bool true, h) := callL_kernel (fn := gantkeep4_tooled_f) rfl rfl rfl tooled_k

theorem gt_take {A : List Int} {n : Nat} {x : Int} (h : x.toNat < n) : gt (A.take n) x = gt A x := by
  unfold gt; rw [List.getD_eq_getElem?_getD, List.getElem?_take, if_pos h, List.getD_eq_getElem?_getD]
theorem usedP_take (ts : List TaskR) (S : List Int) (n k : Nat) (h : k ≤ n) : usedP (ts.take n) S k = usedP ts S k := by
  induction k with
  | zero => rfl
  | succ k ih => rw [usedP, usedP, ih (by omega), List.getElem?_take, if_pos (by omega)]
theorem early_not {ts : List TaskR} {A : List Int} {k : Nat} (hg : GoodT ts) (hP : PlanP ts A ts.length) (hk : k < ts.length) :
    ¬ (RightP (ts.take (k + 1)) ((A.take (k + 1)).set k (gt A k - 1)) (ts.take (k + 1)).length ∧ GoodN (usedP (ts.take (k + 1)) ((A.take (k + 1)).set k (gt A k - 1)) (ts.take (k + 1)).length) (usedP (ts.take (k + 1)) ((A.take (k + 1)).set k (gt A k - 1)) (ts.take (k + 1)).length).length) := by
  rintro ⟨hR, hG⟩
  have hA := hP.1
  have hlen : (ts.take (k + 1)).length = k + 1 := by rw [List.length_take]; omega
  rw [hlen] at hR hG
  obtain ⟨t, ht⟩ : ∃ t, ts[k]? = some t := ⟨_, List.getElem?_eq_getElem hk⟩
  have ht' : (ts.take (k + 1))[k]? = some t := by rw [List.getElem?_take, if_pos (by omega)]; exact ht
  obtain ⟨g1, g2, g3, g4, g5, _⟩ := hg.2 k t ht
  obtain ⟨p1, p2, p3, p4⟩ := hP.2.2 k t hk ht
  have hSk : gt ((A.take (k + 1)).set k (gt A k - 1)) k = gt A k - 1 := gtN_set_eq (by rw [List.length_take]; omega)
  have hSx : ∀ x : Int, x.toNat < k → gt ((A.take (k + 1)).set k (gt A k - 1)) x = gt A x := fun x hx => by rw [gtN_set_ne (by omega), gt_take (by omega)]
  obtain ⟨r1, _, r3⟩ := hR k t (by omega) ht'
  rw [hSk] at r1 r3
  rcases p4 with h | ⟨x, hx, h⟩ | ⟨h0, v, hv, hc⟩
  · omega
  · have := r3 x hx
    have hb := g5 x hx
    rw [hSx x (by omega)] at this
    have hlx : gt (longs (ts.take (k + 1))) x = gt (longs ts) x := by unfold longs; rw [List.map_take, gt_take (by omega)]
    omega
  · rw [usedP_take _ _ _ _ (Nat.le_refl _), usedP, ht, usedP_congr ts _ A k (fun j hj => hSx j (by simpa using hj))] at hG
    simp only [h0, if_true, hSk] at hG
    obtain ⟨j, hj, hjv⟩ := List.mem_iff_getElem.1 hv
    refine (hG (usedP ts A k).length ⟨t.tool, gt A k - 1, t.long⟩ (by simp) List.getElem?_concat_length).2 j v hj ?_ hc
    rw [List.getElem?_append_left hj, List.getElem?_eq_getElem hj, hjv]

theorem ri_cells {cs : List LV} {off : Nat} {xs : List Int} (hl : off + xs.length ≤ cs.length) (hc : ∀ (i : Nat) (x : Int), xs[i]? = some x → cs[off + i]? = some (.int .i64 x)) : (cs.drop off).take xs.length = xs.map (.int .i64) := by
  apply List.ext_getElem?
  intro i
  rw [List.getElem?_take]
  by_cases hi : i < xs.length
  · rw [if_pos hi, List.getElem?_drop, hc i xs[i] (List.getElem?_eq_getElem hi), List.getElem?_map, List.getElem?_eq_getElem hi]; rfl
  · rw [if_neg hi, List.getElem?_eq_none (by simp; omega)]
theorem Clone_spec {lo : Nat} {h : Heap} {n off len : Nat} {f : Bool} {xs : List Int} (hr : RI h (.slice n off len 1 f) xs) (hx : 0 < xs.length) (hx9 : xs.length < 1000) : callL lp lo 21 [.slice n off len 1 f] h = some (.slice (h.length + 1) 0 xs.length 1 false, (h ++ [.cells true []]) ++ [.cells true (xs.map (.int .i64))]) := by
  rcases hr with ⟨hq, _⟩ | ⟨n', off', full, rw', cs, hq, hn, hl, hc⟩
  · cases hq
  · cases hq
    have hh : (h ++ [LBlk.cells true []])[n]? = some (.cells rw' cs) := by rw [List.getElem?_append_left (lt_of_getElem? hn)]; exact hn
    have hh2 : (h ++ [LBlk.cells true []])[h.length]? = some (.cells true []) := List.getElem?_concat_length
    have hap : appendE lo 1 8 (.slice h.length 0 0 1 true) (.slice n off xs.length 1 f) (h ++ [LBlk.cells true []]) = some (.slice (h.length + 1) 0 xs.length 1 false, (h ++ [.cells true []]) ++ [.cells true (xs.map (.int .i64))]) := by
      simp only [appendE, srcOf, cellsOf, hh, hh2, if_true, Nat.mul_one, hl, ri_cells hl hc]
      rw [if_neg (by simp), if_neg (by omega), if_pos (by omega), if_pos (by simp)]
      simp
    obtain ⟨r, hr1, hr2⟩ := Sat_body (p := lp) (lo := lo) (f := 21) (fn := slices_Clone_intint_f) (args := [.slice n off xs.length 1 f]) (h := h) (P := fun r => r = (.slice (h.length + 1) 0 xs.length 1 false, (h ++ [.cells true []]) ++ [.cells true (xs.map (.int .i64))])) rfl rfl rfl (by
      simp only [slices_Clone_intint_r0, slices_Clone_intint_r1, slices_Clone_intint_r2, slices_Clone_intint_r3, slices_Clone_intint_f, Nat.zero_le, ↓reduceIte, mm_max, mm_min, ↓opE_lenL, lenF_nil, lenF_slice, codeL_loop, keepE_from, keepFrom, List.contains_cons, List.contains_nil, codeL_skip, codeL_exit, codeL_ret, codeL_ops, codeL_dops, codeL_seq, codeL_cond, codeL_block, opsE_nil, opsE_cons, operE_plain, operE_guard, guardB, opE, X.ev, binE, unE, eqE, eqL, putE, List.replicate, List.cons_append, List.nil_append, List.append_nil, List.getD_cons_zero, List.getD_cons_succ, List.getD_nil, List.set_cons_zero, List.set_cons_succ, Option.bind_some, Option.bind_none, Option.bind_assoc, thenE_norm, thenE_exit, thenE_ret, blockE_norm, blockE_exit, blockE_ret, endE_norm, endE_ret, resultsE, resE, oneOf, ite_bind, if_true, if_false, decide_eq_true_eq, Bool.false_eq_true, reduceCtorEq, Bool.not_true, Bool.not_false, Bool.and_true, Bool.and_false, Bool.true_and, Bool.false_and, cells_agg, cells_bool, single_bool, cells_int, single_int, cells_str, single_str, cells_ptr, single_ptr, cells_nilptr, single_nilptr, cells_slice, single_slice, cells_nilslice, single_nilslice, cells_map, single_map, cells_nilmap, single_nilmap, cells_func, single_func, cells_nilfunc, single_nilfunc, cells_iface, single_iface, cells_nilif, single_nilif, List.all_cons, List.all_nil, List.length_cons, List.length_nil, List.map_cons, List.map_nil, fillE, splice_zero, splice_cons, splice_head, List.take_succ_cons, List.take_zero, List.drop_succ_cons, List.drop_zero, List.drop_nil, List.take_nil, beq_self_eq_true, bnds, asNat, Int.toNat_zero, Int.toNat_one, Nat.zero_add, Nat.add_zero, Nat.mul_one, Nat.one_mul, List.getElem?_cons_zero, List.getElem?_cons_succ, List.getElem?_nil, decide_true, decide_false, Bool.or_true, Bool.or_false, Bool.true_or, Bool.false_or, not_true_eq_false, not_false_eq_true, true_and, and_true, false_and, and_false, true_or, or_true, false_or, or_false, ne_eq, beq_true, Bool.true_beq, Bool.false_beq, int_beq, int_bne, nat_beq, bool_beq_true, bool_beq_false, ite_bool, cast_zero, cast_one, Bool.not_eq_true', Bool.not_eq_false', decide_eq_false_iff_not, gt_iff_lt, ge_iff_le, Nat.le_refl, Nat.lt_irrefl, Nat.add_sub_cancel, Nat.sub_zero, Int.reduceLT, Int.reduceLE, Int.reduceToNat, Nat.reduceAdd, Nat.reduceMul, Nat.reduceLeDiff, Nat.reduceLT, Nat.reduceSub, Int.reduceNeg, Int.reduceEq, Int.reduceBEq, Int.reduceBNe, Nat.reduceEqDiff, Int.toNat_natCast, Int.natCast_nonneg, Int.cast_ofNat_Int, eqE, hap]
      exact ⟨_, rfl, rfl⟩)
    rw [hr1, hr2]
end Lg.G1
