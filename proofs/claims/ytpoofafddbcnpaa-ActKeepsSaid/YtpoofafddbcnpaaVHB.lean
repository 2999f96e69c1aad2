import Derived.Test.YtpoofafddbcnpaaVHA
import Derived.Test.YtpoofafddbcnpaaVVgHeap2
namespace Vg.G3
open Go Lg
set_option linter.unusedSimpArgs false
set_option linter.unusedVariables false
set_option maxRecDepth 10000
set_option maxHeartbeats 2000000
attribute [local congr] bind_congr1
attribute [local go_sem] slices_DeleteFunc_pgantryapiStep_r0 slices_DeleteFunc_pgantryapiStep_r1 slices_DeleteFunc_pgantryapiStep_r2 slices_DeleteFunc_pgantryapiStep_r3 slices_DeleteFunc_pgantryapiStep_r4 slices_DeleteFunc_pgantryapiStep_r5 slices_DeleteFunc_pgantryapiStep_r6 slices_DeleteFunc_pgantryapiStep_r7 slices_DeleteFunc_pgantryapiStep_r8 slices_DeleteFunc_pgantryapiStep_r9 slices_DeleteFunc_pgantryapiStep_r10 slices_DeleteFunc_pgantryapiStep_r11 slices_DeleteFunc_pgantryapiStep_r12 slices_DeleteFunc_pgantryapiStep_f slices_DeleteFunc_pgantryapiStep_v
noncomputable def keepS (w : Wd) (l : List Stp) : List Stp := l.filter fun s => !delF w s
theorem keep_take {w : Wd} {l : List Stp} {j : Nat} {x : Stp} (h : l[j]? = some x) : keepS w (l.take (j + 1)) = keepS w (l.take j) ++ (if delF w x = true then [] else [x]) := by
  unfold keepS
  rw [take_succ_map h, List.filter_append]
  congr 1
  by_cases hv : delF w x = true <;> simp [hv]
theorem keep_le (w : Wd) (l : List Stp) (j : Nat) : (keepS w (l.take j)).length ≤ j := by
  refine Nat.le_trans (List.length_filter_le _ _) ?_
  rw [List.length_take]; omega
theorem keep_all {w : Wd} {l : List Stp} (h : ∀ s ∈ l, delF w s = false) : keepS w l = l := List.filter_eq_self.2 fun s hs => by simp [h s hs]
theorem nrmL_of : ∀ {cs : List VV}, cs.all scal = true → nrmL cs = cs
  | [], _ => rfl
  | c :: cs, h => by
    simp only [List.all_cons, Bool.and_eq_true] at h
    simp only [nrmL, nrmL_of h.2]
    congr 1
    have := h.1
    cases c <;> first | rfl | cases this
def zr5 : List LV := [.int .i64 0, .int .i64 0, .int .i64 0, .int .i64 0, .int .i64 0]
theorem zrows5_len (n : Nat) : (rows zr5 n).length = n * 5 := by rw [rows_length]; rfl
theorem zrows5_sc : ∀ n : Nat, (rows zr5 n).all scLV = true
  | 0 => rfl
  | n + 1 => by simp only [rows, List.all_append, zrows5_sc n, Bool.and_true]; rfl
theorem rowS_at {cur : List Stp} {m : Nat} {x : Stp} (h : cur[m]? = some x) : ((cur.map fS).flatten.drop (m * 5)).take 5 = fS x := flat_row (flenS fS_len cur) (get_map h)
theorem ap_setl {h l : VHeap} {n : Nat} {x : VBlk} (hn : n < h.length) : (h ++ l).set n x = h.set n x ++ l := List.set_append_left _ _ hn
theorem ap_takel {h l : VHeap} {n : Nat} {x : VBlk} : (h.set n x ++ l).take h.length = h.set n x := by
  rw [List.take_append_of_le_length (by rw [List.length_set]; exact Nat.le_refl _), List.take_of_length_le (by rw [List.length_set]; exact Nat.le_refl _)]
theorem keep_next {w : Wd} {l cur : List Stp} {i j : Nat} {x : Stp} (hc : cur.length = l.length) (hi : i = (keepS w (l.take j)).length) (hj : j < l.length) (hij : i < j) (h1 : cur.take i = keepS w (l.take j)) (h2 : cur.drop j = l.drop j) (hx : l[j]? = some x) :
    cur[j]? = some x ∧ (delF w x = true → (keepS w (l.take (j + 1))).length = i ∧ cur.take i = keepS w (l.take (j + 1)) ∧ cur.drop (j + 1) = l.drop (j + 1)) ∧
    (delF w x = false → (keepS w (l.take (j + 1))).length = i + 1 ∧ (cur.set i x).take (i + 1) = keepS w (l.take (j + 1)) ∧ (cur.set i x).drop (j + 1) = l.drop (j + 1)) := by
  have hk := keep_take (w := w) hx
  have hg : ∀ k, j ≤ k → cur[k]? = l[k]? := fun k hk => by
    have := congrArg (fun z => z[k - j]?) h2
    simp only [List.getElem?_drop] at this
    rwa [show j + (k - j) = k by omega] at this
  refine ⟨by rw [hg j (Nat.le_refl _)]; exact hx, fun hd => ?_, fun hd => ?_⟩
  · rw [hd, if_pos rfl, List.append_nil] at hk
    rw [hk]
    refine ⟨hi.symm, h1, ?_⟩
    apply List.ext_getElem?; intro k
    rw [List.getElem?_drop, List.getElem?_drop]; exact hg _ (by omega)
  · rw [hd, if_neg (by decide)] at hk
    rw [hk]
    refine ⟨by rw [List.length_append, ← hi]; rfl, ?_, ?_⟩
    · rw [List.take_add_one, List.getElem?_set_self (by omega), List.take_set_of_le (Nat.le_refl _), h1]; rfl
    · rw [List.drop_set_of_lt (by omega)]
      apply List.ext_getElem?; intro k
      rw [List.getElem?_drop, List.getElem?_drop]; exact hg _ (by omega)
theorem Delete_spec {w : Wd} (hw : Ok w) {l : List Stp} {n b lo : Nat} {h : VHeap} {rw : Bool} (hl : l.length ≤ 1000) (h1 : 1 ≤ l.length) (hbn : b ≠ n) (hb : h[b]? = some (.cells rw (fW w))) (hlo : lo ≤ n) (hn : h[n]? = some (.cells true (l.map fS).flatten)) :
    ∃ cs, (keepS w l).length * 5 ≤ cs.length ∧ cs.take ((keepS w l).length * 5) = ((keepS w l).map fS).flatten ∧
      callVL vp lo n_slices_DeleteFunc_pgantryapiStep [.hs n 0 l.length 5, .func n_act_Steps_1 [.ptr b 0]] h = some (.hs n 0 (keepS w l).length 5, h.set n (.cells true cs)) := by
  obtain ⟨m, hm1, hm2, hI⟩ := IndexS_spec hw (l := l) hl hb lo
  have hcl := cellsS_len l
  have hI' : callVL vp lo n_slices_IndexFunc_pgantryapiStep [.hs n 0 l.length 5, .func n_act_Steps_1 [.ptr b 0]] h = some (.int .i64 m, h) := by
    refine call_snap2 (fn := slices_IndexFunc_pgantryapiStep_v) («as» := [.list .s (l.map fS), .func n_act_Steps_1 [.ptr b 0]]) rfl rfl rfl ?_ rfl rfl hI
    have hch := chunk_flat (es := 5) (l.map fS) (flenS fS_len l)
    rw [List.length_map] at hch
    simp only [snapL, snap, rowsOf, if_true, hn, Nat.zero_add, hcl, Nat.le_refl, true_and, List.drop_zero, scals_low (all_flat (fS_scal (l := l)))]
    rw [nrmL_of (all_flat (fS_scal (l := l))), hch]
  have key : Sat (callVL vp lo n_slices_DeleteFunc_pgantryapiStep [.hs n 0 l.length 5, .func n_act_Steps_1 [.ptr b 0]] h) (fun r => ∃ cs, (keepS w l).length * 5 ≤ cs.length ∧ cs.take ((keepS w l).length * 5) = ((keepS w l).map fS).flatten ∧ r = (.hs n 0 (keepS w l).length 5, h.set n (.cells true cs))) := by
    refine call_body (p := vp) (lo := lo) (h := h) (f := n_slices_DeleteFunc_pgantryapiStep) (fn := slices_DeleteFunc_pgantryapiStep_v) (args := [.hs n 0 l.length 5, .func n_act_Steps_1 [.ptr b 0]]) rfl (.inr rfl) rfl ?_
    obtain ⟨P, hP⟩ : ∃ P : VV × VHeap → Prop, P = fun r => ∃ cs, (keepS w l).length * 5 ≤ cs.length ∧ cs.take ((keepS w l).length * 5) = ((keepS w l).map fS).flatten ∧ r = (.hs n 0 (keepS w l).length 5, h.set n (.cells true cs)) := ⟨_, rfl⟩
    have hP1 : ∀ cs, (keepS w l).length * 5 ≤ cs.length → cs.take ((keepS w l).length * 5) = ((keepS w l).map fS).flatten → P (.hs n 0 (keepS w l).length 5, h.set n (.cells true cs)) := fun cs h1 h2 => by subst hP; exact ⟨cs, h1, h2, rfl⟩
    rw [← hP]
    clear hP
    have hnl := lt_of_some hn
    have hbl := lt_of_some hb
    rcases hm1 with ⟨rfl, hall⟩ | ⟨k, rfl, hk, hbef⟩
    · simp -implicitDefEqProofs only [go_sem, ↓reduceIte, reduceCtorEq, Int.reduceLT, Int.reduceLE, Int.reduceToNat, Nat.reduceAdd, Nat.reduceMul, Nat.reduceLeDiff, Nat.reduceLT, Nat.reduceSub, Int.reduceNeg, Int.reduceEq, Int.reduceBEq, Int.reduceBNe, Nat.reduceEqDiff, hI']
      have hka := keep_all hall
      have := hP1 (l.map fS).flatten (by rw [hka, hcl]; exact Nat.le_refl _) (by rw [hka, ← hcl, List.take_length])
      rwa [hka, set_same hn] at this
    have hk1 : ¬ (k : Int) = -1 := by omega
    have hwk := wrap_succ (i := k) (by omega)
    obtain ⟨xk, hxk⟩ := get_some hk
    have hdk := hm2 k rfl xk hxk
    have hkk : keepS w (l.take k) = l.take k := keep_all fun s hs => by
      obtain ⟨j, hj⟩ := List.mem_iff_getElem?.1 hs
      have hjk : j < k := by have := lt_of_getElem? hj; rw [List.length_take] at this; omega
      rw [List.getElem?_take, if_pos hjk] at hj
      exact hbef j s hjk hj
    have hkk1 := keep_take (w := w) hxk
    rw [hdk, if_pos rfl, List.append_nil, hkk] at hkk1
    simp -implicitDefEqProofs only [go_sem, ↓reduceIte, reduceCtorEq, Int.reduceLT, Int.reduceLE, Int.reduceToNat, Nat.reduceAdd, Nat.reduceMul, Nat.reduceLeDiff, Nat.reduceLT, Nat.reduceSub, Int.reduceNeg, Int.reduceEq, Int.reduceBEq, Int.reduceBNe, Nat.reduceEqDiff, hI', hk1, hwk]
    rw [Sat_bind]
    refine loop_up (I := fun j env h' => ∃ (cur : List Stp) (i : Nat), h' = h.set n (.cells true (cur.map fS).flatten) ∧ cur.length = l.length ∧ (keepS w (l.take j)).length = i ∧ i < j ∧ cur.take i = keepS w (l.take j) ∧ cur.drop j = l.drop j ∧
      env = [.hs n 0 l.length 5, .func n_act_Steps_1 [.ptr b 0], .undef, .undef, .undef, .int .i64 ((i : Nat) : Int), .int .i64 ((j : Nat) : Int), .undef, .undef, .undef, .undef, .undef, .undef, .undef, .undef, .undef, .undef, .undef, .undef, .undef, .undef, .undef, .undef, .undef, .undef, .undef, .undef, .undef, .undef, .undef, .undef, .undef, .undef, .undef, .undef, .undef, .undef, .undef, .undef, .undef, .undef, .undef]) l.length ?_ ?_ (i := k + 1) hk ⟨l, k, (set_same hn).symm, rfl, by rw [hkk1, List.length_take]; omega, Nat.lt_succ_self k, hkk1.symm, rfl, by simp -implicitDefEqProofs only [go_sem, ↓reduceIte, reduceCtorEq, Int.reduceLT, Int.reduceLE, Int.reduceToNat, Nat.reduceAdd, Nat.reduceMul, Nat.reduceLeDiff, Nat.reduceLT, Nat.reduceSub, Int.reduceNeg, Int.reduceEq, Int.reduceBEq, Int.reduceBNe, Nat.reduceEqDiff]⟩
    · rintro j env h' hj ⟨cur, i, hh', hc, hi, hij, ht, hd, rfl⟩
      obtain ⟨x, hx⟩ := get_some hj
      obtain ⟨q1, q2, q3⟩ := keep_next hc hi.symm hj hij ht hd hx
      have hr := rowS_at q1
      obtain ⟨y, hy⟩ := get_some (show i < cur.length by omega)
      have hset := setS_at (x := x) hy
      have hccl := cellsS_len cur
      have hle : j * 5 + 5 ≤ (cur.map fS).flatten.length := by omega
      have hle2 : i * 5 + 5 ≤ (cur.map fS).flatten.length := by omega
      have hil : i < l.length := by omega
      have hj' : (j : Int) < (l.length : Int) := by omega
      have hw1 := wrap_succ (i := j) (by omega)
      have hw2 := wrap_succ (i := i) (by omega)
      have hHn : h'[n]? = some (.cells true (cur.map fS).flatten) := by rw [hh']; exact List.getElem?_set_self hnl
      have hHb : h'[b]? = some (.cells rw (fW w)) := by rw [hh', List.getElem?_set_ne (fun e => hbn e.symm)]; exact hb
      have hHl : h'.length = h.length := by rw [hh', List.length_set]
      have hset2 : ∀ A : VBlk, h'.set n A = h.set n A := fun A => by rw [hh', List.set_set]
      have hnl' : n < h'.length := by omega
      have hbl' : b < h'.length := by omega
      have g1 : ∀ l : VHeap, (h' ++ l)[n]? = some (.cells true (cur.map fS).flatten) := fun l => ap_low hHn
      have g2 : ∀ (l : VHeap) (A : VBlk), (h' ++ l).set n A = h'.set n A ++ l := fun l A => ap_setl hnl'
      have g3 : ∀ (l : VHeap) (A : VBlk), (h'.set n A ++ l).take h'.length = h'.set n A := fun l A => ap_takel
      have hW : ∀ (lo : Nat) (l : VHeap), callVL vp lo n_act_Steps_1 [.agg (fS x), .ptr b 0] (h' ++ l) = some (.bool (delF w x), h' ++ l) := fun lo l => Steps1_eq hw x (ap_low hHb) lo
      have hlo' : lo ≤ h'.length := by omega
      simp only [fS] at hr hW
      simp only [vsplice, fS, List.length_cons, List.length_nil, Nat.zero_add, Nat.reduceAdd] at hset
      cases hdx : delF w x with
      | true =>
        rw [hdx] at hW
        simp -implicitDefEqProofs only [slices_DeleteFunc_pgantryapiStep_b0, go_sem, ↓reduceIte, reduceCtorEq, Int.reduceLT, Int.reduceLE, Int.reduceToNat, Nat.reduceAdd, Nat.reduceMul, Nat.reduceLeDiff, Nat.reduceLT, Nat.reduceSub, Int.reduceNeg, Int.reduceEq, Int.reduceBEq, Int.reduceBNe, Nat.reduceEqDiff, ap_get0, ap_get, ap_set0, ap_set, ap_take, ap_sub, ap_le, List.append_assoc, Nat.add_assoc, Nat.add_lt_add_iff_left, Nat.lt_add_right_iff_pos, hj, hj', hHn, hle, hr, hW, hw1, hw2, hlo', g1, hnl', hbl']
        obtain ⟨p1, p2, p3⟩ := q2 hdx
        exact ⟨cur, i, hh', hc, p1, by omega, p2, p3, rfl⟩
      | false =>
        rw [hdx] at hW
        simp -implicitDefEqProofs only [slices_DeleteFunc_pgantryapiStep_b0, go_sem, ↓reduceIte, reduceCtorEq, Int.reduceLT, Int.reduceLE, Int.reduceToNat, Nat.reduceAdd, Nat.reduceMul, Nat.reduceLeDiff, Nat.reduceLT, Nat.reduceSub, Int.reduceNeg, Int.reduceEq, Int.reduceBEq, Int.reduceBNe, Nat.reduceEqDiff, ap_get0, ap_get, ap_set0, ap_set, ap_take, ap_sub, ap_le, List.append_assoc, Nat.add_assoc, Nat.add_lt_add_iff_left, Nat.lt_add_right_iff_pos, hj, hj', hHn, hle, hle2, hil, hr, hW, hw1, hw2, hlo', g1, g2, g3, hnl', hbl', hlo, hset, fS]
        obtain ⟨p1, p2, p3⟩ := q3 hdx
        exact ⟨cur.set i x, i + 1, by rw [hset2], by rw [List.length_set]; exact hc, p1, by omega, p2, p3, rfl⟩
    · rintro env h' ⟨cur, i, hh', hc, hi, hij, ht, hd, rfl⟩
      rw [List.take_length] at hi ht
      have hHn : h'[n]? = some (.cells true (cur.map fS).flatten) := by rw [hh']; exact List.getElem?_set_self hnl
      have hset2 : ∀ A : VBlk, h'.set n A = h.set n A := fun A => by rw [hh', List.set_set]
      have hk1 : i ≤ l.length := by omega
      have hk0 : ¬ (l.length - i = 0) := by omega
      have hcc := cellsS_len cur
      have b3 : i * 5 + (l.length - i) * 5 ≤ (cur.map fS).flatten.length := by omega
      have hz1 := zrows5_len (l.length - i)
      have hz2 := zrows5_sc (l.length - i)
      have hrw : rwE (.clear [.int .i64 0, .int .i64 0, .int .i64 0, .int .i64 0, .int .i64 0]) (l.length - i) (((cur.map fS).flatten.drop (i * 5)).take ((l.length - i) * 5) |>.map VV.sc) = some (rows zr5 (l.length - i)) := rfl
      simp -implicitDefEqProofs only [slices_DeleteFunc_pgantryapiStep_b0, go_sem, ↓reduceIte, reduceCtorEq, Int.reduceLT, Int.reduceLE, Int.reduceToNat, Nat.reduceAdd, Nat.reduceMul, Nat.reduceLeDiff, Nat.reduceLT, Nat.reduceSub, Int.reduceNeg, Int.reduceEq, Int.reduceBEq, Int.reduceBNe, Nat.reduceEqDiff, Int.lt_irrefl, hHn, hset2, hk1, hk0, b3, hrw, hz1, hz2, hlo]
      rw [← hi]
      refine hP1 _ ?_ ?_
      · simp only [List.length_append, List.length_take, List.length_drop, hi]
        omega
      · rw [hi, List.append_assoc, List.take_append_of_le_length (by rw [List.length_take]; omega), List.take_take, Nat.min_self, ← ht, flat_take _ _ (flenS fS_len cur), List.map_take]
  obtain ⟨r, hr, cs, h2, h3, rfl⟩ := key
  exact ⟨cs, h2, h3, hr⟩
end Vg.G3
