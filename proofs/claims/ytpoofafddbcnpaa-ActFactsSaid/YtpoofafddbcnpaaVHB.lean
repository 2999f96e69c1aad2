import Derived.Test.YtpoofafddbcnpaaVH7
import Derived.Test.YtpoofafddbcnpaaVVgHeap2
namespace Vg.G3
open Go Lg
set_option linter.unusedSimpArgs false
set_option linter.unusedVariables false
set_option maxRecDepth 10000
set_option maxHeartbeats 2000000
attribute [local congr] bind_congr1
attribute [local go_sem] slices_SortFunc_pgantryapiStep_f slices_SortFunc_pgantryapiStep_v act_Steps_1_r0 act_Steps_1_r1 act_Steps_1_f act_Steps_1_v slices_IndexFunc_pgantryapiStep_r0 slices_IndexFunc_pgantryapiStep_r1 slices_IndexFunc_pgantryapiStep_r2 slices_IndexFunc_pgantryapiStep_r3 slices_IndexFunc_pgantryapiStep_r4 slices_IndexFunc_pgantryapiStep_r5 slices_IndexFunc_pgantryapiStep_r6 slices_IndexFunc_pgantryapiStep_r7 slices_IndexFunc_pgantryapiStep_f slices_IndexFunc_pgantryapiStep_v
theorem fS_len (s : Stp) : (fS s).length = 5 := rfl
theorem flenS {α : Type} {F : α → List VV} {k : Nat} (hF : ∀ x, (F x).length = k) (l : List α) : ∀ r ∈ l.map F, r.length = k := fun r hr => by obtain ⟨x, _, rfl⟩ := List.mem_map.1 hr; exact hF x
theorem cellsS_len (cur : List Stp) : (cur.map fS).flatten.length = cur.length * 5 := by rw [flat_len (flenS fS_len cur), List.length_map]
theorem setS_at {cur : List Stp} {m : Nat} {x y : Stp} (h : cur[m]? = some y) : vsplice (cur.map fS).flatten (m * 5) (fS x) = ((cur.set m x).map fS).flatten := by
  have := flat_set (d := 0) (vs := fS x) (flenS fS_len cur) (get_map h) (by rw [fS_len]; exact Nat.le_refl 5)
  rw [Nat.add_zero] at this
  rw [this, List.map_set]
  rfl
theorem fS_scal {l : List Stp} : ∀ r ∈ l.map fS, r.all scal = true := fun r hr => by obtain ⟨w, _, rfl⟩ := List.mem_map.1 hr; rfl
theorem showS_of (l : List Stp) : ((l.map fS).flatten.map fun c => c.sh.ow) = (l.map fS).flatten := scals_show (all_flat fS_scal)
def toS (f : Stp) : List Int := [f.k, f.a, f.p, f.s, f.t]
def ofS : List Int → Stp
  | [k, a, p, s, t] => ⟨k, a, p, s, t⟩
  | _ => ⟨0, 0, 0, 0, 0⟩
def sortS (l : List Stp) : List Stp := (sortI (l.map toS)).map ofS
theorem sortS_toS (l : List Stp) : (sortS l).map toS = sortI (l.map toS) := by
  unfold sortS
  rw [List.map_map]
  conv => rhs; rw [← List.map_id (sortI (l.map toS))]
  refine List.map_congr_left fun r hr => ?_
  have h1 : r ∈ l.map toS := (List.mergeSort_perm (l.map toS) _).mem_iff.1 hr
  obtain ⟨f, _, rfl⟩ := List.mem_map.1 h1
  rfl
theorem sortS_len (l : List Stp) : (sortS l).length = l.length := by
  have := congrArg List.length (sortS_toS l)
  rw [List.length_map] at this
  rw [this, sortI, List.length_mergeSort, List.length_map]
theorem sortS_mem (x : Stp) (l : List Stp) : x ∈ sortS l ↔ x ∈ l := by
  have inj : ∀ {f g : Stp}, toS f = toS g → f = g := fun {f g} h => by cases f; cases g; simp [toS] at h; simp [h]
  have h1 : toS x ∈ (sortS l).map toS ↔ toS x ∈ l.map toS := by rw [sortS_toS]; exact (List.mergeSort_perm (l.map toS) _).mem_iff
  constructor
  · intro h
    obtain ⟨y, hy, e⟩ := List.mem_map.1 (h1.1 (List.mem_map_of_mem h))
    exact inj e ▸ hy
  · intro h
    obtain ⟨y, hy, e⟩ := List.mem_map.1 (h1.2 (List.mem_map_of_mem h))
    exact inj e ▸ hy
theorem intsS_of (l : List Stp) : intsOf ((l.map fS).flatten.map VV.sc) = some (l.map toS).flatten := by
  induction l with
  | nil => rfl
  | cons f l ih => simp [fS, toS, VV.sc, intsOf] at ih ⊢; rw [ih]
theorem chunkS_of (l : List Stp) : chunkI 5 l.length (l.map toS).flatten = l.map toS := by
  induction l with
  | nil => rfl
  | cons f l ih =>
    simp only [List.length_cons, chunkI, List.map_cons, List.flatten_cons, toS]
    congr 1
theorem rw_sortS (l : List Stp) (hl : l.length ≤ 1000) : rwE (.sort 5) l.length ((l.map fS).flatten.map VV.sc) = some ((sortS l).map toS |>.flatten |>.map fun n => LV.int .i64 n) := by
  simp only [rwE, intsS_of, chunkS_of, sortS_toS]
  rw [if_pos (by omega)]
theorem cellsS_of (l : List Stp) : ofLVs ((l.map toS).flatten.map fun n => LV.int .i64 n) = (l.map fS).flatten := by
  rw [ofLVs_eq]
  induction l with
  | nil => rfl
  | cons f l ih => simp [toS, fS, ofLV] at ih ⊢; exact ih
theorem scS_of (l : List Stp) : ((l.map toS).flatten.map fun n => LV.int .i64 n).all scLV = true := by
  rw [List.all_eq_true]; intro x hx; obtain ⟨n, _, rfl⟩ := List.mem_map.1 hx; rfl
theorem toSS_len (l : List Stp) : ((l.map toS).flatten.map fun n => LV.int .i64 n).length = l.length * 5 := by
  rw [List.length_map]
  induction l with
  | nil => rfl
  | cons f l ih => simp [toS] at ih ⊢; omega
theorem SortS_spec {l : List Stp} {n lo : Nat} {h : VHeap} {cs : List VV} (hl : l.length ≤ 1000) (hlo : lo ≤ n) (hn : h[n]? = some (.cells true cs)) (hle : l.length * 5 ≤ cs.length) (ht : cs.take (l.length * 5) = (l.map fS).flatten) :
    ∃ cs', cs'.take (l.length * 5) = ((sortS l).map fS).flatten ∧ l.length * 5 ≤ cs'.length ∧ callVL vp lo n_slices_SortFunc_pgantryapiStep [.hs n 0 l.length 5, .func n_act_Compare []] h = some (.tup [], h.set n (.cells true cs')) := by
  by_cases hz : l.length = 0
  · refine ⟨cs, ?_, hle, ?_⟩
    · have : l = [] := List.length_eq_zero_iff.1 hz
      subst this; simp [sortS, sortI]
    · have key := call_body (p := vp) (lo := lo) (h := h) (f := n_slices_SortFunc_pgantryapiStep) (fn := slices_SortFunc_pgantryapiStep_v) (args := [.hs n 0 l.length 5, .func n_act_Compare []]) (P := fun r => r = (.tup [], h.set n (.cells true cs))) rfl (.inr rfl) rfl ?_
      · obtain ⟨r, hr, rfl⟩ := key; exact hr
      rw [set_same hn]
      simp -implicitDefEqProofs only [go_sem, ↓reduceIte, reduceCtorEq, Int.reduceLT, Int.reduceLE, Int.reduceToNat, Nat.reduceAdd, Nat.reduceMul, Nat.reduceLeDiff, Nat.reduceLT, Nat.reduceSub, Int.reduceNeg, Int.reduceEq, Int.reduceBEq, Int.reduceBNe, Nat.reduceEqDiff, sortF, hz]
  · have hr := rw_sortS l hl
    have h1 := toSS_len (sortS l)
    rw [sortS_len] at h1
    have h2 := scS_of (sortS l)
    have h3 := cellsS_of (sortS l)
    have h4 := cellsS_len (sortS l)
    rw [sortS_len] at h4
    refine ⟨((sortS l).map fS).flatten ++ cs.drop (l.length * 5), by rw [← h4, List.take_left], by rw [List.length_append, h4]; omega, ?_⟩
    have key := call_body (p := vp) (lo := lo) (h := h) (f := n_slices_SortFunc_pgantryapiStep) (fn := slices_SortFunc_pgantryapiStep_v) (args := [.hs n 0 l.length 5, .func n_act_Compare []]) (P := fun r => r = (.tup [], h.set n (.cells true (((sortS l).map fS).flatten ++ cs.drop (l.length * 5))))) rfl (.inr rfl) rfl ?_
    · obtain ⟨r, hr, rfl⟩ := key; exact hr
    simp -implicitDefEqProofs only [go_sem, ↓reduceIte, reduceCtorEq, Int.reduceLT, Int.reduceLE, Int.reduceToNat, Nat.reduceAdd, Nat.reduceMul, Nat.reduceLeDiff, Nat.reduceLT, Nat.reduceSub, Int.reduceNeg, Int.reduceEq, Int.reduceBEq, Int.reduceBNe, Nat.reduceEqDiff, sortF, hz, hn, hlo, hle, ht, hr, h1, h2, h3, h4]
/-- Steps that cannot be done. -/
theorem Steps1_spec {w : Wd} (hw : Ok w) (s : Stp) {n : Nat} {h : VHeap} {rw : Bool} (hn : h[n]? = some (.cells rw (fW w))) (lo : Nat) : ∃ b : Bool, (b = false ↔ canF w s) ∧ callVL vp lo n_act_Steps_1 [.agg (fS s), .ptr n 0] h = some (.bool b, h) := by
  obtain ⟨e, he, hC⟩ := Can_spec hw s
  refine ⟨!decide (e = 0), by simp [he], call_read (fn := act_Steps_1_v) («as» := [.agg (fS s), .ptr n 0]) rfl rfl rfl rfl rfl rfl (.inl rfl) ?_⟩
  have hn' : ∀ a : VBlk, (h ++ [a])[n]? = some (.cells rw (fW w)) := fun a => by rw [List.getElem?_append_left (lt_of_getElem? hn)]; exact hn
  simp only [fW, fS] at hC hn'
  simp -implicitDefEqProofs only [go_sem, ↓reduceIte, reduceCtorEq, Int.reduceLT, Int.reduceLE, Int.reduceToNat, Nat.reduceAdd, Nat.reduceMul, Nat.reduceLeDiff, Nat.reduceLT, Nat.reduceSub, Int.reduceNeg, Int.reduceEq, Int.reduceBEq, Int.reduceBNe, Nat.reduceEqDiff, ap_get0, ap_get, ap_set0, ap_set, ap_take, ap_sub, ap_le, List.append_assoc, Nat.add_assoc, Nat.add_lt_add_iff_left, Nat.lt_add_right_iff_pos, fS, hn', hC]
open Classical in
noncomputable def delF (w : Wd) (s : Stp) : Bool := !decide (canF w s)
theorem Steps1_eq {w : Wd} (hw : Ok w) (s : Stp) {n : Nat} {h : VHeap} {rw : Bool} (hn : h[n]? = some (.cells rw (fW w))) (lo : Nat) : callVL vp lo n_act_Steps_1 [.agg (fS s), .ptr n 0] h = some (.bool (delF w s), h) := by
  obtain ⟨b, hb, hC⟩ := Steps1_spec hw s hn lo
  rw [hC]
  congr 3
  unfold delF
  cases b
  · simp [hb.1 rfl]
  · have : ¬ canF w s := fun h => by have := hb.2 h; cases this
    simp [this]
theorem IndexS_spec {w : Wd} (hw : Ok w) {l : List Stp} {n : Nat} {h : VHeap} {rw : Bool} (hl : l.length ≤ 1000) (hn : h[n]? = some (.cells rw (fW w))) (lo : Nat) :
    ∃ m : Int, ((m = -1 ∧ ∀ s ∈ l, delF w s = false) ∨ ∃ k : Nat, m = k ∧ k < l.length ∧ ∀ j s, j < k → l[j]? = some s → delF w s = false) ∧ ((∀ k : Nat, m = k → ∀ s, l[k]? = some s → delF w s = true)) ∧
    callVL vp lo n_slices_IndexFunc_pgantryapiStep [.list .s (l.map fS), .func n_act_Steps_1 [.ptr n 0]] h = some (.int .i64 m, h) := by
  let R : Int → Prop := fun m => ((m = -1 ∧ ∀ s ∈ l, delF w s = false) ∨ ∃ k : Nat, m = k ∧ k < l.length ∧ ∀ j s, j < k → l[j]? = some s → delF w s = false) ∧ (∀ k : Nat, m = k → ∀ s, l[k]? = some s → delF w s = true)
  have key : ∃ v, (∃ m : Int, R m ∧ v = VV.int .i64 m) ∧ callVL vp lo n_slices_IndexFunc_pgantryapiStep [.list .s (l.map fS), .func n_act_Steps_1 [.ptr n 0]] h = some (v, h) := by
    obtain ⟨P, hP⟩ : ∃ P : VV → Prop, P = fun v : VV => ∃ m : Int, R m ∧ v = .int .i64 m := ⟨_, rfl⟩
    have hP1 : ∀ m : Int, R m → P (.int .i64 m) := fun m hm => by subst hP; exact ⟨m, hm, rfl⟩
    suffices hs : ∃ v, P v ∧ callVL vp lo n_slices_IndexFunc_pgantryapiStep [.list .s (l.map fS), .func n_act_Steps_1 [.ptr n 0]] h = some (v, h) by subst hP; exact hs
    clear hP
    have hE : Sat ((codeVL (callVL vp) h.length slices_IndexFunc_pgantryapiStep_v.fn.body ([.list .s (l.map fS), .func n_act_Steps_1 [.ptr n 0]] ++ List.replicate (slices_IndexFunc_pgantryapiStep_v.fn.ntmps - slices_IndexFunc_pgantryapiStep_v.fn.nargs) (.tup [])) h).bind (endV slices_IndexFunc_pgantryapiStep_v h.length)) fun r => P r.1 := by
      simp -implicitDefEqProofs only [go_sem, ↓reduceIte, reduceCtorEq, Int.reduceLT, Int.reduceLE, Int.reduceToNat, Nat.reduceAdd, Nat.reduceMul, Nat.reduceLeDiff, Nat.reduceLT, Nat.reduceSub, Int.reduceNeg, Int.reduceEq, Int.reduceBEq, Int.reduceBNe, Nat.reduceEqDiff]
      rw [Sat_bind]
      refine loop_up (I := fun i env h' => h' = h ∧ (∀ j s, j < i → l[j]? = some s → delF w s = false) ∧ env = [.list .s (l.map fS), .func n_act_Steps_1 [.ptr n 0], .undef, .undef, .undef, .undef, .undef, .int .i64 ((l.length : Nat) : Int), .int .i64 ((i : Nat) : Int), .undef, .undef, .undef, .undef, .undef, .undef, .undef, .undef, .undef, .undef]) l.length ?_ ?_ (Nat.zero_le _) ⟨rfl, fun j s hj => absurd hj (Nat.not_lt_zero j), by simp -implicitDefEqProofs only [go_sem, ↓reduceIte, reduceCtorEq, Int.reduceLT, Int.reduceLE, Int.reduceToNat, Nat.reduceAdd, Nat.reduceMul, Nat.reduceLeDiff, Nat.reduceLT, Nat.reduceSub, Int.reduceNeg, Int.reduceEq, Int.reduceBEq, Int.reduceBNe, Nat.reduceEqDiff]⟩
      · rintro i env h' hi ⟨rfl, hA, rfl⟩
        obtain ⟨x, hx⟩ := get_some hi
        have hi' : (i : Int) < (l.length : Int) := by omega
        have hw' := wrap_succ (i := i) (by omega)
        have hg := get_map (F := fS) hx
        have hW := Steps1_eq hw x hn
        simp only [fS] at hg hW
        cases hd : delF w x with
        | false =>
          simp -implicitDefEqProofs only [slices_IndexFunc_pgantryapiStep_b0, go_sem, ↓reduceIte, reduceCtorEq, Int.reduceLT, Int.reduceLE, Int.reduceToNat, Nat.reduceAdd, Nat.reduceMul, Nat.reduceLeDiff, Nat.reduceLT, Nat.reduceSub, Int.reduceNeg, Int.reduceEq, Int.reduceBEq, Int.reduceBNe, Nat.reduceEqDiff, hi', hg, hw', hW, hd]
          intro j g hj hjg
          rcases Nat.lt_succ_iff_lt_or_eq.1 hj with hj | rfl
          · exact hA j g hj hjg
          · rw [hx] at hjg; cases hjg; exact hd
        | true =>
          simp -implicitDefEqProofs only [slices_IndexFunc_pgantryapiStep_b0, go_sem, ↓reduceIte, reduceCtorEq, Int.reduceLT, Int.reduceLE, Int.reduceToNat, Nat.reduceAdd, Nat.reduceMul, Nat.reduceLeDiff, Nat.reduceLT, Nat.reduceSub, Int.reduceNeg, Int.reduceEq, Int.reduceBEq, Int.reduceBNe, Nat.reduceEqDiff, hi', hg, hw', hW, hd]
          refine hP1 i ⟨.inr ⟨i, rfl, hi, hA⟩, fun k hk s hs => ?_⟩
          obtain rfl : i = k := by omega
          rw [hx] at hs; cases hs; exact hd
      · rintro env h' ⟨rfl, hA, rfl⟩
        simp -implicitDefEqProofs only [slices_IndexFunc_pgantryapiStep_b0, go_sem, ↓reduceIte, reduceCtorEq, Int.reduceLT, Int.reduceLE, Int.reduceToNat, Nat.reduceAdd, Nat.reduceMul, Nat.reduceLeDiff, Nat.reduceLT, Nat.reduceSub, Int.reduceNeg, Int.reduceEq, Int.reduceBEq, Int.reduceBNe, Nat.reduceEqDiff, Int.lt_irrefl]
        refine hP1 (-1) ⟨.inl ⟨rfl, fun s hs => ?_⟩, fun k hk => by omega⟩
        obtain ⟨j, hj⟩ := List.mem_iff_getElem?.1 hs
        exact hA j s (lt_of_getElem? hj) hj
    obtain ⟨r, hr, hPr⟩ := hE
    exact ⟨r.1, hPr, call_read (fn := slices_IndexFunc_pgantryapiStep_v) («as» := [.list .s (l.map fS), .func n_act_Steps_1 [.ptr n 0]]) rfl rfl rfl rfl rfl rfl (.inl rfl) ⟨r, hr, rfl⟩⟩
  obtain ⟨v, ⟨m, hm, rfl⟩, hc⟩ := key
  exact ⟨m, hm.1, hm.2, hc⟩
end Vg.G3
namespace Vg.G3
open Go Lg
set_option linter.unusedSimpArgs false
set_option linter.unusedVariables false
set_option maxRecDepth 10000
set_option maxHeartbeats 2000000
attribute [local congr] bind_congr1
attribute [local go_sem] slices_DeleteFunc_pgantryapiStep_r0 slices_DeleteFunc_pgantryapiStep_r1 slices_DeleteFunc_pgantryapiStep_r2 slices_DeleteFunc_pgantryapiStep_r3 slices_DeleteFunc_pgantryapiStep_r4 slices_DeleteFunc_pgantryapiStep_r5 slices_DeleteFunc_pgantryapiStep_r6 slices_DeleteFunc_pgantryapiStep_r7 slices_DeleteFunc_pgantryapiStep_r8 slices_DeleteFunc_pgantryapiStep_r9 slices_DeleteFunc_pgantryapiStep_r10 slices_DeleteFunc_pgantryapiStep_r11 slices_DeleteFunc_pgantryapiStep_r12 slices_DeleteFunc_pgantryapiStep_f slices_DeleteFunc_pgantryapiStep_v
noncomputable def keepS (w : Wd) (l : List Stp) : List Stp := l.filter fun s => !delF w s
theorem keep_take {w : Wd} {l : List Stp} {j : Nat} {x : Stp} (h : l[j]? = some x) : keepS w (l.take (j + 1)) = keepS w (l.take j) ++ (if delF w x = true then [] else [x]) := by
  unfold keepS
  rw [take_succ_map h, List.filter_append]
  congr 1
  by_cases hv : delF w x = true <;> simp [hv]
theorem keep_le (w : Wd) (l : List Stp) (j : Nat) : (keepS w (l.take j)).length ≤ j := by
  refine Nat.le_trans (List.length_filter_le _ _) ?_
  rw [List.length_take]; omega
theorem keep_all {w : Wd} {l : List Stp} (h : ∀ s ∈ l, delF w s = false) : keepS w l = l := List.filter_eq_self.2 fun s hs => by simp [h s hs]
theorem nrmL_of : ∀ {cs : List VV}, cs.all scal = true → nrmL cs = cs
  | [], _ => rfl
  | c :: cs, h => by
    simp only [List.all_cons, Bool.and_eq_true] at h
    simp only [nrmL, nrmL_of h.2]
    congr 1
    have := h.1
    cases c <;> first | rfl | cases this
def zr5 : List LV := [.int .i64 0, .int .i64 0, .int .i64 0, .int .i64 0, .int .i64 0]
theorem zrows5_len (n : Nat) : (rows zr5 n).length = n * 5 := by rw [rows_length]; rfl
theorem zrows5_sc : ∀ n : Nat, (rows zr5 n).all scLV = true
  | 0 => rfl
  | n + 1 => by simp only [rows, List.all_append, zrows5_sc n, Bool.and_true]; rfl
theorem rowS_at {cur : List Stp} {m : Nat} {x : Stp} (h : cur[m]? = some x) : ((cur.map fS).flatten.drop (m * 5)).take 5 = fS x := flat_row (flenS fS_len cur) (get_map h)
theorem ap_setl {h l : VHeap} {n : Nat} {x : VBlk} (hn : n < h.length) : (h ++ l).set n x = h.set n x ++ l := List.set_append_left _ _ hn
theorem ap_takel {h l : VHeap} {n : Nat} {x : VBlk} : (h.set n x ++ l).take h.length = h.set n x := by
  rw [List.take_append_of_le_length (by rw [List.length_set]; exact Nat.le_refl _), List.take_of_length_le (by rw [List.length_set]; exact Nat.le_refl _)]
theorem keep_next {w : Wd} {l cur : List Stp} {i j : Nat} {x : Stp} (hc : cur.length = l.length) (hi : i = (keepS w (l.take j)).length) (hj : j < l.length) (hij : i < j) (h1 : cur.take i = keepS w (l.take j)) (h2 : cur.drop j = l.drop j) (hx : l[j]? = some x) :
    cur[j]? = some x ∧ (delF w x = true → (keepS w (l.take (j + 1))).length = i ∧ cur.take i = keepS w (l.take (j + 1)) ∧ cur.drop (j + 1) = l.drop (j + 1)) ∧
    (delF w x = false → (keepS w (l.take (j + 1))).length = i + 1 ∧ (cur.set i x).take (i + 1) = keepS w (l.take (j + 1)) ∧ (cur.set i x).drop (j + 1) = l.drop (j + 1)) := by
  have hk := keep_take (w := w) hx
  have hg : ∀ k, j ≤ k → cur[k]? = l[k]? := fun k hk => by
    have := congrArg (fun z => z[k - j]?) h2
    simp only [List.getElem?_drop] at this
    rwa [show j + (k - j) = k by omega] at this
  refine ⟨by rw [hg j (Nat.le_refl _)]; exact hx, fun hd => ?_, fun hd => ?_⟩
  · rw [hd, if_pos rfl, List.append_nil] at hk
    rw [hk]
    refine ⟨hi.symm, h1, ?_⟩
    apply List.ext_getElem?; intro k
    rw [List.getElem?_drop, List.getElem?_drop]; exact hg _ (by omega)
  · rw [hd, if_neg (by decide)] at hk
    rw [hk]
    refine ⟨by rw [List.length_append, ← hi]; rfl, ?_, ?_⟩
    · rw [List.take_add_one, List.getElem?_set_self (by omega), List.take_set_of_le (Nat.le_refl _), h1]; rfl
    · rw [List.drop_set_of_lt (by omega)]
      apply List.ext_getElem?; intro k
      rw [List.getElem?_drop, List.getElem?_drop]; exact hg _ (by omega)
theorem Delete_spec {w : Wd} (hw : Ok w) {l : List Stp} {n b lo : Nat} {h : VHeap} {rw : Bool} (hl : l.length ≤ 1000) (h1 : 1 ≤ l.length) (hbn : b ≠ n) (hb : h[b]? = some (.cells rw (fW w))) (hlo : lo ≤ n) (hn : h[n]? = some (.cells true (l.map fS).flatten)) :
    ∃ cs, (keepS w l).length * 5 ≤ cs.length ∧ cs.take ((keepS w l).length * 5) = ((keepS w l).map fS).flatten ∧
      callVL vp lo n_slices_DeleteFunc_pgantryapiStep [.hs n 0 l.length 5, .func n_act_Steps_1 [.ptr b 0]] h = some (.hs n 0 (keepS w l).length 5, h.set n (.cells true cs)) := by
  obtain ⟨m, hm1, hm2, hI⟩ := IndexS_spec hw (l := l) hl hb lo
  have hcl := cellsS_len l
  have hI' : callVL vp lo n_slices_IndexFunc_pgantryapiStep [.hs n 0 l.length 5, .func n_act_Steps_1 [.ptr b 0]] h = some (.int .i64 m, h) := by
    refine call_snap2 (fn := slices_IndexFunc_pgantryapiStep_v) («as» := [.list .s (l.map fS), .func n_act_Steps_1 [.ptr b 0]]) rfl rfl rfl ?_ rfl rfl hI
    have hch := chunk_flat (es := 5) (l.map fS) (flenS fS_len l)
    rw [List.length_map] at hch
    simp only [snapL, snap, rowsOf, if_true, hn, Nat.zero_add, hcl, Nat.le_refl, true_and, List.drop_zero, scals_low (all_flat (fS_scal (l := l)))]
    rw [nrmL_of (all_flat (fS_scal (l := l))), hch]
  have key : Sat (callVL vp lo n_slices_DeleteFunc_pgantryapiStep [.hs n 0 l.length 5, .func n_act_Steps_1 [.ptr b 0]] h) (fun r => ∃ cs, (keepS w l).length * 5 ≤ cs.length ∧ cs.take ((keepS w l).length * 5) = ((keepS w l).map fS).flatten ∧ r = (.hs n 0 (keepS w l).length 5, h.set n (.cells true cs))) := by
    refine call_body (p := vp) (lo := lo) (h := h) (f := n_slices_DeleteFunc_pgantryapiStep) (fn := slices_DeleteFunc_pgantryapiStep_v) (args := [.hs n 0 l.length 5, .func n_act_Steps_1 [.ptr b 0]]) rfl (.inr rfl) rfl ?_
    obtain ⟨P, hP⟩ : ∃ P : VV × VHeap → Prop, P = fun r => ∃ cs, (keepS w l).length * 5 ≤ cs.length ∧ cs.take ((keepS w l).length * 5) = ((keepS w l).map fS).flatten ∧ r = (.hs n 0 (keepS w l).length 5, h.set n (.cells true cs)) := ⟨_, rfl⟩
    have hP1 : ∀ cs, (keepS w l).length * 5 ≤ cs.length → cs.take ((keepS w l).length * 5) = ((keepS w l).map fS).flatten → P (.hs n 0 (keepS w l).length 5, h.set n (.cells true cs)) := fun cs h1 h2 => by subst hP; exact ⟨cs, h1, h2, rfl⟩
    rw [← hP]
    clear hP
    have hnl := lt_of_some hn
    have hbl := lt_of_some hb
    rcases hm1 with ⟨rfl, hall⟩ | ⟨k, rfl, hk, hbef⟩
    · simp -implicitDefEqProofs only [go_sem, ↓reduceIte, reduceCtorEq, Int.reduceLT, Int.reduceLE, Int.reduceToNat, Nat.reduceAdd, Nat.reduceMul, Nat.reduceLeDiff, Nat.reduceLT, Nat.reduceSub, Int.reduceNeg, Int.reduceEq, Int.reduceBEq, Int.reduceBNe, Nat.reduceEqDiff, hI']
      have hka := keep_all hall
      have := hP1 (l.map fS).flatten (by rw [hka, hcl]; exact Nat.le_refl _) (by rw [hka, ← hcl, List.take_length])
      rwa [hka, set_same hn] at this
    have hk1 : ¬ (k : Int) = -1 := by omega
    have hwk := wrap_succ (i := k) (by omega)
    obtain ⟨xk, hxk⟩ := get_some hk
    have hdk := hm2 k rfl xk hxk
    have hkk : keepS w (l.take k) = l.take k := keep_all fun s hs => by
      obtain ⟨j, hj⟩ := List.mem_iff_getElem?.1 hs
      have hjk : j < k := by have := lt_of_getElem? hj; rw [List.length_take] at this; omega
      rw [List.getElem?_take, if_pos hjk] at hj
      exact hbef j s hjk hj
    have hkk1 := keep_take (w := w) hxk
    rw [hdk, if_pos rfl, List.append_nil, hkk] at hkk1
    simp -implicitDefEqProofs only [go_sem, ↓reduceIte, reduceCtorEq, Int.reduceLT, Int.reduceLE, Int.reduceToNat, Nat.reduceAdd, Nat.reduceMul, Nat.reduceLeDiff, Nat.reduceLT, Nat.reduceSub, Int.reduceNeg, Int.reduceEq, Int.reduceBEq, Int.reduceBNe, Nat.reduceEqDiff, hI', hk1, hwk]
    rw [Sat_bind]
    refine loop_up (I := fun j env h' => ∃ (cur : List Stp) (i : Nat), h' = h.set n (.cells true (cur.map fS).flatten) ∧ cur.length = l.length ∧ (keepS w (l.take j)).length = i ∧ i < j ∧ cur.take i = keepS w (l.take j) ∧ cur.drop j = l.drop j ∧
      env = [.hs n 0 l.length 5, .func n_act_Steps_1 [.ptr b 0], .undef, .undef, .undef, .int .i64 ((i : Nat) : Int), .int .i64 ((j : Nat) : Int), .undef, .undef, .undef, .undef, .undef, .undef, .undef, .undef, .undef, .undef, .undef, .undef, .undef, .undef, .undef, .undef, .undef, .undef, .undef, .undef, .undef, .undef, .undef, .undef, .undef, .undef, .undef, .undef, .undef, .undef, .undef, .undef, .undef, .undef, .undef]) l.length ?_ ?_ (i := k + 1) hk ⟨l, k, (set_same hn).symm, rfl, by rw [hkk1, List.length_take]; omega, Nat.lt_succ_self k, hkk1.symm, rfl, by simp -implicitDefEqProofs only [go_sem, ↓reduceIte, reduceCtorEq, Int.reduceLT, Int.reduceLE, Int.reduceToNat, Nat.reduceAdd, Nat.reduceMul, Nat.reduceLeDiff, Nat.reduceLT, Nat.reduceSub, Int.reduceNeg, Int.reduceEq, Int.reduceBEq, Int.reduceBNe, Nat.reduceEqDiff]⟩
    · rintro j env h' hj ⟨cur, i, hh', hc, hi, hij, ht, hd, rfl⟩
      obtain ⟨x, hx⟩ := get_some hj
      obtain ⟨q1, q2, q3⟩ := keep_next hc hi.symm hj hij ht hd hx
      have hr := rowS_at q1
      obtain ⟨y, hy⟩ := get_some (show i < cur.length by omega)
      have hset := setS_at (x := x) hy
      have hccl := cellsS_len cur
      have hle : j * 5 + 5 ≤ (cur.map fS).flatten.length := by omega
      have hle2 : i * 5 + 5 ≤ (cur.map fS).flatten.length := by omega
      have hil : i < l.length := by omega
      have hj' : (j : Int) < (l.length : Int) := by omega
      have hw1 := wrap_succ (i := j) (by omega)
      have hw2 := wrap_succ (i := i) (by omega)
      have hHn : h'[n]? = some (.cells true (cur.map fS).flatten) := by rw [hh']; exact List.getElem?_set_self hnl
      have hHb : h'[b]? = some (.cells rw (fW w)) := by rw [hh', List.getElem?_set_ne (fun e => hbn e.symm)]; exact hb
      have hHl : h'.length = h.length := by rw [hh', List.length_set]
      have hset2 : ∀ A : VBlk, h'.set n A = h.set n A := fun A => by rw [hh', List.set_set]
      have hnl' : n < h'.length := by omega
      have hbl' : b < h'.length := by omega
      have g1 : ∀ l : VHeap, (h' ++ l)[n]? = some (.cells true (cur.map fS).flatten) := fun l => ap_low hHn
      have g2 : ∀ (l : VHeap) (A : VBlk), (h' ++ l).set n A = h'.set n A ++ l := fun l A => ap_setl hnl'
      have g3 : ∀ (l : VHeap) (A : VBlk), (h'.set n A ++ l).take h'.length = h'.set n A := fun l A => ap_takel
      have hW : ∀ (lo : Nat) (l : VHeap), callVL vp lo n_act_Steps_1 [.agg (fS x), .ptr b 0] (h' ++ l) = some (.bool (delF w x), h' ++ l) := fun lo l => Steps1_eq hw x (ap_low hHb) lo
      have hlo' : lo ≤ h'.length := by omega
      simp only [fS] at hr hW
      simp only [vsplice, fS, List.length_cons, List.length_nil, Nat.zero_add, Nat.reduceAdd] at hset
      cases hdx : delF w x with
      | true =>
        rw [hdx] at hW
        simp -implicitDefEqProofs only [slices_DeleteFunc_pgantryapiStep_b0, go_sem, ↓reduceIte, reduceCtorEq, Int.reduceLT, Int.reduceLE, Int.reduceToNat, Nat.reduceAdd, Nat.reduceMul, Nat.reduceLeDiff, Nat.reduceLT, Nat.reduceSub, Int.reduceNeg, Int.reduceEq, Int.reduceBEq, Int.reduceBNe, Nat.reduceEqDiff, ap_get0, ap_get, ap_set0, ap_set, ap_take, ap_sub, ap_le, List.append_assoc, Nat.add_assoc, Nat.add_lt_add_iff_left, Nat.lt_add_right_iff_pos, hj, hj', hHn, hle, hr, hW, hw1, hw2, hlo', g1, hnl', hbl']
        obtain ⟨p1, p2, p3⟩ := q2 hdx
        exact ⟨cur, i, hh', hc, p1, by omega, p2, p3, rfl⟩
      | false =>
        rw [hdx] at hW
        simp -implicitDefEqProofs only [slices_DeleteFunc_pgantryapiStep_b0, go_sem, ↓reduceIte, reduceCtorEq, Int.reduceLT, Int.reduceLE, Int.reduceToNat, Nat.reduceAdd, Nat.reduceMul, Nat.reduceLeDiff, Nat.reduceLT, Nat.reduceSub, Int.reduceNeg, Int.reduceEq, Int.reduceBEq, Int.reduceBNe, Nat.reduceEqDiff, ap_get0, ap_get, ap_set0, ap_set, ap_take, ap_sub, ap_le, List.append_assoc, Nat.add_assoc, Nat.add_lt_add_iff_left, Nat.lt_add_right_iff_pos, hj, hj', hHn, hle, hle2, hil, hr, hW, hw1, hw2, hlo', g1, g2, g3, hnl', hbl', hlo, hset, fS]
        obtain ⟨p1, p2, p3⟩ := q3 hdx
        exact ⟨cur.set i x, i + 1, by rw [hset2], by rw [List.length_set]; exact hc, p1, by omega, p2, p3, rfl⟩
    · rintro env h' ⟨cur, i, hh', hc, hi, hij, ht, hd, rfl⟩
      rw [List.take_length] at hi ht
      have hHn : h'[n]? = some (.cells true (cur.map fS).flatten) := by rw [hh']; exact List.getElem?_set_self hnl
      have hset2 : ∀ A : VBlk, h'.set n A = h.set n A := fun A => by rw [hh', List.set_set]
      have hk1 : i ≤ l.length := by omega
      have hk0 : ¬ (l.length - i = 0) := by omega
      have hcc := cellsS_len cur
      have b3 : i * 5 + (l.length - i) * 5 ≤ (cur.map fS).flatten.length := by omega
      have hz1 := zrows5_len (l.length - i)
      have hz2 := zrows5_sc (l.length - i)
      have hrw : rwE (.clear [.int .i64 0, .int .i64 0, .int .i64 0, .int .i64 0, .int .i64 0]) (l.length - i) (((cur.map fS).flatten.drop (i * 5)).take ((l.length - i) * 5) |>.map VV.sc) = some (rows zr5 (l.length - i)) := rfl
      simp -implicitDefEqProofs only [slices_DeleteFunc_pgantryapiStep_b0, go_sem, ↓reduceIte, reduceCtorEq, Int.reduceLT, Int.reduceLE, Int.reduceToNat, Nat.reduceAdd, Nat.reduceMul, Nat.reduceLeDiff, Nat.reduceLT, Nat.reduceSub, Int.reduceNeg, Int.reduceEq, Int.reduceBEq, Int.reduceBNe, Nat.reduceEqDiff, Int.lt_irrefl, hHn, hset2, hk1, hk0, b3, hrw, hz1, hz2, hlo]
      rw [← hi]
      refine hP1 _ ?_ ?_
      · simp only [List.length_append, List.length_take, List.length_drop, hi]
        omega
      · rw [hi, List.append_assoc, List.take_append_of_le_length (by rw [List.length_take]; omega), List.take_take, Nat.min_self, ← ht, flat_take _ _ (flenS fS_len cur), List.map_take]
  obtain ⟨r, hr, cs, h2, h3, rfl⟩ := key
  exact ⟨cs, h2, h3, hr⟩
end Vg.G3
