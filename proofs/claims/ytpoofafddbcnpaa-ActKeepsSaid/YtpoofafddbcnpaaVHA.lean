import Derived.Test.YtpoofafddbcnpaaVH7
namespace Vg.G3
open Go Lg
set_option linter.unusedSimpArgs false
set_option linter.unusedVariables false
set_option maxRecDepth 10000
set_option maxHeartbeats 2000000
attribute [local congr] bind_congr1
attribute [local go_sem] slices_SortFunc_pgantryapiStep_f slices_SortFunc_pgantryapiStep_v act_Steps_1_r0 act_Steps_1_r1 act_Steps_1_f act_Steps_1_v slices_IndexFunc_pgantryapiStep_r0 slices_IndexFunc_pgantryapiStep_r1 slices_IndexFunc_pgantryapiStep_r2 slices_IndexFunc_pgantryapiStep_r3 slices_IndexFunc_pgantryapiStep_r4 slices_IndexFunc_pgantryapiStep_r5 slices_IndexFunc_pgantryapiStep_r6 slices_IndexFunc_pgantryapiStep_r7 slices_IndexFunc_pgantryapiStep_f slices_IndexFunc_pgantryapiStep_v
theorem fS_len (s : Stp) : (fS s).length = 5 := rfl
theorem flenS {α : Type} {F : α → List VV} {k : Nat} (hF : ∀ x, (F x).length = k) (l : List α) : ∀ r ∈ l.map F, r.length = k := fun r hr => by obtain ⟨x, _, rfl⟩ := List.mem_map.1 hr; exact hF x
theorem cellsS_len (cur : List Stp) : (cur.map fS).flatten.length = cur.length * 5 := by rw [flat_len (flenS fS_len cur), List.length_map]
theorem setS_at {cur : List Stp} {m : Nat} {x y : Stp} (h : cur[m]? = some y) : vsplice (cur.map fS).flatten (m * 5) (fS x) = ((cur.set m x).map fS).flatten := by
  have := flat_set (d := 0) (vs := fS x) (flenS fS_len cur) (get_map h) (by rw [fS_len]; exact Nat.le_refl 5)
  rw [Nat.add_zero] at this
  rw [this, List.map_set]
  rfl
theorem fS_scal {l : List Stp} : ∀ r ∈ l.map fS, r.all scal = true := fun r hr => by obtain ⟨w, _, rfl⟩ := List.mem_map.1 hr; rfl
theorem showS_of (l : List Stp) : ((l.map fS).flatten.map fun c => c.sh.ow) = (l.map fS).flatten := scals_show (all_flat fS_scal)
def toS (f : Stp) : List Int := [f.k, f.a, f.p, f.s, f.t]
def ofS : List Int → Stp
  | [k, a, p, s, t] => ⟨k, a, p, s, t⟩
  | _ => ⟨0, 0, 0, 0, 0⟩
def sortS (l : List Stp) : List Stp := (sortI (l.map toS)).map ofS
theorem sortS_toS (l : List Stp) : (sortS l).map toS = sortI (l.map toS) := by
  unfold sortS
  rw [List.map_map]
  conv => rhs; rw [← List.map_id (sortI (l.map toS))]
  refine List.map_congr_left fun r hr => ?_
  have h1 : r ∈ l.map toS := (List.mergeSort_perm (l.map toS) _).mem_iff.1 hr
  obtain ⟨f, _, rfl⟩ := List.mem_map.1 h1
  rfl
theorem sortS_len (l : List Stp) : (sortS l).length = l.length := by
  have := congrArg List.length (sortS_toS l)
  rw [List.length_map] at this
  rw [this, sortI, List.length_mergeSort, List.length_map]
theorem sortS_mem (x : Stp) (l : List Stp) : x ∈ sortS l ↔ x ∈ l := by
  have inj : ∀ {f g : Stp}, toS f = toS g → f = g := fun {f g} h => by cases f; cases g; simp [toS] at h; simp [h]
  have h1 : toS x ∈ (sortS l).map toS ↔ toS x ∈ l.map toS := by rw [sortS_toS]; exact (List.mergeSort_perm (l.map toS) _).mem_iff
  constructor
  · intro h
    obtain ⟨y, hy, e⟩ := List.mem_map.1 (h1.1 (List.mem_map_of_mem h))
    exact inj e ▸ hy
  · intro h
    obtain ⟨y, hy, e⟩ := List.mem_map.1 (h1.2 (List.mem_map_of_mem h))
    exact inj e ▸ hy
theorem intsS_of (l : List Stp) : intsOf ((l.map fS).flatten.map VV.sc) = some (l.map toS).flatten := by
  induction l with
  | nil => rfl
  | cons f l ih => simp [fS, toS, VV.sc, intsOf] at ih ⊢; rw [ih]
theorem chunkS_of (l : List Stp) : chunkI 5 l.length (l.map toS).flatten = l.map toS := by
  induction l with
  | nil => rfl
  | cons f l ih =>
    simp only [List.length_cons, chunkI, List.map_cons, List.flatten_cons, toS]
    congr 1
theorem rw_sortS (l : List Stp) (hl : l.length ≤ 1000) : rwE (.sort 5) l.length ((l.map fS).flatten.map VV.sc) = some ((sortS l).map toS |>.flatten |>.map fun n => LV.int .i64 n) := by
  simp only [rwE, intsS_of, chunkS_of, sortS_toS]
  rw [if_pos (by omega)]
theorem cellsS_of (l : List Stp) : ofLVs ((l.map toS).flatten.map fun n => LV.int .i64 n) = (l.map fS).flatten := by
  rw [ofLVs_eq]
  induction l with
  | nil => rfl
  | cons f l ih => simp [toS, fS, ofLV] at ih ⊢; exact ih
theorem scS_of (l : List Stp) : ((l.map toS).flatten.map fun n => LV.int .i64 n).all scLV = true := by
  rw [List.all_eq_true]; intro x hx; obtain ⟨n, _, rfl⟩ := List.mem_map.1 hx; rfl
theorem toSS_len (l : List Stp) : ((l.map toS).flatten.map fun n => LV.int .i64 n).length = l.length * 5 := by
  rw [List.length_map]
  induction l with
  | nil => rfl
  | cons f l ih => simp [toS] at ih ⊢; omega
theorem SortS_spec {l : List Stp} {n lo : Nat} {h : VHeap} {cs : List VV} (hl : l.length ≤ 1000) (hlo : lo ≤ n) (hn : h[n]? = some (.cells true cs)) (hle : l.length * 5 ≤ cs.length) (ht : cs.take (l.length * 5) = (l.map fS).flatten) :
    ∃ cs', cs'.take (l.length * 5) = ((sortS l).map fS).flatten ∧ l.length * 5 ≤ cs'.length ∧ callVL vp lo n_slices_SortFunc_pgantryapiStep [.hs n 0 l.length 5, .func n_act_Compare []] h = some (.tup [], h.set n (.cells true cs')) := by
  by_cases hz : l.length = 0
  · refine ⟨cs, ?_, hle, ?_⟩
    · have : l = [] := List.length_eq_zero_iff.1 hz
      subst this; simp [sortS, sortI]
    · have key := call_body (p := vp) (lo := lo) (h := h) (f := n_slices_SortFunc_pgantryapiStep) (fn := slices_SortFunc_pgantryapiStep_v) (args := [.hs n 0 l.length 5, .func n_act_Compare []]) (P := fun r => r = (.tup [], h.set n (.cells true cs))) rfl (.inr rfl) rfl ?_
      · obtain ⟨r, hr, rfl⟩ := key; exact hr
      rw [set_same hn]
      simp -implicitDefEqProofs only [go_sem, ↓reduceIte, reduceCtorEq, Int.reduceLT, Int.reduceLE, Int.reduceToNat, Nat.reduceAdd, Nat.reduceMul, Nat.reduceLeDiff, Nat.reduceLT, Nat.reduceSub, Int.reduceNeg, Int.reduceEq, Int.reduceBEq, Int.reduceBNe, Nat.reduceEqDiff, sortF, hz]
  · have hr := rw_sortS l hl
    have h1 := toSS_len (sortS l)
    rw [sortS_len] at h1
    have h2 := scS_of (sortS l)
    have h3 := cellsS_of (sortS l)
    have h4 := cellsS_len (sortS l)
    rw [sortS_len] at h4
    refine ⟨((sortS l).map fS).flatten ++ cs.drop (l.length * 5), by rw [← h4, List.take_left], by rw [List.length_append, h4]; omega, ?_⟩
    have key := call_body (p := vp) (lo := lo) (h := h) (f := n_slices_SortFunc_pgantryapiStep) (fn := slices_SortFunc_pgantryapiStep_v) (args := [.hs n 0 l.length 5, .func n_act_Compare []]) (P := fun r => r = (.tup [], h.set n (.cells true (((sortS l).map fS).flatten ++ cs.drop (l.length * 5))))) rfl (.inr rfl) rfl ?_
    · obtain ⟨r, hr, rfl⟩ := key; exact hr
    simp -implicitDefEqProofs only [go_sem, ↓reduceIte, reduceCtorEq, Int.reduceLT, Int.reduceLE, Int.reduceToNat, Nat.reduceAdd, Nat.reduceMul, Nat.reduceLeDiff, Nat.reduceLT, Nat.reduceSub, Int.reduceNeg, Int.reduceEq, Int.reduceBEq, Int.reduceBNe, Nat.reduceEqDiff, sortF, hz, hn, hlo, hle, ht, hr, h1, h2, h3, h4]
/-- Steps that cannot be done. -/
theorem Steps1_spec {w : Wd} (hw : Ok w) (s : Stp) {n : Nat} {h : VHeap} {rw : Bool} (hn : h[n]? = some (.cells rw (fW w))) (lo : Nat) : ∃ b : Bool, (b = false ↔ canF w s) ∧ callVL vp lo n_act_Steps_1 [.agg (fS s), .ptr n 0] h = some (.bool b, h) := by
  obtain ⟨e, he, hC⟩ := Can_spec hw s
  refine ⟨!decide (e = 0), by simp [he], call_read (fn := act_Steps_1_v) («as» := [.agg (fS s), .ptr n 0]) rfl rfl rfl rfl rfl rfl (.inl rfl) ?_⟩
  have hn' : ∀ a : VBlk, (h ++ [a])[n]? = some (.cells rw (fW w)) := fun a => by rw [List.getElem?_append_left (lt_of_getElem? hn)]; exact hn
  simp only [fW, fS] at hC hn'
  simp -implicitDefEqProofs only [go_sem, ↓reduceIte, reduceCtorEq, Int.reduceLT, Int.reduceLE, Int.reduceToNat, Nat.reduceAdd, Nat.reduceMul, Nat.reduceLeDiff, Nat.reduceLT, Nat.reduceSub, Int.reduceNeg, Int.reduceEq, Int.reduceBEq, Int.reduceBNe, Nat.reduceEqDiff, ap_get0, ap_get, ap_set0, ap_set, ap_take, ap_sub, ap_le, List.append_assoc, Nat.add_assoc, Nat.add_lt_add_iff_left, Nat.lt_add_right_iff_pos, fS, hn', hC]
open Classical in
noncomputable def delF (w : Wd) (s : Stp) : Bool := !decide (canF w s)
theorem Steps1_eq {w : Wd} (hw : Ok w) (s : Stp) {n : Nat} {h : VHeap} {rw : Bool} (hn : h[n]? = some (.cells rw (fW w))) (lo : Nat) : callVL vp lo n_act_Steps_1 [.agg (fS s), .ptr n 0] h = some (.bool (delF w s), h) := by
  obtain ⟨b, hb, hC⟩ := Steps1_spec hw s hn lo
  rw [hC]
  congr 3
  unfold delF
  cases b
  · simp [hb.1 rfl]
  · have : ¬ canF w s := fun h => by have := hb.2 h; cases this
    simp [this]
theorem IndexS_spec {w : Wd} (hw : Ok w) {l : List Stp} {n : Nat} {h : VHeap} {rw : Bool} (hl : l.length ≤ 1000) (hn : h[n]? = some (.cells rw (fW w))) (lo : Nat) :
    ∃ m : Int, ((m = -1 ∧ ∀ s ∈ l, delF w s = false) ∨ ∃ k : Nat, m = k ∧ k < l.length ∧ ∀ j s, j < k → l[j]? = some s → delF w s = false) ∧ ((∀ k : Nat, m = k → ∀ s, l[k]? = some s → delF w s = true)) ∧
    callVL vp lo n_slices_IndexFunc_pgantryapiStep [.list .s (l.map fS), .func n_act_Steps_1 [.ptr n 0]] h = some (.int .i64 m, h) := by
  let R : Int → Prop := fun m => ((m = -1 ∧ ∀ s ∈ l, delF w s = false) ∨ ∃ k : Nat, m = k ∧ k < l.length ∧ ∀ j s, j < k → l[j]? = some s → delF w s = false) ∧ (∀ k : Nat, m = k → ∀ s, l[k]? = some s → delF w s = true)
  have key : ∃ v, (∃ m : Int, R m ∧ v = VV.int .i64 m) ∧ callVL vp lo n_slices_IndexFunc_pgantryapiStep [.list .s (l.map fS), .func n_act_Steps_1 [.ptr n 0]] h = some (v, h) := by
    obtain ⟨P, hP⟩ : ∃ P : VV → Prop, P = fun v : VV => ∃ m : Int, R m ∧ v = .int .i64 m := ⟨_, rfl⟩
    have hP1 : ∀ m : Int, R m → P (.int .i64 m) := fun m hm => by subst hP; exact ⟨m, hm, rfl⟩
    suffices hs : ∃ v, P v ∧ callVL vp lo n_slices_IndexFunc_pgantryapiStep [.list .s (l.map fS), .func n_act_Steps_1 [.ptr n 0]] h = some (v, h) by subst hP; exact hs
    clear hP
    have hE : Sat ((codeVL (callVL vp) h.length slices_IndexFunc_pgantryapiStep_v.fn.body ([.list .s (l.map fS), .func n_act_Steps_1 [.ptr n 0]] ++ List.replicate (slices_IndexFunc_pgantryapiStep_v.fn.ntmps - slices_IndexFunc_pgantryapiStep_v.fn.nargs) (.tup [])) h).bind (endV slices_IndexFunc_pgantryapiStep_v h.length)) fun r => P r.1 := by
      simp -implicitDefEqProofs only [go_sem, ↓reduceIte, reduceCtorEq, Int.reduceLT, Int.reduceLE, Int.reduceToNat, Nat.reduceAdd, Nat.reduceMul, Nat.reduceLeDiff, Nat.reduceLT, Nat.reduceSub, Int.reduceNeg, Int.reduceEq, Int.reduceBEq, Int.reduceBNe, Nat.reduceEqDiff]
      rw [Sat_bind]
      refine loop_up (I := fun i env h' => h' = h ∧ (∀ j s, j < i → l[j]? = some s → delF w s = false) ∧ env = [.list .s (l.map fS), .func n_act_Steps_1 [.ptr n 0], .undef, .undef, .undef, .undef, .undef, .int .i64 ((l.length : Nat) : Int), .int .i64 ((i : Nat) : Int), .undef, .undef, .undef, .undef, .undef, .undef, .undef, .undef, .undef, .undef]) l.length ?_ ?_ (Nat.zero_le _) ⟨rfl, fun j s hj => absurd hj (Nat.not_lt_zero j), by simp -implicitDefEqProofs only [go_sem, ↓reduceIte, reduceCtorEq, Int.reduceLT, Int.reduceLE, Int.reduceToNat, Nat.reduceAdd, Nat.reduceMul, Nat.reduceLeDiff, Nat.reduceLT, Nat.reduceSub, Int.reduceNeg, Int.reduceEq, Int.reduceBEq, Int.reduceBNe, Nat.reduceEqDiff]⟩
      · rintro i env h' hi ⟨rfl, hA, rfl⟩
        obtain ⟨x, hx⟩ := get_some hi
        have hi' : (i : Int) < (l.length : Int) := by omega
        have hw' := wrap_succ (i := i) (by omega)
        have hg := get_map (F := fS) hx
        have hW := Steps1_eq hw x hn
        simp only [fS] at hg hW
        cases hd : delF w x with
        | false =>
          simp -implicitDefEqProofs only [slices_IndexFunc_pgantryapiStep_b0, go_sem, ↓reduceIte, reduceCtorEq, Int.reduceLT, Int.reduceLE, Int.reduceToNat, Nat.reduceAdd, Nat.reduceMul, Nat.reduceLeDiff, Nat.reduceLT, Nat.reduceSub, Int.reduceNeg, Int.reduceEq, Int.reduceBEq, Int.reduceBNe, Nat.reduceEqDiff, hi', hg, hw', hW, hd]
          intro j g hj hjg
          rcases Nat.lt_succ_iff_lt_or_eq.1 hj with hj | rfl
          · exact hA j g hj hjg
          · rw [hx] at hjg; cases hjg; exact hd
        | true =>
          simp -implicitDefEqProofs only [slices_IndexFunc_pgantryapiStep_b0, go_sem, ↓reduceIte, reduceCtorEq, Int.reduceLT, Int.reduceLE, Int.reduceToNat, Nat.reduceAdd, Nat.reduceMul, Nat.reduceLeDiff, Nat.reduceLT, Nat.reduceSub, Int.reduceNeg, Int.reduceEq, Int.reduceBEq, Int.reduceBNe, Nat.reduceEqDiff, hi', hg, hw', hW, hd]
          refine hP1 i ⟨.inr ⟨i, rfl, hi, hA⟩, fun k hk s hs => ?_⟩
          obtain rfl : i = k := by omega
          rw [hx] at hs; cases hs; exact hd
      · rintro env h' ⟨rfl, hA, rfl⟩
        simp -implicitDefEqProofs only [slices_IndexFunc_pgantryapiStep_b0, go_sem, ↓reduceIte, reduceCtorEq, Int.reduceLT, Int.reduceLE, Int.reduceToNat, Nat.reduceAdd, Nat.reduceMul, Nat.reduceLeDiff, Nat.reduceLT, Nat.reduceSub, Int.reduceNeg, Int.reduceEq, Int.reduceBEq, Int.reduceBNe, Nat.reduceEqDiff, Int.lt_irrefl]
        refine hP1 (-1) ⟨.inl ⟨rfl, fun s hs => ?_⟩, fun k hk => by omega⟩
        obtain ⟨j, hj⟩ := List.mem_iff_getElem?.1 hs
        exact hA j s (lt_of_getElem? hj) hj
    obtain ⟨r, hr, hPr⟩ := hE
    exact ⟨r.1, hPr, call_read (fn := slices_IndexFunc_pgantryapiStep_v) («as» := [.list .s (l.map fS), .func n_act_Steps_1 [.ptr n 0]]) rfl rfl rfl rfl rfl rfl (.inl rfl) ⟨r, hr, rfl⟩⟩
  obtain ⟨v, ⟨m, hm, rfl⟩, hc⟩ := key
  exact ⟨m, hm.1, hm.2, hc⟩
end Vg.G3
